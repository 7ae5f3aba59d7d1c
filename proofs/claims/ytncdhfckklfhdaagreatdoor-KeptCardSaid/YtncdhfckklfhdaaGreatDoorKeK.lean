/- A host's runs: the engine's, ranged over. -/
import Derived.Test.YtncdhfckklfhdaaGreatDoorKeJ
import Derived.Test.YtncdhfckklfhdaaGreatDoorKeI
import Derived.Test.YtncdhfckklfhdaaGreatDoorKeE
import Derived.Test.YtncdhfckklfhdaaGreatDoorKeF
import Derived.Test.YtncdhfckklfhdaaGreatDoorKeH
import Derived.BigQuiet
set_option linter.defProp false
set_option maxHeartbeats 8000000
set_option maxRecDepth 100000
variable{bs:List UInt8}{G:Go.SL.Env->Prop}{A:Option Go.Addr}{s:Except Nat Nat}{v:Go.Value}{I b c e i j n:Nat}{σ:FK.Dsk}{M:FR.En}{S:FK.En}{J:FK.Jn}{o:Option Nat}{ns:List Go.Y.ND}{p:Int×Int}{ts:List (Nat×Go.Value)}{u:FR.Rn}{fr l m r:List Go.SL.HP}{f fl:FK.Flow}{E:Go.SL.Env}{a:Go.Y.RfA}{vs:List Go.Value}{P:Go.Program}{R:FK.Rn}{w:Go.World}{k x:Int}
namespace Go.SL
open Go.RowKit
def Ee{t I:TypeId}{x:Operand}{f:Fn}{a b:Array Value}{ps K:Array TypeId}{O:Bool}(T:P.underlying t=some (.func ps K O))(Y:ev ts x=some (.func f a b)):Ev P ts (.binOp .eql t x (.const .nilFunc) I) (.bool false) Any:=by
 intro ac w _ _ _ _ _ E _;exact ff (E.eval Y) (E.eval (x:=.const _) Z) (by simp[eqGuard]) (mQ Z λd=>by simp[Op.equalIn,run_underlying T])
end Go.SL
namespace Go.Y
open Go.Proofs Tryz Go.RowKit Go.SL
abbrev kJ(v:Value)(E:List Nat):HP:=row 36 1 v E.length (E.map aU)
abbrev Hq(c:Nat)(v:Value):HP:=blk c 68 #[v]
theorem yl{I:List Nat}(hk:I.length<=100000):Seqs prog G 166 #[aY c] aU (λss=>ss=I) I.length [Hq c v,kJ v I]:=by
 intro lo J hY;have e:(#[.func (.yield lo) #[] #[]]++#[aY c]:Array Value)=[.func (.yield lo) #[] #[],aY c].toArray:=by simp
 rw[e];refine bz func166 Z λE fr hE=>ao (l':=Hq c v::kJ v I::(J []++fr)) aQ<|aN bJ ?_
 intro A O hv T Y _ _ _;subst hv;refine sS<|bF (au (v:=.slice A I.length O) Z) (ah Z)<|sP (bh Z Z)<|sM Z<|sN<|ai<|aO (X:=Nat) (λi=>[(7,aA i),(6,aA I.length),(5,.slice A I.length O),(0,.func (.yield lo) #[] #[])]) (λi=>Hq c (.slice A I.length O)::kJ (.slice A I.length O) I::(J (I.take i)++fr)) (λi=>i<=I.length) (λi=>I.length-i) 0 (Nat.zero_le _) bW aQ ?_
 intro i hi;replace hi:i<=I.length:=hi;refine sS<|sP (bq Z Z Z)<|sN<|sQ<|aC Z (λc8=>?_) λc8=>?_
 ·have K:i<I.length:=am;obtain⟨g,rfl⟩:∃g,A=some ⟨g,0,none⟩:=by
   cases A with
   |none=>have:=(T rfl).1;omega
   |some ad=>obtain⟨g,rfl⟩:=Y ad rfl;exact⟨g,rfl⟩
  obtain⟨x,hx⟩:∃x,I[i]?=some x:=⟨I[i],by simp[K]⟩;have d6:I.take (i+1)=I.take i++[x]:=by rw[List.take_add_one,hx];rfl
  refine aa<|sT<|sQ<|ai<|sS<|sP (aV (z:=1) Z Z Z Z K)<|bF (au (v:=aU x) Z) (ii bJ (by simp[hx]))<|sB Z<|sQ<|pc<|LI.pure Z (bg Z)<|LI.pure Z (bg Z)<|LI.yield Z Z Z (hY (I.take i) x (by rw[List.length_take];omega)) ((Ent.cons eJ).trans eJ)<|LI.pure Z (cA (r:=false) Z Z)<|LI.nil<|sT<|ag Z<|aa<|al<|sT<|sG<|sP (dM Z Z)<|sM Z<|ap<|aH (i+1) K (by show I.length-(i+1)<I.length-i;omega) bW (by rw[d6];exact Ent.back.trans (Ent.cons Ent.back))
 ·refine aM<|aw<|az<|aq<|dt ([Hq c (.slice A I.length O),kJ (.slice A I.length O) I]++J (I.take i)) Z ⟨I.take i,List.take_of_length_le am,rfl⟩ aQ
def AL(v:Value):dz G 115 [v] [] λu m=>∃c,u=.func (.func 166) #[] #[aY c]/\m=[blk c 68 v.cells]:=by
 refine bz func115 Z λE fr K=>aW<|sS<|sO (cP Z Z λI=>(sB Z (sS (sP (gj Z Z) (sB Z<|an<|ar [blk I 68 v.cells] rfl Z ⟨I,rfl,rfl⟩ aQ)))))
section
variable{h f d:Nat}{p:EA}
abbrev Idl(S:FK.En)(E:List Nat):Prop:=E.Perm (S.runs.map (·.1))/\E.Pairwise (·<=·)
def D8(O:S.runs.length<=12):dS 55 [aY f] (ch f e j d p S J σ) λv m=>∃I c y,Idl S I/\v=.func (.func 166) #[] #[aY c]/\m=Hq c y::kJ y I::ch f e j d p S J σ:=by
 refine bz func55 Z λE fr hE=>bT<|sS<|sB Z<|sS<|cE 0 Z Z<|aL Z Z Z Z<|bQ Z (JI O) gfE1 ?_
 rintro v m ⟨I,T,Y,rfl⟩;refine aE<|aN bJ ?_
 rintro A K rfl - - - - -
 refine bQ Z (AL (.slice A I.length K)) aQ ?_;rintro v m ⟨c,rfl,rfl⟩;refine ae<|sB Z<|an<|aB c #[.slice A I.length K] rfl<|ar (Hq c (.slice A I.length K)::kJ (.slice A I.length K) I::ch f e j d p S J σ) Z Z ⟨I,c,_,⟨T,Y⟩,rfl,rfl⟩ ?_
 exact aG
def DT(hl:S.runs.length<=12):dS 19 [aY h,aA 0] (cr h f e j d p S J σ) λv m=>∃Y y,Idl S Y/\v=.tuple #[y,.bool true]/\m=kJ y Y::cr h f e j d p S J σ:=by
 refine vB func19 Z Z λE fr hE=>du<|sS<|sO (cP Z Z λb3=>(sA Z (sB Z (sQ (sS (sM Z (cZ Z (bm 1 Z (aL Z Z Z Z (sP (eo Z Z Z) (sN (ag Z (aa (sT<|sS<|cE 1 Z Z<|aL Z Z Z Z (bQ Z (D8 hl) (Ent.trans gfE2 (Ent.cons (cM dm dm dm))) ?_)))))))))))))))
 rintro v m ⟨Y,c,y,hI,rfl,rfl⟩;refine jS<|sB Z<|sQ<|bp Z<|sP (Ee Z Z)<|sN<|ag Z<|aa<|sT<|sS<|sO (cO (z:=cB) Z λT=>(sN (sQ (bp Z<|sN<|ai ?_))))
 have f8:Y.length<=12:=by have:=hI.1.length_eq;rw[List.length_map]at this;omega
 refine aB T #[eC] rfl<|aB b3 #[aA 0] rfl<|ao (l':=Hq T eC::Hq c y::kJ y Y::blk b3 3 #[aA 0]::cr h f e j d p S J σ++fr) (by show Ent _ (_::_::_::_::bE h d f::dO f e j::aP e p S::aS j d J::aI d σ::fr);exact aG)<|qp (pre:=[Hq c y,kJ y Y]) (fr:=cr h f e j d p S J σ++fr) (j:=8) (λdone=>[toldU T done,blk b3 3 #[aA 0]]) Z Z hE Z (yl am) ?_ (λlo E' L x K h=>AI.region (LI.pure Z (aX Z) (LI.nil (vl h)))) (λlo E' d6 done x d9=>?_) λbb ss hS=>?_
 ·refine((Ent.row0 (e:=36) (size:=1)).trans (gfE1.trans (Ent.toldU (l:=[])))).trans ?_
  show Ent (_::Hq c y::kJ y Y::_::(cr h f e j d p S J σ++fr)) (Hq c y::kJ y Y::_::_::(cr h f e j d p S J σ++fr));exact aG
 ·refine AI.block<|AI.seq<|AI.region ?_
  refine df .head λy=>bC<|ao (l':=blk T 68 #[y]::row 36 1 y done.length (done.map aU)::blk b3 3 #[aA 0]::d6) aQ<|LI.val Z (au (v:=y) Z) (ah Z)<|LI.pure Z (bg Z)<|LI.op Z (dw (m:=1) (z:=aU 0) (size:=1) (ps:=[(0,.tmp 24)]) (vs:=[aU x]) (cs:=#[aU x]) Z Z Z Z am am Z (IA _ _) λf7=>LI.op rfl (ce rfl rfl Mj rfl am rfl rfl (HasVal.sel (v:=y)) (news:=[aU x]) rfl fX iy eG gk am λd7 d8=>aN (HasVal.sel (v:=d7)) ?_))
  rintro I O rfl - - - - -
  refine LI.op Z<|cq Z Z Z Z Z di ?_
  refine aB T #[.slice I (done.length+1) O] rfl<|LI.nil<|sT<|AI.seq<|AI.region<|LI.val Z (au (v:=.slice I (done.length+1) O) Z) (ah Z)<|LI.pure Z (bh Z Z)<|LI.val Z (au (v:=aA 0) Z) (ah Z)<|LI.pure Z (eE Z Z am)<|LI.nil<|sT<|Kt Z<|AI.skip<|al<|og<|Ent.trans (Ent.trans (b:=blk T 68 #[.slice I (done.length+1) O]::row 36 1 (.slice I (done.length+1) O) (done++[x]).length ((done++[x]).map aU)::blk b3 3 #[aA 0]::d6) ?_ (Ent.toldU (v:=.slice I (done.length+1) O) (l:=done++[x]))) aQ
  rw[List.length_append,List.map_append];show Ent _ (blk T 68 #[.slice I (done.length+1) O]::row 36 1 (.slice I (done.length+1) O) (done.length+1) (done.map aU++[aU x])::blk b3 3 #[aA 0]::d6);exact aG
 subst hS;refine ao (l':=toldU T ss::pj bb::(cr h f e j d p S J σ++fr)) (by show Ent (_::_::_::_::_::(cr h f e j d p S J σ++fr)) _;exact gfE3.trans (Ent.cons (Ent.cons (Ent.drop.trans (Ent.drop.trans Ent.drop)))))<|df .head λy=>bC<|ao (l':=Hq T y::kJ y ss::pj bb::(cr h f e j d p S J σ++fr)) aQ<|al<|sT<|sS<|bF (au (v:=y) Z) (ah Z)<|sA Z<|sB Z<|an<|BO (kJ y ss::cr h f e j d p S J σ) dm Z Z Z ⟨ss,y,hI,rfl,rfl⟩ Ent.drop
end
section
variable{h f d:Nat}{p:EA}
def B5:dz G 54 [aY f] (ch f e j d p S J σ) λv m=>v=.tuple #[aU S.now,aU S.seed]/\m=ch f e j d p S J σ:=by
 refine bz func54 Z λE fr I=>bT<|sS<|sA Z<|sB Z<|sS<|cE 0 Z Z<|aL Z Z Z Z<|bV Z El gfE1<|ae<|bG Z Z<|bG Z Z<|sA Z<|sB Z<|an<|dr (ch f e j d p S J σ) Z Z Z ⟨rfl,rfl⟩ ?_
 exact aG
def Iy:Ent (cr h f e j d p S J σ++l) (ch f e j d p S J σ++(bE h d f::l)):=eJ (l:=ch f e j d p S J σ)
def E2:Ent (ch f e j d p S J σ++(bE h d f::l)) (cr h f e j d p S J σ++l):=Ent.back (l:=ch f e j d p S J σ)
def BL:dz G 18 [aY h] (cr h f e j d p S J σ) λv m=>v=.tuple #[aU S.now,aU S.seed]/\m=cr h f e j d p S J σ:=by
 refine bz func18 Z λE fr I=>du<|sS<|sA Z<|sB Z<|sQ<|sS<|cE 1 Z Z<|aL Z Z Z Z<|sP (eo Z Z Z)<|sN<|ag Z<|aa<|sT<|sS<|cE 1 Z Z<|aL Z Z Z Z<|bV Z B5 Iy<|bG Z Z<|bG Z Z<|sA Z<|sB Z<|an<|dr (cr h f e j d p S J σ) Z Z Z ⟨rfl,rfl⟩ E2
def zW{fp:Option Addr}:dz G 9 [aY h] [db h d fp] λv m=>v=.bool (!fp.isNone)/\m=[db h d fp]:=by
 refine bz func9 Z λE fr I=>ae<|sS<|sB Z<|sS<|cE 1 Z Z<|aL Z Z Z Z<|sP (Ed Z Z Z)<|sB Z<|an<|ar [db h d fp] rfl Z ⟨rfl,rfl⟩ aQ
def qo{id:Nat}(K:S.getR id=none):dS 20 [aY h,aU id] (cr h f e j d p S J σ) λv m=>v=.tuple #[.agg (cv 0 0 eC eC).toArray,aA 6]/\m=cr h f e j d p S J σ:=by
 refine bz func20 Z λE fr T=>du<|sS<|sO (cO (z:=.agg #[cd 0,aA 0,cB,cB]) Z λI=>(sB Z (sQ (sS (sM Z (cZ Z (bm 1 Z (aL Z Z Z Z (sP (eo Z Z Z) (sN (ag Z (aa (sT (sQ (ao (l':=dO f e j::aP e p S::aS j d J::aI d σ::bE h d f::blk I 72 (cv 0 0 eC eC).toArray::fr) (by show Ent (blk I 72 (cv 0 0 eC eC).toArray::_) _;exact aG) (sG<|cE 1 Z Z<|aL Z Z Z Z<|sM Z (bV Z (yP K) aQ (bT<|sM Z<|bG Z Z<|bG Z Z<|sO (cO (z:=.agg #[cd 0,aA 0,cB,cB]) Z λO=>sO<|bk Z (m:=4) (vs:=cv 0 0 eC eC) Z Z Z Z eG (by show 0+4<=4;omega) ?_)))))))))))))))))))
 refine aB O (cv 0 0 eC eC).toArray Z<|sB Z<|sQ<|sZ Z<|jW 0 Z (bR (vs:=cv 0 0 eC eC) Z) (bl Z)<|cC Z Z<|dI 2 Z<|dP Z (ip 6) aQ ?_
 rintro v m ⟨rfl,rfl⟩;refine aW<|dK [true] (aj (bl Z) ak)<|dI 3 Z<|bk Z (m:=4) (vs:=cv 0 0 eC eC) Z Z Z Z eG (by show 0+4<=4;omega) ?_
 refine dK [false] ak<|dx 4 Z (aX Z)<|dE<|sT<|an<|aB I (cv 0 0 eC eC).toArray Z<|de (cr h f e j d p S J σ) Z (bU (vs:=cv 0 0 eC eC) Z Z Z Z (bl Z)) (bS Z) ec ?_
 exact aG
def Bq(I:S.NP=[]):dz G 118 [aY e] [aP e p S] λv m=>v=eC/\m=[aP e p S]:=by
 refine bz func118 Z λE fr K=>ae<|sS<|sB Z<|sS<|sB Z<|sQ<|sS<|cE 3 Z Z<|bV Z uj aQ<|ae<|sM Z<|sN<|ai<|aO (X:=Unit) (λ_=>[(10,aA 0),(9,aA S.NP.length),(3,eC)]) (λ_=>aP e p S::fr) (λ_=>True) (λ_=>0) () trivial bW aQ ?_
 intro _ _;exact sS<|sP (bq (r:=false) Z Z (by rw[I];rfl))<|sN<|sQ<|ag Z<|aM<|aw<|az<|aq<|sT<|bp Z<|sB Z<|an<|ar [aP e p S] rfl Z ec aQ
def yN(I:S.NP=[]):dz G 60 [aY f] (ch f e j d p S J σ) λv m=>v=eC/\m=ch f e j d p S J σ:=by
 refine bz func60 Z λE fr K=>bT<|sS<|sB Z<|sS<|cE 0 Z Z<|aL Z Z Z Z<|bV Z (Bq I) gfE1<|ae<|sB Z<|an<|ar (ch f e j d p S J σ) Z Z ⟨rfl,rfl⟩ ?_
 exact aG
def yI(I:S.NP=[]):dz G 25 [aY h] (cr h f e j d p S J σ) λv m=>v=eC/\m=cr h f e j d p S J σ:=by
 refine bz func25 Z λE fr K=>du<|sS<|sB Z<|sQ<|sS<|cE 1 Z Z<|aL Z Z Z Z<|sP (eo Z Z Z)<|sN<|ag Z<|aa<|sT<|sQ<|sG<|cE 1 Z Z<|aL Z Z Z Z<|bV Z (yN I) Iy<|sB Z<|an<|ar (cr h f e j d p S J σ) Z Z ⟨rfl,rfl⟩ E2
def yH(I:FK.Ok S):dS 25 [aY h] (cr h f e j d p S J σ) λv m=>(S.NP=[]->v=eC)/\m=row 95 4 v S.NP.length (qV S S.NP)::cr h f e j d p S J σ:=by
 by_cases E:S.NP=[]
 ·refine(yI E).mono ?_
  rintro v m ⟨rfl,rfl⟩;refine⟨_,⟨λ_=>rfl,rfl⟩,?_⟩;rw[E];exact Ent.row0
 ·exact(BH I).mono λv m K=>⟨m,⟨λh=>absurd h E,K⟩,aQ⟩
end
section
variable{h f d:Nat}{p:EA}
abbrev tP(f h d:Nat)(l fu ke pa:Int)(aft:FK.Dsk->Option Addr×FK.Dsk)(ω:FK.Dsk):Prop:=dS 16 [aY h,mf l fu ke pa] [bE h d f,aI d ω] λv m=>v=.tuple #[]/\m=[db h d (aft ω).1,aI d (aft ω).2]
variable{l fu ke pa:Int}{aft:FK.Dsk->Option Addr×FK.Dsk}{Q:Int->FK.En->FK.Jn->FK.Dsk->Prop}
def Mm(T:dS 69 [aY f,aU n] (ch f e j d p S J {σ with left:=l,full:=fu}) λv m=>∃c U I ω,v=dU c/\Q c U I ω/\m=ch f e j d p U I ω)(Y:∀c U I ω,Q c U I ω->tP f h d l fu ke pa aft ω):dS 37 [aY h,aA 3,aU n,mf l fu ke pa] (cr h f e j d p S J σ) λv m=>∃c U I ω,v=aA c/\Q c U I ω/\m=[db h d (aft ω).1,dO f e j,aP e p U,aS j d I,aI d (aft ω).2]:=by
 refine bz func37 Z λE fr hE=>du<|sS<|sO (cP Z Z λO=>(sB Z (sQ (sS (sM Z (cZ Z (bm 1 Z (aL Z Z Z Z (sP (eo Z Z Z) (sN (ag Z (aa (sT (bp Z<|bF (bR (vs:=ct l fu ke pa) Z) (bl Z) (bV Z (eM l fu ke pa) (bo bJ kK) (aE (ao (l':=dO f e j::aP e p S::aS j d J::aI d {σ with left:=l,full:=fu}::bE h d f::blk O 31 (ct l fu ke pa).toArray::fr) (by show Ent (bE h d f::aI d _::blk O 31 (ct l fu ke pa).toArray::dO f e j::aP e p S::aS j d J::fr) _;exact aG) (sN<|sS<|sB Z<|sQ<|bp Z<|sN<|ai<|sS<|sP (bc Z Z Z)<|sB Z (aK Z<|sG<|cE 1 Z Z<|aL Z Z Z Z<|sM Z (bQ Z T aQ ?_))))))))))))))))))))
 rintro v m ⟨c,U,I,ω,rfl,K,rfl⟩;refine bT<|sA Z<|ap<|al<|sT<|sQ<|ao (l':=bE h d f::aI d ω::dO f e j::aP e p U::aS j d I::blk O 31 (ct l fu ke pa).toArray::fr) aG<|sG<|sM Z<|bF (bR (vs:=ct l fu ke pa) Z) (bl Z)<|bV Z (Y c U I ω K) aQ<|aE<|sN<|bp Z<|bV Z (ip c) aQ<|aW<|sB Z<|an<|ar [db h d (aft ω).1,dO f e j,aP e p U,aS j d I,aI d (aft ω).2] rfl Z ⟨c,U,I,ω,rfl,K,rfl⟩ ?_
 exact aG
def Ml(T:dS 70 [aY f,aU n] (ch f e j d p S J {σ with left:=l,full:=fu}) λv m=>∃c U I ω,v=dU c/\Q c U I ω/\m=ch f e j d p U I ω)(Y:∀c U I ω,Q c U I ω->tP f h d l fu ke pa aft ω):dS 37 [aY h,aA 4,aU n,mf l fu ke pa] (cr h f e j d p S J σ) λv m=>∃c U I ω,v=aA c/\Q c U I ω/\m=[db h d (aft ω).1,dO f e j,aP e p U,aS j d I,aI d (aft ω).2]:=by
 refine bz func37 Z λE fr hE=>du<|sS<|sO (cP Z Z λO=>(sB Z (sQ (sS (sM Z (cZ Z (bm 1 Z (aL Z Z Z Z (sP (eo Z Z Z) (sN (ag Z (aa (sT (bp Z<|bF (bR (vs:=ct l fu ke pa) Z) (bl Z) (bV Z (eM l fu ke pa) (bo bJ kK) (aE (ao (l':=dO f e j::aP e p S::aS j d J::aI d {σ with left:=l,full:=fu}::bE h d f::blk O 31 (ct l fu ke pa).toArray::fr) (by show Ent (bE h d f::aI d _::blk O 31 (ct l fu ke pa).toArray::dO f e j::aP e p S::aS j d J::fr) _;exact aG) (sN<|sS<|sB Z<|sQ<|bp Z<|sN<|ai<|sS<|sP (bc Z Z Z)<|sB Z (ag Z<|sS<|sP (bc Z Z Z)<|sB Z<|aK Z<|sG<|cE 1 Z Z<|aL Z Z Z Z<|sM Z (bQ Z T aQ ?_))))))))))))))))))))
 rintro v m ⟨c,U,I,ω,rfl,K,rfl⟩;refine bT<|sA Z<|ap<|al<|sT<|sQ<|ao (l':=bE h d f::aI d ω::dO f e j::aP e p U::aS j d I::blk O 31 (ct l fu ke pa).toArray::fr) aG<|sG<|sM Z<|bF (bR (vs:=ct l fu ke pa) Z) (bl Z)<|bV Z (Y c U I ω K) aQ<|aE<|sN<|bp Z<|bV Z (ip c) aQ<|aW<|sB Z<|an<|ar [db h d (aft ω).1,dO f e j,aP e p U,aS j d I,aI d (aft ω).2] rfl Z ⟨c,U,I,ω,rfl,K,rfl⟩ ?_
 exact aG
def Mk(T:dS 71 [aY f,aU n] (ch f e j d p S J {σ with left:=l,full:=fu}) λv m=>∃c U I ω,v=dU c/\Q c U I ω/\m=ch f e j d p U I ω)(Y:∀c U I ω,Q c U I ω->tP f h d l fu ke pa aft ω):dS 37 [aY h,aA 5,aU n,mf l fu ke pa] (cr h f e j d p S J σ) λv m=>∃c U I ω,v=aA c/\Q c U I ω/\m=[db h d (aft ω).1,dO f e j,aP e p U,aS j d I,aI d (aft ω).2]:=by
 refine bz func37 Z λE fr hE=>du<|sS<|sO (cP Z Z λO=>(sB Z (sQ (sS (sM Z (cZ Z (bm 1 Z (aL Z Z Z Z (sP (eo Z Z Z) (sN (ag Z (aa (sT (bp Z<|bF (bR (vs:=ct l fu ke pa) Z) (bl Z) (bV Z (eM l fu ke pa) (bo bJ kK) (aE (ao (l':=dO f e j::aP e p S::aS j d J::aI d {σ with left:=l,full:=fu}::bE h d f::blk O 31 (ct l fu ke pa).toArray::fr) (by show Ent (bE h d f::aI d _::blk O 31 (ct l fu ke pa).toArray::dO f e j::aP e p S::aS j d J::fr) _;exact aG) (sN<|sS<|sB Z<|sQ<|bp Z<|sN<|ai<|sS<|sP (bc Z Z Z)<|sB Z (ag Z<|sS<|sP (bc Z Z Z)<|sB Z<|ag Z<|sS<|sP (bc Z Z Z)<|sB Z<|aK Z<|sG<|cE 1 Z Z<|aL Z Z Z Z (sM Z (bQ Z T aQ ?_)))))))))))))))))))))
 rintro v m ⟨c,U,I,ω,rfl,K,rfl⟩;refine bT<|sA Z<|ap<|al<|sT<|sQ<|ao (l':=bE h d f::aI d ω::dO f e j::aP e p U::aS j d I::blk O 31 (ct l fu ke pa).toArray::fr) aG<|sG<|sM Z<|bF (bR (vs:=ct l fu ke pa) Z) (bl Z)<|bV Z (Y c U I ω K) aQ<|aE<|sN<|bp Z<|bV Z (ip c) aQ<|aW<|sB Z<|an<|ar [db h d (aft ω).1,dO f e j,aP e p U,aS j d I,aI d (aft ω).2] rfl Z ⟨c,U,I,ω,rfl,K,rfl⟩ ?_
 exact aG
def Hz(T:dS 72 [aY f,aU n] (ch f e j d p S J {σ with left:=l,full:=fu}) λv m=>∃c U I ω,v=dU c/\Q c U I ω/\m=ch f e j d p U I ω)(Y:∀c U I ω,Q c U I ω->tP f h d l fu ke pa aft ω):dS 37 [aY h,aA 6,aU n,mf l fu ke pa] (cr h f e j d p S J σ) λv m=>∃c U I ω,v=aA c/\Q c U I ω/\m=[db h d (aft ω).1,dO f e j,aP e p U,aS j d I,aI d (aft ω).2]:=by
 refine bz func37 Z λE fr hE=>du<|sS<|sO (cP Z Z λO=>(sB Z (sQ (sS (sM Z (cZ Z (bm 1 Z (aL Z Z Z Z (sP (eo Z Z Z) (sN (ag Z (aa (sT (bp Z<|bF (bR (vs:=ct l fu ke pa) Z) (bl Z) (bV Z (eM l fu ke pa) (bo bJ kK) (aE (ao (l':=dO f e j::aP e p S::aS j d J::aI d {σ with left:=l,full:=fu}::bE h d f::blk O 31 (ct l fu ke pa).toArray::fr) (by show Ent (bE h d f::aI d _::blk O 31 (ct l fu ke pa).toArray::dO f e j::aP e p S::aS j d J::fr) _;exact aG) (sN<|sS<|sB Z<|sQ<|bp Z<|sN<|ai<|sS<|sP (bc Z Z Z)<|sB Z (ag Z<|sS<|sP (bc Z Z Z)<|sB Z<|ag Z<|sS<|sP (bc Z Z Z)<|sB Z<|ag Z<|sS<|sP (bc Z Z Z)<|sA Z<|ap (sT<|aK Z<|sG<|cE 1 Z Z<|aL Z Z Z Z<|sM Z (bQ Z T aQ ?_)))))))))))))))))))))
 rintro v m ⟨c,U,I,ω,rfl,K,rfl⟩;refine bT<|sA Z<|ap<|al<|sT<|sQ<|ao (l':=bE h d f::aI d ω::dO f e j::aP e p U::aS j d I::blk O 31 (ct l fu ke pa).toArray::fr) aG<|sG<|sM Z<|bF (bR (vs:=ct l fu ke pa) Z) (bl Z)<|bV Z (Y c U I ω K) aQ<|aE<|sN<|bp Z<|bV Z (ip c) aQ<|aW<|sB Z<|an<|ar [db h d (aft ω).1,dO f e j,aP e p U,aS j d I,aI d (aft ω).2] rfl Z ⟨c,U,I,ω,rfl,K,rfl⟩ ?_
 exact aG
def hdo8G(T:dS 74 [aY f,aU n] (ch f e j d p S J {σ with left:=l,full:=fu}) λv m=>∃c U I ω,v=dU c/\Q c U I ω/\m=ch f e j d p U I ω)(Y:∀c U I ω,Q c U I ω->tP f h d l fu ke pa aft ω):dS 37 [aY h,aA 8,aU n,mf l fu ke pa] (cr h f e j d p S J σ) λv m=>∃c U I ω,v=aA c/\Q c U I ω/\m=[db h d (aft ω).1,dO f e j,aP e p U,aS j d I,aI d (aft ω).2]:=by
 refine bz func37 Z λE fr hE=>du<|sS<|sO (cP Z Z λO=>(sB Z (sQ (sS (sM Z (cZ Z (bm 1 Z (aL Z Z Z Z (sP (eo Z Z Z) (sN (ag Z (aa (sT (bp Z<|bF (bR (vs:=ct l fu ke pa) Z) (bl Z) (bV Z (eM l fu ke pa) (bo bJ kK) (aE (ao (l':=dO f e j::aP e p S::aS j d J::aI d {σ with left:=l,full:=fu}::bE h d f::blk O 31 (ct l fu ke pa).toArray::fr) (by show Ent (bE h d f::aI d _::blk O 31 (ct l fu ke pa).toArray::dO f e j::aP e p S::aS j d J::fr) _;exact aG) (sN<|sS<|sB Z<|sQ<|bp Z<|sN<|ai<|sS<|sP (bc Z Z Z)<|sB Z (ag Z<|sS<|sP (bc Z Z Z)<|sB Z<|ag Z<|sS<|sP (bc Z Z Z)<|sB Z<|ag Z<|sS<|sP (bc Z Z Z)<|sA Z<|ap (sT<|ag Z<|sS<|sP (bc Z Z Z)<|sB Z<|ag Z<|sS<|sP (bc Z Z Z)<|sB Z<|aK Z<|sG<|cE 1 Z Z (aL Z Z Z Z<|sM Z (bQ Z T aQ ?_))))))))))))))))))))))
 rintro v m ⟨c,U,I,ω,rfl,K,rfl⟩;refine bT<|sA Z<|ap<|al<|sT<|sQ<|ao (l':=bE h d f::aI d ω::dO f e j::aP e p U::aS j d I::blk O 31 (ct l fu ke pa).toArray::fr) aG<|sG<|sM Z<|bF (bR (vs:=ct l fu ke pa) Z) (bl Z)<|bV Z (Y c U I ω K) aQ<|aE<|sN<|bp Z<|bV Z (ip c) aQ<|aW<|sB Z<|an<|ar [db h d (aft ω).1,dO f e j,aP e p U,aS j d I,aI d (aft ω).2] rfl Z ⟨c,U,I,ω,rfl,K,rfl⟩ ?_
 exact aG
end
section
variable{h f d t:Nat}{p:EA}
def B7(I:S.NQ.any (·.1==t)=false):dS 69 [aY f,aU t] (ch f e j d p S J σ) λv m=>v=dU 7/\m=ch f e j d p S J σ:=by
 refine bz func69 Z λE fr K=>bT<|sS<|sB Z<|bp Z<|sM Z<|bV Z (pw (op:=3) I) aQ<|bT<|sB Z<|an<|ar (ch f e j d p S J σ) Z Z ⟨rfl,rfl⟩ aQ
def B6{id k:Nat}{wh:Int}{nd:FK.Node}(h:FK.Ok S)(T:t<18446744073709551616)(Y:J.n<1000000)(hr:Roomy σ)(O:(S.NQ.find? (·.1==t)).map (·.2)=some ⟨id,(k:Int),wh⟩)(hR:S.getR id=some R)(hnd:R.fl.NO[k]?=some nd)(I:S.sets<9223372036854775807):dS 69 [aY f,aU t] (ch f e j d p S J σ) (CallPost f e j d p S J σ 3 t λU=>U=S.life ⟨id,(k:Int),wh⟩ nd):=by
 refine bz func69 Z λE fr hE=>bT<|sS<|sB Z<|bp Z<|sM Z<|bQ Z (pu (op:=3) (Q:=λU=>U=S.life ⟨id,(k:Int),wh⟩ nd) (uF O) (lc (op:=3) am T Y hr (Au ((FA h O hR hnd I).mono λv m K=>⟨m,⟨K.1,_,rfl,K.2⟩,aQ⟩)))) aQ ?_
 rintro v m K;exact sB Z<|an<|ar m Z Z K aQ
def D7(K:t<18446744073709551616)(O:J.n<1000000)(T:Roomy σ):dS 74 [aY f,aU t] (ch f e j d p S J σ) (CallPost f e j d p S J σ 8 t λU=>U={S with seed:=t}):=by
 refine bz func74 Z λE fr Y=>bT<|sS<|sB Z<|bp Z<|sM Z<|bQ Z (lc (op:=8) (Q:=λU=>U={S with seed:=t}) am K O T (Ao ((wJ t).mono λv m I=>⟨m,⟨I.1,_,rfl,I.2⟩,aQ⟩))) aQ ?_
 rintro v m I;exact sB Z<|an<|ar m Z Z I aQ
def pf(I:∀R,S.getR t=some R->R.state≠1):dS 72 [aY f,aU t] (ch f e j d p S J σ) λv m=>v=dU 6/\m=ch f e j d p S J σ:=by
 refine bz func72 Z λE fr O=>bT<|sS<|sB Z<|sQ<|sS<|cE 0 Z Z<|aL Z Z Z Z<|sM Z<|bV Z (wL t) gfE1<|ae<|je rfl (cA (r:=true) rfl (by cases K:S.getR t with|none=>rfl|some R=>simp[I R K]))<|sN<|aK Z<|sS<|sP (em Z Z Z)<|sB Z<|an<|aD<|ar (ch f e j d p S J σ) Z Z ⟨rfl,rfl⟩ ?_
 exact aG
def vV(h:FK.Ok S)(Y:t<18446744073709551616)(hJ:J.n<1000000)(hr:Roomy σ)(T:S.getR t=some R)(O:R.state=1)(I:S.ends<9223372036854775807):dS 72 [aY f,aU t] (ch f e j d p S J σ) (CallPost f e j d p S J σ 6 t λU=>U=S.finish t 4):=by
 refine bz func72 Z λE fr hE=>bT<|sS<|sB Z<|sQ<|sS<|cE 0 Z Z<|aL Z Z Z Z<|sM Z<|bV Z (wL t) gfE1<|ae<|sP (cA (r:=false) Z (by rw[T];simp[O]))<|sN<|ag Z<|aa<|sT<|bp Z<|sM Z<|bQ Z (lc (op:=6) (Q:=λU=>U=S.finish t 4) am Y hJ hr (Aq ((xq h T I).mono λv m K=>⟨m,⟨K.1,_,rfl,K.2⟩,aQ⟩))) (gfE1.trans (Ent.cons (cM .head .head .head))) ?_
 rintro v m K;exact sB Z<|an<|ar m Z Z K aQ
end
end Go.Y
namespace Go.Y
open Go.Proofs Tryz Go.RowKit Go.Deep
def ErrAt(w:World)(base:Nat)(v:Value)(p:Int×Int):Prop:=
 (p.1=0/\v=.nilIface)\/(p.1≠0/\∃b,v=.iface 207 (.pointer (some ⟨b,0,none⟩))/\base<=b/\Blk w b 211 #[.int .i64 p.1,.int .i64 p.2])
def ErrAt.made{w:World}{base:Nat}{p:Int×Int}(E:p.1≠0)(I:base<=w.heap.size) :
 ErrAt (w.alloc (.cells #[.int .i64 p.1,.int .i64 p.2] 211)) base (.iface 207 (.pointer (some ⟨w.heap.size,0,none⟩))) p:=
 .inr ⟨E,_,rfl,I,Blk.made _ _ _⟩
def ErrAt.keep{w':World}{base:Nat}(h:ErrAt w base v p)(I:∀b,base<=b->b<w.heap.size->w'.heap[b]?=w.heap[b]?):ErrAt w' base v p:=by
 rcases h with h|⟨J,b,K,E,hk⟩
 ·exact .inl h
 ·exact .inr ⟨J,b,K,E,(I b E hk.lt).trans hk⟩
def nL(n low:Int)(w:World)(E:low<=n)(I:n<=1048576) :
 Calls prog 185 #[.int .i64 n,.int .i64 low] w λe w'=>e=.returned (.bool true)/\w=w':=by
 go_enter func185,ntmps185
 go_wp2
 go_ret
 exact⟨rfl,rfl⟩
def ES(n low:Int)(w:World)(h:n<low\/1048576<n) :
 Calls prog 185 #[.int .i64 n,.int .i64 low] w λe w'=>e=.returned (.bool false)/\w=w':=by
 by_cases I:low<=n
 ·have E:decide (n<=1048576)=false:=by simp;omega
  clear h
  go_enter func185,ntmps185
  go_wp2
  go_ret
  exact⟨rfl,rfl⟩
 ·have E:n<low:=am
  clear h
  go_enter func185,ntmps185
  go_wp2
  go_ret
  exact⟨rfl,rfl⟩
def iw(e a:Int)(w:World) :
 Calls prog 184 #[.int .i64 e,.int .i64 a] w λE w'=>E=.returned (.iface 207 (.pointer (some ⟨w.heap.size,0,none⟩)))/\w.alloc (.cells #[.int .i64 e,.int .i64 a] 211)=w':=by
 go_enter func184,ntmps184
 go_wp2
 go_ret
 exact⟨rfl,rfl⟩
def DB(k:Int)(w:World) :
 Calls prog 187 #[.int .i64 k] w λE w'=>E=.returned (.tuple #[])/\w=w':=by
 go_enter func187,ntmps187
 go_wp2
 go_end0
 exact⟨rfl,rfl⟩
def vj{n:FK.Node}(h:¬FK.fY n) :
 n.NR<1\/(1<=n.NR/\5<n.NR)\/((1<=n.NR/\n.NR<=5)/\(n.close<1\/1048576<n.close))\/
 ((1<=n.NR/\n.NR<=5)/\(1<=n.close/\n.close<=1048576)/\(n.beat<0\/1048576<n.beat))\/
 ((1<=n.NR/\n.NR<=5)/\(1<=n.close/\n.close<=1048576)/\(0<=n.beat/\n.beat<=1048576)/\(n.base<1\/1048576<n.base))\/
 ((1<=n.NR/\n.NR<=5)/\(1<=n.close/\n.close<=1048576)/\(0<=n.beat/\n.beat<=1048576)/\(1<=n.base/\n.base<=1048576)/\(n.cap<n.base\/1048576<n.cap))\/
 ((1<=n.NR/\n.NR<=5)/\(1<=n.close/\n.close<=1048576)/\(0<=n.beat/\n.beat<=1048576)/\(1<=n.base/\n.base<=1048576)/\(n.base<=n.cap/\n.cap<=1048576)/\(n.NS<0\/1048576<n.NS)):=by
 unfold FK.fY FK.span at h;omega
def CheckPost(w:World)(p:Int×Int)(e:Ending)(w':World):Prop:=∃v,e=.returned v/\ErrAt w' w.heap.size v p/\Below w.heap.size w w'
def fw{w':World}(I:p.1≠0)(E:Below w.heap.size w w')(J:w'.heap.size=b) :
 CheckPost w p (.returned (.iface 207 (.pointer (some ⟨b,0,none⟩)))) (w'.alloc (.cells #[.int .i64 p.1,.int .i64 p.2] 211)):=
 ⟨_,rfl,by subst J;exact .made I E.size,E.alloc E.size _⟩
def Em(w:World)(A:Option Addr)(c:Nat)(f:FK.Flow)(J:¬FK.iY f):Calls prog 144 #[.agg #[.int .i64 f.deadline,.slice A f.NO.length c]] w (CheckPost w (FK.chk f)):=by
 have Y:=Lib.hid (FK.Checked.head J).chk;have E:(f.deadline<1\/1048576<f.deadline)\/((1<=f.deadline/\f.deadline<=1048576)/\f.NO.length=0)\/((1<=f.deadline/\f.deadline<=1048576)/\12<f.NO.length):=by
  unfold FK.iY FK.span at J;omega
 clear J;rw[Y.out];rcases E with h|⟨⟨O,T⟩,h3⟩|⟨⟨O,T⟩,h3⟩
 ·go_enter func144,ntmps144
  go_wp2_with (first
   | (go_at_call 185;refine(ES _ _ _ am).mono ?_;rintro e I ⟨rfl,rfl⟩)
   | (go_at_call 184;refine(iw _ _ _).mono ?_;rintro e I ⟨rfl,rfl⟩))
  go_ret
  refine fw (w:=w) (p:=(2,-1)) fh ?_ di;exact qG
 ·have K:((f.NO.length:Int)==0)=true:=by simp[h3]
  have H3:=Lib.hid h3;clear h3
  go_enter func144,ntmps144
  go_wp2_with (first
   | (go_at_call 185;refine(nL _ _ _ am am).mono ?_;rintro e I ⟨rfl,rfl⟩)
   | (go_at_call 184;refine(iw _ _ _).mono ?_;rintro e I ⟨rfl,rfl⟩))
  go_ret
  refine fw (w:=w) (p:=(2,-1)) fh ?_ di;exact qG
 ·have K:((f.NO.length:Int)==0)=false:=by rw[beq_eq_false_iff_ne];omega
  go_enter func144,ntmps144
  go_wp2_with (first
   | (go_at_call 185;refine(nL _ _ _ am am).mono ?_;rintro e I ⟨rfl,rfl⟩)
   | (go_at_call 184;refine(iw _ _ _).mono ?_;rintro e I ⟨rfl,rfl⟩))
  go_ret
  refine fw (w:=w) (p:=(2,-1)) fh ?_ di;exact qG
def Tab.lt(h:Tab w):4<w.heap.size:=by
 have J:=h 0 fh;rcases Nat.lt_or_ge 4 w.heap.size with E|I
 ·exact E
 ·unfold World.cell? at J
  simp[Array.getElem?_eq_none I]at J
def Tab.below{w':World}(h:Tab w)(E:Below w.heap.size w w'):Tab w':=h.keep E.to_same h.lt
def vv{len m:Nat}{p:Int}{l:List Int}(E:m<l.length):FK.EdgesOk len p (l.drop m)<->(p<l[m]/\l[m]<len/\FK.EdgesOk len l[m] (l.drop (m+1))):=by
 rw[List.drop_eq_getElem_cons E];rfl
def FE(len:Nat)(l:List Int)(m:Nat)(E:Int):Prop:=FK.EdgesOk len (-1) l<->FK.EdgesOk len E (l.drop m)
def Eo(w:World)(B:Nat)(A:Option Addr)(c:Nat)(f:FK.Flow)(hB:B<=w.heap.size)(hN:NodesAt w B A c f.NO)(hT:Tab w)
(hh:FK.iY f):Calls prog 144 #[.agg #[.int .i64 f.deadline,.slice A f.NO.length c]] w (CheckPost w (FK.chk f)):=by
 have Fd:=hh;obtain⟨⟨d1,d2⟩,l1,l2⟩:=Fd;have HN:=Lib.hid hN;have HT:=Lib.hid hT;have HH:=Lib.hid hh;have g1:=hN.len;have g2:=hN.cap;clear hT hh hN;have hz:((f.NO.length:Int)==0)=false:=by rw[beq_eq_false_iff_ne];omega
 have t6:∀(args:Array Value) (W:World),(callFunc 187 args).run prog W=.ok (.enter 187 args) W:=λargs W=>by kernel_rfl
 have NX:=Lib.hid t6;clear t6
 go_enter func144,ntmps144
 go_wp2_with (go_at_call 185;refine(nL _ _ _ am am).mono ?_;rintro e w2 ⟨rfl,rfl⟩)
 go_loopw [33] (λi wr=>∃k:Nat,k<=f.NO.length/\i=.int .i64 k/\FK.OkTo f k/\Below w.heap.size w wr/\w.heap.size<wr.heap.size/\wr.cell? ⟨w.heap.size,1,none⟩=some (.slice A f.NO.length c)) (λi _=>f.NO.length-(RowKit.intOf i).toNat)
 case atStart=>exact⟨0,am,rfl,λj n hj=>by omega,qG,by simp,by go_simp⟩
 case round=>
  obtain⟨k,hk,rfl,d6,hb,N9,Oa⟩:=hrel
  by_cases N4:k<f.NO.length
  ·obtain⟨b,off,rfl,N2,d7⟩:=HN.out.cells am
   have d9:f.NO[k]?=some f.NO[k]:=by simp[N4]
   obtain⟨n,hn⟩:∃n,n=f.NO[k]:=⟨_,rfl⟩;rw[<-hn]at d9;clear hn;have In:=(d7 k n d9).keep (hb.to_same.mono hB) N2;obtain⟨c0,c1,c2,c3,c4,c5,⟨A6,n6,c6,hi⟩,hr⟩:=In;have f7:=Lib.hid hi;have f8:=Lib.hid d9;have J:=Lib.hid d6;have HB:=Lib.hid hb;clear d7 hr hi d9 d6 hb
   by_cases hno:FK.fY n
   ·have LE:=Lib.hid hno
    obtain⟨a1,a2,⟨a3,a4⟩,⟨a5,a6⟩,⟨a7,a8⟩,⟨a9,Ob⟩,Oc,Od⟩:=hno;have Oi:=f7.out.len;have Oj:=f7.out.cap
    go_wp2_with (go_at_call 185;refine(nL _ _ _ am am).mono ?_;rintro e w2 ⟨rfl,rfl⟩)
    go_loop [7,89] (λs t=>∃(m:Nat) (I:Int),m<=n.after.length/\t=.int .i64 m/\s=.int .i64 I/\-1<=I/\I<f.NO.length/\FE f.NO.length n.after m I) (λ_ t=>n.after.length-(RowKit.intOf t).toNat)
    case atStart=>exact⟨0,-1,am,rfl,rfl,am,am,by simp[FE]⟩
    case round=>
     obtain⟨m,I,hm,rfl,rfl,O,Oe,NV⟩:=hrel;have f9:=Lib.hid NV;clear NV
     by_cases t7:m<n.after.length
     ·obtain⟨b6,o6,N3,Of,NW⟩:=f7.out.cells am
      have N5:=NW m n.after[m] (by simp[t7]);have NY:=f7.out.rng n.after[m] (List.getElem_mem _);obtain⟨x,hx⟩:∃x,x=n.after[m]:=⟨_,rfl⟩;rw[<-hx]at N5 NY;have HD:=Lib.hid (vv (len:=f.NO.length) (p:=I) t7);rw[<-hx]at HD;obtain⟨Og,Oh⟩:=NY;have N6:b6<wr.heap.size:=am;subst N3;clear NW hx
      by_cases h1:x<=I
      ·have K:¬FK.EdgesOk f.NO.length (-1) n.after:=λhe=>by have:=(HD.out.1 (f9.out.1 he)).1;omega
       have HR:=Lib.hid (FK.Checked.edge k n HH.out J.out f8.out LE.out K).chk;clear K
       go_wp2_with (go_at_call 184;refine(iw _ _ _).mono ?_;rintro e w2 ⟨rfl,rfl⟩)
       go_ret
       rw[HR.out];refine fw (w:=w) (p:=(3,(k:Int))) di ?_ di;exact(nq HB.out)
      ·by_cases h2:(f.NO.length:Int)<=x
       ·have K:¬FK.EdgesOk f.NO.length (-1) n.after:=λhe=>by have:=(HD.out.1 (f9.out.1 he)).2.1;omega
        have HR:=Lib.hid (FK.Checked.edge k n HH.out J.out f8.out LE.out K).chk;clear K
        go_wp2_with (go_at_call 184;refine(iw _ _ _).mono ?_;rintro e w2 ⟨rfl,rfl⟩)
        go_ret
        rw[HR.out];refine fw (w:=w) (p:=(3,(k:Int))) di ?_ di;exact(nq HB.out)
       ·go_wp2
        go_round
        case rel=>exact⟨m+1,x,am,by go_num,rfl,am,am,f9.out.trans (HD.out.trans ⟨λh=>h.2.2,λh=>⟨am,am,h⟩⟩)⟩
        case measure=>simp[RowKit.intOf];omega
     ·have Y:FK.EdgesOk f.NO.length (-1) n.after:=f9.out.2 (by rw[List.drop_of_length_le am];trivial)
      have d8:FK.OkTo f (k+1):=λj n' hj NU=>by
       rcases Nat.lt_or_ge j k with h|h
       ·exact J.out j n' h NU
       ·obtain rfl:j=k:=am
        have:=f8.out;rw[NU]at this;cases this;exact⟨LE.out,Y⟩
      have LT:=Lib.hid d8;clear d8 Y
      go_wp2
      go_roundw
      case rel=>exact⟨k+1,am,by go_num,LT.out,(nq HB.out),by simp;omega,by go_simp⟩
      case measure=>simp[RowKit.intOf];omega
   ·have HR:=Lib.hid (FK.Checked.bound k n HH.out J.out f8.out hno).chk
    have NT:=vj hno;clear hno;rcases NT with h|⟨h0,h⟩|⟨h0,h⟩|⟨h0,h2,h⟩|⟨h0,h2,h3,h⟩|⟨h0,h2,h3,h4,h⟩|⟨h0,h2,h3,h4,h5,h⟩
    all_goals
     go_wp2_with (first
      | (go_at_call 185;refine(nL _ _ _ am am).mono ?_;rintro e w2 ⟨rfl,rfl⟩)
      | (go_at_call 185;refine(ES _ _ _ am).mono ?_;rintro e w2 ⟨rfl,rfl⟩)
      | (go_at_call 184;refine(iw _ _ _).mono ?_;rintro e w2 ⟨rfl,rfl⟩))
     go_ret
     rw[HR.out];refine fw (w:=w) (p:=(2,(k:Int))) di ?_ di;exact(nq HB.out)
  ·obtain rfl:k=f.NO.length:=am
   have J:=Lib.hid d6;have HB:=Lib.hid hb;have Ol:=HT.out.lt;have hv:=d6.aft_lt;have t8:∀n∈f.NO,∀x∈n.after,0<=x:=λn hn x hx=>by
    obtain⟨i,hi,rfl⟩:=List.mem_iff_getElem.1 hn;have:=(d6 i f.NO[i] hi (by simp[hi])).2.bounds x hx;omega
   have NZ:=Lib.hid (rx wr B A c f.NO 187 #[] (λW _=>Below wr.heap.size wr W) am l2 hv t8 NX.out (Below.refl _ _)
    (λW T h=>⟨(HN.out.keep (hb.to_same.mono hB)).keep (h.to_same.mono am),(HT.out.below hb).below h,h.size⟩)
    (λW W' T h h'=>h.trans h')
    (λW T k h _ _ _=>(DB k W).mono λe W' ⟨he,hw⟩=>by subst hw;exact⟨he,h,cx _,λ_ _ _=>rfl⟩))
   clear d6 hb hv t8
   go_wp2_with (fail)
   refine NZ.out.mono ?_;rintro e w2 ⟨left,T,rfl,wf,BT,mt⟩;have E:=BT.stuck (J.out.aft_lt) mt;have Om:=nW BT l2;have N0:=Lib.hid (HB.out.trans (wf.mono HB.out.size));have N7:=Lib.hid ((HT.out.below HB.out).below wf);clear wf BT mt
   by_cases O:left=0
   ·have HR:=Lib.hid (FK.Checked.ok HH.out J.out λi hi=>Classical.byContradiction λhn=>by
     have:=(E i).2 ⟨hi,hn⟩;rw[O]at this;simp at this).chk
    have N8:((left:Int) !=0)=false:=by rw[O];rfl
    clear E O
    go_wp2
    go_ret
    rw[HR.out];exact⟨_,rfl,.inl ⟨rfl,rfl⟩,N0.out⟩
   ·obtain⟨t1,t2,t3⟩:=tD left am O
    have N1:=Lib.hid (ua left am O w2 N7.out);have N8:((left:Int) !=0)=true:=by rw[bne_iff_ne];omega
    generalize Lib.ctz 64 left=t at N1 t1 t2 t3
    have ht:=(E t).1 t1;have HR:=Lib.hid (FK.Checked.cycle t HH.out J.out ht.1 ht.2 λj hj=>Classical.byContradiction λhn=>by
     have:=(E j).2 ⟨am,hn⟩;rw[t2 j hj]at this;cases this).chk
    clear E O t1 t2 ht
    go_wp2_with (first
     | (go_at_call 188;refine N1.out.mono ?_;rintro e w3 ⟨rfl,rfl⟩)
     | (go_at_call 184;refine(iw _ _ _).mono ?_;rintro e w3 ⟨rfl,rfl⟩))
    go_ret
    rw[HR.out];refine fw (w:=w) (p:=(4,(t:Int))) di ?_ di;exact(nq N0.out)
def ry(w:World)(B:Nat)(A:Option Addr)(c:Nat)(f:FK.Flow)(I:B<=w.heap.size)(J:NodesAt w B A c f.NO)(K:Tab w) :
 Calls prog 144 #[.agg #[.int .i64 f.deadline,.slice A f.NO.length c]] w (CheckPost w (FK.chk f)):=by
 by_cases E:FK.iY f
 ·exact Eo w B A c f I J K E
 ·exact Em w A c f E
end Go.Y
namespace Go.SL
open Go.RowKit
def Holds.fresh{w':World}{o:Obj}(h:Holds E w l)(I:Below w.heap.size w w')(O:w.heap.size<=b)(K:w'.heap[b]?=some o):Holds E w' (SL.ob b o::l):=by
 refine⟨h.is.below I,λk=>k=b,E.free w,λk hk=>?_,λk hk=>⟨Nat.lt_of_lt_of_le hk.1 I.size,hk.2⟩,λk hk J=>?_,⟨rfl,K⟩,h.star.loc (λ_ h=>h) λk hk=>I.block k hk.1⟩
 ·subst hk
  refine⟨(Array.getElem?_eq_some_iff.1 K).1,λp T e=>?_⟩;have:=h.is.lt T;omega
 ·have:=J.1
  omega
end Go.SL
namespace Go.Y
open Go.Proofs Tryz Go.RowKit Go.SL
def ErrPost(p:Int×Int)(v:Value)(m:List HP):Prop:=(p.1=0/\v=.nilIface/\m=[])\/(p.1≠0/\∃b,v=.iface 207 (eg b 0)/\m=[blk b 211 #[aA p.1,aA p.2]])
def ErrPost.ok(h:ErrPost p v m)(E:p.1=0):v=.nilIface/\m=[]:=by
 rcases h with⟨_,h⟩|⟨h,_⟩
 ·exact h
 ·exact absurd E h
def ErrPost.bad(h:ErrPost p v m)(E:p.1≠0):∃b,v=.iface 207 (eg b 0)/\m=[blk b 211 #[aA p.1,aA p.2]]:=by
 rcases h with⟨h,_⟩|⟨_,h⟩
 ·exact absurd h E
 ·exact h
def sf(f:FK.Flow)(A:Option Addr)(c:Nat):Gives prog Good 144 [.agg #[aA f.deadline,.slice A f.NO.length c]].toArray (λw=>NodesAt w w.heap.size A c f.NO)
 (ErrPost (FK.chk f)):=λE w hE hw hN=>
 (ry w w.heap.size A c f (cx _) hN (hE.tab w hw)).mono λe w' ⟨v,O,I,T⟩=>by
  have Y:=(Holds.start hw);rcases I with⟨J,rfl⟩|⟨J,b,rfl,K,ho⟩
  ·exact⟨_,[],O,.inl ⟨J,rfl,rfl⟩,Y.below T⟩
  ·exact⟨_,[_],O,.inr ⟨J,b,rfl,rfl⟩,Y.fresh T K ho⟩
def Kb(h:FK.rd bs 0=.error e):FK.nl bs=.error (1,(e:Int)):=by
 unfold FK.nl FK.jq;rw[qU h]
 rfl
def Dr{q:Nat}(h:FK.rd bs 0=.ok (n,q))(E:FK.gu bs (FK.ig bs) q=.error e):FK.nl bs=.error (1,(e:Int)):=by
 unfold FK.nl FK.jq;rw[pW h];simp only[FK.andThen,E]
theorem Gm{q:Nat}{ns:List FK.Node}(h:FK.rd bs 0=.ok (n,q))(I:FK.gu bs (FK.ig bs) q=.ok (ns,c)):FK.jq bs 0=.ok (⟨n,ns⟩,c):=by
 unfold FK.jq;rw[pW h];simp only[FK.andThen,I]
theorem Aw{q:Nat}(h:FK.jq bs 0=.ok (f,q))(E:q<bs.length):FK.nl bs=.error (1,(q:Int)):=by
 unfold FK.nl;rw[h];simp only[E,if_true]
theorem Fx{q:Nat}(h:FK.jq bs 0=.ok (f,q))(E:¬q<bs.length)(hc:(FK.chk f).1≠0):FK.nl bs=.error ((FK.chk f).1,(FK.chk f).2):=by
 unfold FK.nl;rw[h];simp only[E,if_false,hc]
theorem Ax{q:Nat}(h:FK.jq bs 0=.ok (f,q))(E:¬q<bs.length)(hc:(FK.chk f).1=0):FK.nl bs=.ok f:=by
 unfold FK.nl;rw[h];simp only[E,if_false,hc,if_true]
theorem vx(I J:Nat)(x y z:Value):DoesD prog G 140 [eg I 0,eg J 0].toArray .returning .returning [blk I 46 #[x,y],blk J 62 #[z]]
 λm=>m=[blk I 46 #[x,y],blk J 62 #[z]]:=by
 refine DoesD.recover (v:=.nilIface) func140 Z Z Z (.inl ⟨rfl,rfl,rfl⟩) λE fr K=>aE<|ai<|sS<|sP (lE Z Z)<|sN<|aK Z<|sG<|sA Z<|ap<|al<|bt [_,_] rfl ⟨rfl,rfl⟩ aQ
def rl(I J e:Nat)(x y z:Value):DoesD prog G 140 [eg I 0,eg J 0].toArray (.panicking (EI e)) (.panicking [{v:=.iface 246 (aA e),recovered:=true}]) [blk I 46 #[x,y],blk J 62 #[z]]
 λm=>∃b,m=[blk I 46 #[aA 0,cB],blk J 62 #[.iface 207 (eg b 0)],blk b 211 #[aA 1,aA e]]:=by
 refine DoesD.recover (v:=.iface 246 (aA e)) func140 Z Z Z (.inr ⟨[],rfl,rfl⟩) λE fr O=>aE<|ai<|sS<|sP (eu Z Z)<|sN<|ag Z<|sS<|sP (ev_as Z Z Z)<|bG Z Z<|bG Z Z<|sN<|aK Z<|sS<|sA Z<|ap<|sT<|sG<|sP (bI (ps:=[]) (vs:=[]) (cs:=#[aA 0,cB]) Z Z Z Z Z)<|bY Z (bI (ps:=[(0,.const (aA 1)),(1,.tmp 12)]) (vs:=[aA 1,aA e]) (cs:=#[aA 1,aA e]) Z Z Z Z Z)<|sO (cP Z Z λK=>(sP (em Z Z Z) (sO<|bk Z (m:=2) (vs:=[aA 0,cB]) Z Z Z Z eG di (bD Z Z Z Z di<|ap<|al<|bt [_,_,_] rfl ⟨rfl,K,rfl⟩<|Ent.perm<|List.Perm.swap _ _ _))))
def ReadPost(bs:List UInt8)(p:HP)(v:Value)(m:List HP):Prop:=
 (∃(f:FK.Flow) (A':Option Addr) (E:Nat),FK.nl bs=.ok f/\(∀nd∈f.NO,Small nd)/\v=.tuple #[.agg #[aA f.deadline,.slice A' f.NO.length E],.nilIface]/\m=[nodesOwn (.slice A' f.NO.length E) f.NO,p])\/
 (∃(e a:Int) (b:Nat),FK.nl bs=.error (e,a)/\e≠0/\v=.tuple #[.agg #[aA 0,cB],.iface 207 (eg b 0)]/\m=[blk b 211 #[aA e,aA a],p])
def oH{p:HP}(hp:Reads p A bs)(hl:bs.length<=1099511627776) :
 dS 91 [.slice A bs.length c] [p] (ReadPost bs p):=by
 refine pE func91 Z Z λE fr K=>ae<|sS<|sO (cO (z:=.agg #[aA 0,cB]) Z λY=>(sO (cO (z:=.nilIface) Z λb3=>(sN (sS (sP (gj Z Z) (sO<|x8 Z<|sN<|bp Z<|sP (bI (ps:=[(0,.tmp 7)]) (vs:=[.slice A bs.length c]) (cs:=#[.slice A bs.length c,aA 0]) Z Z Z Z Z)<|sO (cP Z Z λb9=>(sB Z (sS (sM Z (sO<|om Z Z Z K (iO (c:=c) hp hl b9 0 (Nat.zero_le _)) (bo .head dm) ?_ ?_))))))))))))
 ·rintro c m ⟨e,q',he,rfl,rfl⟩;refine aE<|cW<|m8 Z Z K (rl Y b3 e _ _ _) (bo gP dm) ?_
  rintro m ⟨b,rfl⟩;refine cF<|de [_,_] rfl (bU (vs:=[aA 0,cB]) Z Z Z Z (bl Z)) (dN Z Z (ah Z)) (.inr ⟨1,e,b,Kb he,am,rfl,rfl⟩)<|Ent.drop.trans<|Ent.drop.trans<|Ent.cons Ent.drop
 rintro v m ⟨n,q1,hn,rfl,rfl⟩;refine aE<|bm 0 Z<|bD Z Z Z Z fW<|sN<|bp Z<|sM Z<|sP (gj Z Z)<|sO<|om Z Z Z K (GC (c:=c) hp hl b9 q1 (FK.tM hn).2.2) (bo bJ bJ) ?_ ?_
 ·rintro c m ⟨e,q',he,rfl,rfl⟩;refine aE<|cW<|m8 Z Z K (rl Y b3 e _ _ _) (bo dm dm) ?_
  rintro m ⟨b,rfl⟩;refine cF<|de [_,_] rfl (bU (vs:=[aA 0,cB]) Z Z Z Z (bl Z)) (dN Z Z (ah Z)) (.inr ⟨1,e,b,Dr hn he,am,rfl,rfl⟩)<|Ent.drop.trans<|Ent.drop.trans<|Ent.cons Ent.drop
 rintro v m ⟨ns,q2,d7,d8,T,⟨A',O,rfl⟩,rfl⟩;refine cF<|bm 1 Z<|bD Z Z Z Z (by simp[Value.cells]) ?_
 have I:=Gm hn d7;refine sN<|sQ<|sS<|cE 1 Z Z<|aL Z Z Z Z<|bY Z (bh Z Z)<|sP (bq Z Z Z)<|sN<|aC Z (λd6=>?_) λd6=>?_
 ·refine sG<|cE 1 Z Z<|aL Z Z Z Z<|sP (em Z Z Z)<|sO<|E5 Z<|cW<|m8 Z Z K (rl Y b3 q2 _ _ _) (bo .head gP) ?_
  rintro m ⟨b,rfl⟩;refine cF<|de [_,_] rfl (bU (vs:=[aA 0,cB]) Z Z Z Z (bl Z)) (dN Z Z (ah Z)) (.inr ⟨1,q2,b,Aw I am,am,rfl,rfl⟩)<|Ent.drop.trans<|Ent.drop.trans<|Ent.cons<|Ent.drop.trans Ent.drop
 ·refine aa<|sT<|sQ<|sQ ?_
  by_cases J:(FK.chk ⟨n,ns⟩).1=0
  ·refine sG<|bF (bR (vs:=[aA n,.slice A' ns.length O]) Z) (bl Z)<|sO<|nE Z Z Z K (sf ⟨n,ns⟩ A' O) (nodesOwn.at bJ λnd hnd=>(T nd hnd).i64) ?_
   rintro v m hv;obtain⟨rfl,rfl⟩:=hv.ok J;refine aW<|sB Z<|bp Z<|sP (dF Z Z)<|sN<|ag Z<|aa<|sT<|sS<|bF (bR (vs:=[aA n,.slice A' ns.length O]) Z) (bl Z)<|sO<|bk Z (m:=2) (vs:=[aA n,.slice A' ns.length O]) Z Z Z Z eG (by simp[Value.cells])<|bD Z Z Z Z fW<|sN<|an<|iv (.inl Z) Z Z K (vx Y b3 _ _ _) (bo bJ .head) ?_
   rintro m rfl;refine aE<|de [_,_] rfl (bU (vs:=[aA n,.slice A' ns.length O]) Z Z Z Z (bl Z)) (dN Z Z (ah Z)) (.inl ⟨⟨n,ns⟩,A',O,Ax I am J,T,rfl,rfl⟩)<|Ent.drop.trans<|Ent.drop.trans<|Ent.cons Ent.drop
  ·refine sG<|bF (bR (vs:=[aA n,.slice A' ns.length O]) Z) (bl Z)<|sO<|nE Z Z Z K (sf ⟨n,ns⟩ A' O) (nodesOwn.at bJ λnd hnd=>(T nd hnd).i64) ?_
   rintro v m hv;obtain⟨b,rfl,rfl⟩:=hv.bad J;refine ae<|sB Z<|bp Z<|sP (fk Z Z)<|sN<|aK Z<|sS<|sP (bI (ps:=[]) (vs:=[]) (cs:=#[aA 0,cB]) Z Z Z Z Z)<|sM Z<|sO<|bk Z (m:=2) (vs:=[aA 0,cB]) Z Z Z Z eG (by simp[Value.cells])<|bD Z Z Z Z fW<|sN<|an<|aD<|iv (.inl Z) Z Z K (vx Y b3 _ _ _) (bo bJ .head) ?_
   rintro m rfl;refine aE<|de [_,_] rfl (bU (vs:=[aA 0,cB]) Z Z Z Z (bl Z)) (dN Z Z (ah Z)) (.inr ⟨_,_,b,Fx I am J,J,rfl,rfl⟩)<|Ent.drop.trans<|Ent.drop.trans<|Ent.cons<|Ent.drop.trans Ent.drop
def JV(u w:Value)(E:u.oneCell'=true)(hw:w.oneCell'=true)(z:Value)(I:z.cells.size=1):Instr.fill (λi=>some (i*1,1)) (Array.map (λx=>z.cells[x%z.cells.size]!) (Array.range (2*1))) ((List.map (λx=>x.fst) [((0:Nat),Operand.tmp 30),(1,.tmp 31)]).zip [u,w])=some #[u,w]:=by
 have e1:Array.range (2*1)=#[0,1]:=rfl;rw[e1];simp[Instr.fill,la E,la hw,I]
def SubmitPost(f e j d:Nat)(p:EA)(S:FK.En)(J:FK.Jn)(σ:FK.Dsk)(bs:List UInt8)(fl:FK.Flow)(E:HP)(v:Value)(m:List HP):Prop:=
 ((J.add σ (gD (FK.frame (1::bs)))).2.2=0/\∃S0 I,FK.Cut S S0/\v=.tuple #[aU (S.NL+1),.nilIface]/\m=ch f e j d I (S0.submit fl) (J.add σ (gD (FK.frame (1::bs)))).1 (J.add σ (gD (FK.frame (1::bs)))).2.1++[E])\/
 ((J.add σ (gD (FK.frame (1::bs)))).2.2≠0/\v=.tuple #[aU 0,dU (J.add σ (gD (FK.frame (1::bs)))).2.2]/\m=ch f e j d p S (J.add σ (gD (FK.frame (1::bs)))).1 (J.add σ (gD (FK.frame (1::bs)))).2.1++[E])
def yM{f d:Nat}{p:EA}{pb:HP}(h:FK.Ok S)(hJ:J.n<1000000)(hr:Roomy σ)(hp:Reads pb A bs)(hA:A=none->bs=[])(hl:bs.length<=1000000000)(hd:FK.nl bs=.ok fl)(K:FK.Fit fl)(d7:S.roomy=true)(d8:S.sets<9223372036854775807)(f9:S.NL<9223372036854775807):dS 63 [aY f,.slice A bs.length c] (ch f e j d p S J σ++[pb]) (SubmitPost f e j d p S J σ bs fl pb):=by
 have BT:=K.head.2.2;have h1:=K.head.2.1;obtain⟨t7,t8⟩:=K.head.1;refine bz func63 Z λE fr hE=>du<|sS<|sA Z<|sB Z<|bp Z<|bQ Z (oH hp am) gfE4 ?_
 rintro v m T;obtain⟨A',Y,d9,rfl,rfl⟩:∃A' Y,(∀nd∈fl.NO,Small nd)/\v=.tuple #[.agg #[aA fl.deadline,.slice A' fl.NO.length Y],.nilIface]/\m=[nodesOwn (.slice A' fl.NO.length Y) fl.NO,pb]:=by
  rcases T with⟨f',A',Y,I,d9,T,hm⟩|⟨e',a',b',I,_⟩
  ·rw[hd]at I
   injection I with I;subst I;exact⟨A',Y,d9,T,hm⟩
  ·rw[hd]at I
   cases I
 refine aE<|sM Z<|bG Z Z<|bG Z Z<|sO (cO (z:=.agg #[aA 0,cB]) Z λb6=>sO<|bk Z (m:=2) (vs:=[aA fl.deadline,.slice A' fl.NO.length Y]) Z Z Z Z eG (by simp[Value.cells]) ?_)
 refine aB b6 #[aA fl.deadline,.slice A' fl.NO.length Y] rfl<|sB Z<|sQ<|ai<|bp Z<|sP (dF Z Z)<|sB Z<|ag Z<|sS<|cE 0 Z Z<|aL Z Z Z Z<|bV Z wO (Ent.sel HasEng.sel)<|ae ?_
 rw[show(S.runs.any (λr=>decide (0<r.2.ended))||decide (S.runs.length<6))=true from d7];refine sP (cA Z Z)<|sB Z<|ag Z<|aa<|al<|sT<|sQ<|sQ<|sZ Z<|ea Z Z<|dy 1 Z Z Z<|bN Z (au Z) (ah Z)<|dx 5 Z (bg Z)<|dI 4 Z (fd Z Z Z Z Z Z λO=>(dK [true] (aj (ah Z) ak) (dI 6 Z (dw (m:=2) (z:=cB) (size:=1) (ps:=[(0,.tmp 30),(1,.tmp 31)]) (vs:=[dQ O 1 1,.slice A bs.length c]) (cs:=#[dQ O 1 1,.slice A bs.length c]) Z Z Z Z am am Z (JV _ _ Z Z _ Z) λt6=>dK [true] (aj (ah Z) ak) (dR 7 rfl rfl<|pk rfl rfl rfl hE (Cd (A1:=some ⟨O,0,none⟩) (bs1:=[1]) (p1:=dB (dQ O 1 1) [1]) 1 c (Reads.row (c:=1) λ_=>⟨O,rfl⟩) fX hp hA (by simp;omega) (by simp;omega)) ((Ent.cons ((xk (b:=O) (bs:=[1]) (by unfold maxLen;simp)).trans (Ent.cons gfE3)))) ?_)))))
 rintro v m rfl;refine cF<|aN .head ?_
 rintro wf mt rfl f1 f2 - - -
 obtain⟨d6,f7⟩:=mY f1 f2;refine dK [true] (aj (ah Z) ak)<|dI 8 Z<|dP Z (AC mt hJ d6 f7 (by simp;omega) hr) ((cM zg zg .head)) ?_
 rintro v m ⟨T,rfl⟩;refine cF ?_;rw[show([1]++bs:List UInt8)=1::bs from rfl]at T ⊢
 generalize hω:J.add σ (gD (FK.frame (1::bs)))=ω at T ⊢
 refine dK [false] ak<|dx 9 Z (aX Z)<|dE<|sT<|sQ ?_
 by_cases HE:ω.2.2=0
 ·replace T:=T.trans (if_pos HE);subst T;refine sG<|bY Z (dF Z Z)<|sN<|ag Z<|aa<|sT<|sQ<|sZ Z<|ea Z Z<|dy 0 Z Z Z<|bN Z (au Z) (ah Z)<|bN Z (bR (vs:=[aA fl.deadline,.slice A' fl.NO.length Y]) Z) (bl Z)<|dI 5 Z<|dP Z (rI (nv:=.slice A' fl.NO.length Y) h1 am K.after am am h.now (by have:=h.queueLe;omega) (by have:=h.tmsLe;omega) d8 (λr hr=>(h.low r.1 (List.mem_map_of_mem (f:=(·.1)) hr)).2) f9) (bo HasEng.sel oX) ?_
  rintro v m ⟨S0,p',f8,rfl,rfl⟩;refine ae<|dK [false,false] ak<|dx 6 Z (aX Z)<|bB Z (aX Z)<|dE<|sT<|an<|dr (ch f e j d p' (S0.submit fl) ω.1 ω.2.1++[pb]) Z Z Z (by unfold SubmitPost;rw[hω];exact .inl ⟨HE,S0,p',f8,rfl,rfl⟩)<|aG
 ·replace T:=T.trans (if_neg HE);subst T;refine sG<|bY Z (fk Z Z)<|sN<|aK Z<|bp Z<|sA Z<|sB Z<|an<|aD<|dr (ch f e j d p S ω.1 ω.2.1++[pb]) Z Z Z (by unfold SubmitPost;rw[hω];exact .inr ⟨HE,by unfold dU;rw[if_neg HE];rfl,rfl⟩)<|aG
end Go.Y
namespace Go.SL
def si:∀(X:List HP) {r:List HP},Ent (X++r) r
 | [],r=>Ent.refl r
 |_::X,_=>Ent.drop.trans (si X)
end Go.SL
namespace Go.Y
open Go.Proofs Tryz Go.RowKit Go.SL
section
variable{h f d:Nat}{p:EA}
section
variable{pb:HP}
def EK(f e j d:Nat)(pb:HP)(Q:Nat->Int->Int->EA->FK.En->FK.Jn->FK.Dsk->Prop)(v:Value)(m:List HP):Prop:=
 ∃n ev x a X p U E ω,v=.tuple #[aU n,ev]/\Q n x a p U E ω/\dS 53 [ev] X (λu k=>u=.tuple #[aA x,aA a]/\k=X)/\m=ch f e j d p U E ω++(pb::X)
def uw{l I T Y:Int}{aft:FK.Dsk->Option Addr×FK.Dsk}{Q:Nat->Int->Int->EA->FK.En->FK.Jn->FK.Dsk->Prop}(hp:Reads pb A bs)(hA:A=none->bs=[])(hl:bs.length<=1000000000)
(hC:∀K c9,Reads (dB (.slice K bs.length c9) bs) K bs->(K=none->bs=[])->dS 63 [aY f,.slice K bs.length c9] (ch f e j d p S J {σ with left:=l,full:=I}++[dB (.slice K bs.length c9) bs]) (EK f e j d (dB (.slice K bs.length c9) bs) Q))
(hL:∀n x a p U O ω,Q n x a p U O ω->tP f h d l I T Y aft ω) :
 dS 32 [aY h,.slice A bs.length c,mf l I T Y] (cr h f e j d p S J σ++[pb]) λv m=>∃n x a p U O ω,v=.tuple #[aU n,aA x,aA a]/\Q n x a p U O ω/\m=[db h d (aft ω).1,dO f e j,aP e p U,aS j d O,aI d (aft ω).2,pb]:=by
 refine bz func32 Z λE fr hE=>jS<|sS<|sO (cP Z Z λb5=>(sA Z (sA Z (sB Z (sQ (sS (sM Z (cZ Z (bm 1 Z (aL Z Z Z Z (sP (eo Z Z Z) (sN (ag Z (aa<|sT<|bp Z<|bF (bR (vs:=ct l I T Y) Z) (bl Z) (bV Z (eM l I T Y) (bo bJ kK) (aE (ao (l':=pb::dO f e j::aP e p S::aS j d J::aI d {σ with left:=l,full:=I}::bE h d f::blk b5 31 (ct l I T Y).toArray::fr) (by show Ent (bE h d f::aI d _::blk b5 31 (ct l I T Y).toArray::dO f e j::aP e p S::aS j d J::pb::fr) _;exact aG) (sN<|bp Z (ao (Ent.row0 (e:=5) (size:=1)) (sO (ce (k:=0) (xs:=[]) Z Z kj Z am Z Z .head (news:=dj bs) (by simp[dj]) (λh=>by rw[hA h];rfl) (Reads.src hp bJ) (by simp[dj,Value.oneCell']) gk am λf8 f7=>?_)))))))))))))))))))))
 simp only[Nat.zero_add,List.nil_append];refine aN .head ?_;rintro K c9 rfl f1 f2 - - -
 obtain⟨d6,d7⟩:=mY f1 f2;refine sB Z<|sQ<|ao (l':=dO f e j::aP e p S::aS j d J::aI d {σ with left:=l,full:=I}::dB (.slice K bs.length c9) bs::pb::bE h d f::blk b5 31 (ct l I T Y).toArray::fr) aG<|sG<|cE 1 Z Z<|aL Z Z Z Z<|sM Z<|bQ Z (hC K c9 d6 d7) aQ ?_
 rintro v m ⟨n,ev,x,a,X,p',U,O,ω,rfl,hQ,hT,rfl⟩;refine ao (l':=dB (.slice K bs.length c9) bs::dO f e j::aP e p' U::aS j d O::aI d ω::pb::bE h d f::blk b5 31 (ct l I T Y).toArray::(X++fr)) ?_ ?_
 ·show Ent (dO f e j::aP e p' U::aS j d O::aI d ω::dB (.slice K bs.length c9) bs::(X++(pb::bE h d f::blk b5 31 (ct l I T Y).toArray::fr))) _
  refine gfE4.trans<|Ent.cons<|Ent.cons<|Ent.cons<|Ent.cons<|Ent.cons<|Ent.back.trans<|Ent.cons<|Ent.back.trans<|Ent.cons Ent.back
 refine sM Z<|bG Z Z<|bG Z Z<|sA Z<|sB Z<|sQ<|bp Z<|sP (bh Z Z)<|sM Z<|sN<|ai<|aO (X:=Nat×List Value) (λx=>[(36,aA x.1),(35,aA bs.length),(9,.slice K bs.length c9),(10,aU n),(11,ev),(5,aY b5),(0,aY h)]) (λx=>row 5 1 (.slice K bs.length c9) bs.length x.2::dO f e j::aP e p' U::aS j d O::aI d ω::pb::bE h d f::blk b5 31 (ct l I T Y).toArray::(X++fr)) (λx=>x.1<=bs.length) (λx=>bs.length-x.1) (0,dj bs) (Nat.zero_le _) bW aQ ?_
 rintro⟨k,ys⟩ hk;refine sS<|sP (bq Z Z Z)<|sN<|sQ<|aC Z (λd8=>?_) λd8=>?_
 ·have d9:k<bs.length:=am;obtain⟨g,rfl⟩:∃g,K=some ⟨g,0,none⟩:=by
   cases K with
   |none=>have:=(f1 rfl).1;omega
   |some ad=>obtain⟨g,rfl⟩:=f2 ad rfl;exact⟨g,rfl⟩
  refine aa<|sT<|sQ<|ai<|bp Z<|sB Z<|sG<|sM Z<|bY Z (aV (z:=1) Z Z Z Z d9)<|sO<|gc .head Z Z Z Z am<|ap<|al<|sT<|sG<|sP (dM Z Z)<|sM Z<|ap<|aH (k+1,_) (by simp only;omega) (by simp only;omega) bW aQ
 ·refine aM<|aw<|az<|aq<|sT<|sQ<|ao (l':=bE h d f::aI d ω::dO f e j::aP e p' U::aS j d O::pb::blk b5 31 (ct l I T Y).toArray::(X++fr)) aG<|sG<|sM Z<|bF (bR (vs:=ct l I T Y) Z) (bl Z)<|bV Z (hL n x a p' U O ω hQ) aQ<|aE<|sN<|sQ<|ao (l':=X++(db h d (aft ω).1::aI d (aft ω).2::dO f e j::aP e p' U::aS j d O::pb::fr)) ?_ ?_
  ·show Ent (db h d (aft ω).1::aI d (aft ω).2::dO f e j::aP e p' U::aS j d O::pb::_::(X++fr)) _
   exact(Ent.cons (Ent.cons (Ent.cons (Ent.cons (Ent.cons (Ent.cons Ent.drop)))))).trans ((Ent.cons (Ent.cons (Ent.cons (Ent.cons (Ent.cons eJ))))).trans ((Ent.cons (Ent.cons (Ent.cons (Ent.cons eJ)))).trans ((Ent.cons (Ent.cons (Ent.cons eJ))).trans ((Ent.cons (Ent.cons eJ)).trans ((Ent.cons eJ).trans eJ)))))
  refine sG<|sM Z<|bV Z hT aQ<|sM Z<|bG Z Z<|bG Z Z<|sA Z<|sB Z<|bp Z<|sM Z<|sM Z<|sA Z<|sA Z<|sB Z<|an<|eV [db h d (aft ω).1,dO f e j,aP e p' U,aS j d O,aI d (aft ω).2,pb] rfl Z Z Z ⟨n,x,a,p',U,O,ω,rfl,hQ,rfl⟩ ?_
  exact(si _).trans aG
def JP{a:Int}(T:Reads pb A bs)(hl:bs.length<=1000000000)(K:FK.nl bs=.error (x,a)):dS 63 [aY f,.slice A bs.length c] (ch f e j d p S J σ++[pb]) (EK f e j d pb λn Y O p' U J' ω=>n=0/\Y=x/\O=a/\p'=p/\U=S/\J'=J/\ω=σ):=by
 refine bz func63 Z λE fr hE=>du<|sS<|sA Z<|sB Z<|bp Z<|bQ Z (oH T am) gfE4 ?_
 rintro v m hv;obtain⟨b,rfl,rfl⟩:∃b,v=.tuple #[.agg #[aA 0,cB],.iface 207 (aY b)]/\m=[blk b 211 #[aA x,aA a],pb]:=by
  rcases hv with⟨f',A',c',I,_⟩|⟨e',O,b',I,_,h1,h2⟩
  ·rw[K]at I;cases I
  ·rw[K]at I
   injection I with I;injection I with q1 q2;subst q1;subst q2;exact⟨b',h1,h2⟩
 refine aE<|sM Z<|bG Z Z<|bG Z Z<|sO (cO (z:=.agg #[aA 0,cB]) Z λb6=>sO<|bk Z (m:=2) (vs:=[aA 0,cB]) Z Z Z Z eG (by simp[Value.cells]) (sB Z<|sQ<|ai<|bp Z<|sP (fk Z Z)<|sB Z<|aK Z<|bp Z<|sA Z<|sB Z (an<|aJ<|aD<|dr (ch f e j d p S J σ++(pb::[blk b 211 #[aA x,aA a]])) Z Z Z ⟨0,_,x,a,[blk b 211 #[aA x,aA a]],p,S,J,σ,rfl,⟨rfl,rfl,rfl,rfl,rfl,rfl,rfl⟩,CD b x a,rfl⟩ ?_)))
 exact aG
def JO(hp:Reads pb A bs)(hl:bs.length<=1000000000)(Y:FK.nl bs=.ok fl)(K:S.roomy=false):dS 63 [aY f,.slice A bs.length c] (ch f e j d p S J σ++[pb]) (EK f e j d pb λn x' a' p' U J' ω=>n=0/\x'=5/\a'=-1/\p'=p/\U=S/\J'=J/\ω=σ):=by
 refine bz func63 Z λE fr hE=>du<|sS<|sA Z<|sB Z<|bp Z<|bQ Z (oH hp am) gfE4 ?_
 rintro v m T;obtain⟨A',O,rfl,rfl⟩:∃A' O,v=.tuple #[.agg #[aA fl.deadline,.slice A' fl.NO.length O],.nilIface]/\m=[nodesOwn (.slice A' fl.NO.length O) fl.NO,pb]:=by
  rcases T with⟨f',A',O,I,d6,T,hm⟩|⟨e',a',b',I,_⟩
  ·rw[Y]at I
   injection I with I;subst I;exact⟨A',O,T,hm⟩
  ·rw[Y]at I
   cases I
 refine aE<|sM Z<|bG Z Z<|bG Z Z<|sO (cO (z:=.agg #[aA 0,cB]) Z λb6=>sO<|bk Z (m:=2) (vs:=[aA fl.deadline,.slice A' fl.NO.length O]) Z Z Z Z eG (by simp[Value.cells]) ?_)
 refine aB b6 #[aA fl.deadline,.slice A' fl.NO.length O] rfl<|sB Z<|sQ<|ai<|bp Z<|sP (dF Z Z)<|sB Z<|ag Z<|sS<|cE 0 Z Z<|aL Z Z Z Z<|bV Z wO (Ent.sel HasEng.sel)<|ae ?_
 rw[show(S.runs.any (λr=>decide (0<r.2.ended))||decide (S.runs.length<6))=false from K];refine sP (cA Z Z)<|sB Z<|aK Z<|sS<|sP (em Z Z Z)<|sA Z<|sB Z<|an<|aJ<|aD<|dr (ch f e j d p S J σ++(pb::[])) Z Z Z ⟨0,_,5,-1,[],p,S,J,σ,rfl,⟨rfl,rfl,rfl,rfl,rfl,rfl,rfl⟩,pt 5,rfl⟩ ?_
 exact aG
def SubmitPost.to(h:SubmitPost f e j d p S J σ bs fl pb v m):EK f e j d pb (λn x a E U K ω=>a=-1/\K=(J.add σ (gD (FK.frame (1::bs)))).1/\ω=(J.add σ (gD (FK.frame (1::bs)))).2.1/\x=(J.add σ (gD (FK.frame (1::bs)))).2.2/\((x=0/\n=S.NL+1/\∃S0,FK.Cut S S0/\U=S0.submit fl)\/(x≠0/\n=0/\U=S/\E=p))) v m:=by
 rcases h with⟨I,S0,E,hc,rfl,rfl⟩|⟨I,rfl,rfl⟩
 ·exact⟨_,_,0,-1,[],E,_,_,_,rfl,⟨rfl,rfl,rfl,I.symm,.inl ⟨rfl,rfl,S0,hc,rfl⟩⟩,ub,rfl⟩
 ·exact⟨0,_,_,-1,[],p,_,_,_,rfl,⟨rfl,rfl,rfl,rfl,.inr ⟨I,rfl,rfl,rfl⟩⟩,CE _,rfl⟩
end
end
section
variable[H:HasRef l e a ns M r]
include H
theorem K3(hi:M.runs[i]?=some u):∀w,Holds E w l->nA (some ⟨(a.ra u.id).gs,0,none⟩) (Cm u.NN) w:=λw hw T I j v J=>by
 obtain⟨F,h⟩:=jY (H:=H) hw;have K:Star w (M.runs.map (jk a)) F:=Star.mem (p:=kb a M.runs) h di;have O:(jk a u).sat w F:=Star.mem K (List.mem_map_of_mem (cg hi));injection I with I;subst I;exact O.1.cells (g:=(a.ra u.id).gs) Z j v J
theorem K4:∀w,Holds E w l->nA (Cp a.qg) (M.NP.flatMap kw) w:=λw hw O I j v K=>by
 obtain⟨F,h⟩:=jY (H:=H) hw;have J:(Cn a M).sat w F:=Star.mem h di;cases hg:a.qg with
 |none=>rw[hg]at I;cases I
 |some g=>
  unfold Cn lT at J;rw[hg]at J I;injection I with I;subst I;exact J.1.cells (g:=g) Z j v K
end
def uy{α β:Type}{f g:α->List β}:∀{l:List α},(∀v∈l,f v=g v)->l.flatMap f=l.flatMap g
 | [],_=>rfl
 |v::l,h=>by rw[List.flatMap_cons,List.flatMap_cons,h v List.mem_cons_self,uy λu I=>h u (List.mem_cons_of_mem _ I)]
theorem Ix:fm prog 125 (.agg #[aA 0,aA 0,cd 0,cd 0,cd 0,aA 0,aA 0]) 7 56:=by unfold fm;kernel_rfl
abbrev zRun:Value:=.agg #[cd 0,aA 0,cB,aA 0,cd 0,aA 0,cB,aA 0]
theorem xN:fm prog 77 zRun 8 96:=by unfold fm;kernel_rfl
def Fo(x:Operand)(vs:List Value)(h:vs.length=8):Instr.fill (λi=>some (i*8,8)) (Array.map (λx=>zRun.cells[x%zRun.cells.size]!) (Array.range (1*8))) ((List.map (λx=>x.fst) [((0:Nat),x)]).zip [.agg vs.toArray])=some vs.toArray:=by
 have e1:Array.range (1*8)=#[0,1,2,3,4,5,6,7]:=rfl;rw[e1]
 match vs,h with
 | [v0,v1,v2,v3,v4,v5,v6,v7],_=>simp[Instr.fill,Value.cells]
abbrev RfA.cp(a:RfA)(rg:Option Nat)(rc:Nat)(ra:Nat->RP):RfA:={a with rg:=rg,rc:=rc,ra:=ra}
abbrev cpC(a:RfA)(M:FR.En)(v:Value):Array Value:=#[cd M.time,cd M.seed,v,lT a M,cd M.NL,cd M.NK,aA M.timers,aA M.ends]
theorem fZ(h:FR.Fine M)(hnd:(M.runs.map (·.id)).Nodup):dz G 30 [aY e] [aZ e a ns M] λv m=>∃e' a',v=aY e'/\m=[aZ e a ns M,aZ e' a' ns M]:=by
 refine bz func30 Z λE fr hE=>ae ?_;refine bA (p:=kM a ns M) (λw hw=>ng hw) λFd=>?_;refine bA (p:=Cp a.qg=none->M.NP.length=0) (λw hw h0=>by
  cases hq:M.NP with
  |nil=>rfl
  |cons x l=>
   obtain⟨g,hg⟩:=Ez (a:=a) (M:=M) (i:=0) (u:=x) (by rw[hq];rfl) hw;rw[hg]at h0;cases h0) λIn=>?_
 refine sS<|sB Z<|bp Z<|cZ Z ?_
 refine bF (bR (vs:=(sm a M).toList) Z) (λw hw j v hj=>ck (a:=a) (M:=M) (by simpa using hj) w hw) ?_;refine sO (cO (z:=.agg #[cd 0,cd 0,cB,cB,cd 0,cd 0,aA 0,aA 0]) Z λb3=>?_);refine sO<|bk (vs:=(sm a M).toList) Z (m:=8) Z Z Z Z eG (by show 0+8<=8;omega) ?_
 refine aB b3 (cpC a M (kv a M)) Z<|sN<|sS<|bm 2 Z ?_
 refine bD Z Z Z Z fW ?_;refine sN<|sQ<|sS<|sB Z<|ai ?_
 refine aO (X:=Nat×Option Nat×Nat×(Nat->RP)) (λx=>[(4,aA x.1),(3,aY b3),(0,aY e)]) (λx=>blk b3 40 (cpC a M (.slice (Cp x.2.1) x.1 x.2.2.1))::row 77 8 (.slice (Cp x.2.1) x.1 x.2.2.1) x.1 (iF (a.cp x.2.1 x.2.2.1 x.2.2.2) (M.runs.take x.1))::kb (a.cp x.2.1 x.2.2.1 x.2.2.2) (M.runs.take x.1)::aZ e a ns M::fr) (λx=>x.1<=M.runs.length/\∀u∈M.runs.take x.1,(x.2.2.2 u.id).nd=(a.ra u.id).nd) (λx=>M.runs.length-x.1) (0,none,0,a.ra) ⟨Nat.zero_le _,λu h=>by simp at h⟩ bW (Ent.cons (Ent.row0.trans (Ent.cons (Ent.trans (Ent.all (m:=[])) aQ)))) ?_;rintro⟨k,rg,rc,ra⟩ ⟨hk,T⟩;replace hk:k<=M.runs.length:=hk;replace T:∀u∈M.runs.take k,(ra u.id).nd=(a.ra u.id).nd:=T;refine sQ<|bp Z<|cE 2 Z Z<|bF (au (v:=kv a M) Z) (ck Z)<|sP (bh Z Z)<|sP (bq Z Z Z)<|sN ?_
 refine aC Z (λd6=>?_) λd6=>?_
 ·have d9:k<M.runs.length:=by have:(k:Int)<(M.runs.length:Int):=d6;omega
  obtain⟨u,hu⟩:∃u,M.runs[k]?=some u:=⟨M.runs[k],by simp[d9]⟩;have f7:=cg hu;have N6:=fv h u f7;have N7:1<=u.NN.length:=by rw[(h.fit u f7).2];exact(h.fit u f7).1.head.2.1
  have N8:=h.runs;have f8:M.runs.take (k+1)=M.runs.take k++[u]:=by rw[List.take_add_one,hu];rfl
  have Y:∀v∈M.runs.take k,v.id≠u.id:=λv I he=>by
   obtain⟨j,hj⟩:=List.getElem?_of_mem I;have NW:j<k:=by have:=(gfGet.1 hj).1;rw[List.length_take]at this;omega
   rw[List.getElem?_take_of_lt NW]at hj;have:=FR.zf hnd hj hu he;omega
  refine bA (p:=∃g,a.rg=some g) (λw hw=>iJ hu hw) λ⟨gr,hg⟩=>?_;refine aa<|sT<|sQ<|ai<|sS<|cE 2 Z Z<|bF (au (v:=dQ gr M.runs.length a.rc) Z) (dY hg)<|bY Z (aV (z:=8) Z Z Z Z d9)<|bF (bR (vs:=iD (a.ra u.id) u) Z) (lW hu hg)<|sO (cO (z:=.agg #[cd 0,aA 0,cB,aA 0,cd 0,aA 0,cB,aA 0]) Z λb5=>?_)
  refine sO<|bk (vs:=iD (a.ra u.id) u) Z (m:=8) Z Z Z Z eG (by show 0+8<=8;omega) ?_
  refine aB b5 (iD (a.ra u.id) u).toArray Z<|sN<|sS<|bm 6 Z<|bF (au (v:=jV (a.ra u.id) u) Z) (ah Z) ?_
  refine ao (Ent.row0 (e:=125) (size:=7)) ?_;refine dL rfl (ce (k:=0) (xs:=[]) rfl rfl Ix rfl am rfl rfl .head (news:=Cm u.NN) (cV (k:=7) (λ_=>rfl) _) fX (K3 hu) (λv I=>by obtain⟨x,_,hx⟩:=List.mem_flatMap.1 I;simp only[List.mem_cons,List.not_mem_nil,or_false]at hx;rcases hx with rfl|rfl|rfl|rfl|rfl|rfl|rfl<;>rfl) gk am λN0 NX=>?_);refine aN .head λf9 LE mt LT NT _ _ _=>?_;obtain⟨NV,rfl⟩:∃g,f9=some ⟨g,0,none⟩:=by
   cases f9 with
   |none=>have:=(LT rfl).1;omega
   |some ad=>obtain⟨g,rfl⟩:=NT ad rfl;exact⟨g,rfl⟩
  subst mt;rw[Nat.zero_add,List.nil_append];obtain⟨p,hp⟩:∃p:RP,p=⟨(a.ra u.id).nd,NV,LE⟩:=⟨_,rfl⟩;refine bm 6 Z ?_;refine bD Z Z Z Z fW ?_;refine sN<|aB b5 (iD p u).toArray (by rw[hp];rfl)<|sG<|bm 2 Z<|bF (au (v:=.slice (Cp rg) k rc) Z) (ah Z)<|bF (bR (vs:=iD p u) Z) (bl Z) ?_
  refine sO (dw (m:=1) (z:=zRun) (size:=8) (ps:=[(0,.tmp 32)]) (vs:=[.agg (iD p u).toArray]) (cs:=(iD p u).toArray) Z Z Z Z am am Z (Fo _ _ Z) λN1=>?_);refine dL rfl (ce rfl rfl xN rfl am rfl rfl (HasVal.sel (v:=.slice (Cp rg) k rc)) (news:=iD p u) rfl fX iy eG gk am λN2 NY=>?_);refine aN .head λN3 J t6 _ t7 _ _ _=>?_;obtain⟨K,rfl⟩:=po t7;subst t6;refine bm 2 Z ?_;refine bD Z Z Z Z fW ?_;refine ap<|al<|sT<|aB b3 (cpC a M (.slice (Cp K) (k+1) J)) Z<|sG<|bY Z (dM Z Z)<|sA Z<|ap ?_
  refine aH (k+1,K,J,λid=>if id=u.id then p else ra id) ⟨d9,λv I=>?_⟩ (by show M.runs.length-(k+1)<M.runs.length-k;omega) bW ?_
  ·have I:v∈M.runs.take (k+1):=I
   rw[f8]at I;rcases List.mem_append.1 I with I|I
   ·show(if v.id=u.id then p else ra v.id).nd=_
    rw[if_neg (Y v I)];exact T v I
   ·rw[List.mem_singleton.1 I]
    show(if u.id=u.id then p else ra u.id).nd=_;rw[if_pos rfl,hp]
  ·obtain⟨a2,O⟩:∃a2,a2=a.cp K J (λid=>if id=u.id then p else ra id):=⟨_,rfl⟩
   have e1:iF (a.cp rg rc ra) (M.runs.take k)++iD p u=iF a2 (M.runs.take (k+1)):=by
    rw[f8];show(M.runs.take k).flatMap _++_=(M.runs.take k++[u]).flatMap _;rw[List.flatMap_append]
    congr 1
    ·refine uy λv I=>?_
     show iD (ra v.id) v=iD (a2.ra v.id) v;rw[O];show _=iD (if v.id=u.id then p else ra v.id) v;rw[if_neg (Y v I)]
    ·rw[O]
     show _=[u].flatMap λr=>iD (if r.id=u.id then p else ra r.id) r;simp
   have e2:(M.runs.take (k+1)).map (jk a2)=(M.runs.take k).map (jk (a.cp rg rc ra))++[row 125 7 (jV p u) u.NN.length (Cm u.NN)]:=by
    rw[f8,List.map_append]
    congr 1
    ·refine List.map_congr_left λv I=>?_
     show row _ 7 (jV (a2.ra v.id) v) _ _=row _ 7 (jV (ra v.id) v) _ _;rw[O];show row _ 7 (jV (if v.id=u.id then p else ra v.id) v) _ _=_;rw[if_neg (Y v I)]
    ·rw[O]
     show[row _ 7 (jV (if u.id=u.id then p else ra u.id) u) _ _]=_;rw[if_pos rfl]
   show Ent _ (blk b3 40 (cpC a M (.slice (Cp K) (k+1) J))::row 77 8 (.slice (Cp K) (k+1) J) (k+1) (iF (a.cp K J λid=>if id=u.id then p else ra id) (M.runs.take (k+1)))::kb (a.cp K J λid=>if id=u.id then p else ra id) (M.runs.take (k+1))::aZ e a ns M::fr);rw[<-O,<-e1];have e3:∀r,Ent (row 125 7 (jV p u) u.NN.length (Cm u.NN)::kb (a.cp rg rc ra) (M.runs.take k)::r) (kb a2 (M.runs.take (k+1))::r):=λr=>by
    refine(Ent.cons (Ent.unall (m:=(M.runs.take k).map (jk (a.cp rg rc ra))))).trans ?_;refine Ent.trans ?_<|Ent.all (m:=(M.runs.take (k+1)).map (jk a2))
    rw[e2,List.append_assoc];exact Ent.perm List.perm_middle.symm
   refine Ent.trans ?_<|Ent.cons<|Ent.cons<|e3 _
   rw[hp];exact aG
 ·have wf:k=M.runs.length:=by have:¬(k:Int)<(M.runs.length:Int):=d6;omega
  rw[wf,List.take_length];rw[wf,List.take_length]at T;refine aM<|aw<|az<|aq<|sT<|sS<|cE 3 Z Z<|bF (au (v:=lT a M) Z) (ck Z) ?_
  refine ao (Ent.row0 (e:=133) (size:=2)) ?_;refine dL rfl (ce (k:=0) (xs:=[]) rfl rfl tu rfl am rfl rfl .head (news:=M.NP.flatMap kw) (cV (k:=2) (λ_=>rfl) _) In K4 (λv I=>by obtain⟨x,_,hx⟩:=List.mem_flatMap.1 I;simp only[List.mem_cons,List.not_mem_nil,or_false]at hx;rcases hx with rfl|rfl<;>rfl) (by have:=h.NP;unfold maxLen;omega) (by have:=h.NP;omega) λN4 NZ=>?_);refine aN .head λN5 d7 t8 _ NU _ _ _=>?_;obtain⟨d8,rfl⟩:=po NU;subst t8;rw[Nat.zero_add,List.nil_append];refine bm 3 Z ?_;refine bD Z Z Z Z fW ?_;refine sN<|sS<|sB Z<|an<|ar [aZ e a ns M,aZ b3 ⟨rg,rc,d8,d7,ra⟩ ns M] rfl Z ⟨b3,_,rfl,rfl⟩ ?_
  have BT:kM ⟨rg,rc,d8,d7,ra⟩ ns M:=λv I=>by
   show(ra v.id).nd∈ns/\(ra v.id).nd.ns=_;rw[T v I];exact Fd v I
  refine Ent.trans ?_<|Ent.cons<|jT BT
  have e4:kb (a.cp rg rc ra) M.runs=kb ⟨rg,rc,d8,d7,ra⟩ M.runs:=rfl;rw[e4];exact gfE4.trans<|Ent.cons<|Ent.cons gfE1
section
variable{D:List Deferred}{r' r2 r3:List HP}{Q:Exit->Act->World->Prop}{ty:TypeId}{pos:String}{af:Array Edge}{g:Option (Nat×Bool)}{t:TypeId}{x y:Operand}{m:Nat}{K:Act->World->Prop}
abbrev RfA.rn(a:RfA)(g:Option Nat)(c:Nat):RfA:={a with rg:=g,rc:=c}
def Lh[H:HasRef l e a ns M r](hj:M.runs[j]?=some u)(hm:m=(M.runs.eraseIdx j).length)(s:Sel (row 77 8 v m (iF a (M.runs.eraseIdx j))) l r')(hz:dq P t 1)(hx:ev ts x=some (eg e 2))(hy:ev ts y=some v)(s2:Sel (aZ e a ns M) r' r2)
(hk:∀o c,At E n D ts (aZ e (a.rn o c) ns (M.cut j)::r2) K):At E n D ts l (λac w=>(Oper.mk none (.store t x y) ty pos af g).wp P ac w K Q):=by
 subst hm;refine bA (p:=kM a ns M) (λw hw=>ng hw) λT=>ao ((Ent.sel s).trans (Ent.cons (Ent.sel s2)))<|aN .head λA c hA d7 Y _ _ _=>?_
 obtain⟨o,rfl⟩:=po Y;subst hA;refine ao ((Ent.cons (jw (a:=a) (M:=M))).trans gfE1)<|cq (b:=e) (cs:=sm a M) Z hz hx hy Z di<|ao ?_<|hk o c
 have I:kM (a.rn o c) ns (M.cut j):=λw hw=>T w (List.mem_of_mem_eraseIdx hw);refine Ent.trans ?_<|jT I
 obtain⟨J,O,h1,h3⟩:∃J O,M.runs=J++u::O/\M.runs.eraseIdx j=J++O:=by
  have d6:=(gfGet.1 hj).1;refine⟨M.runs.take j,M.runs.drop (j+1),?_,List.eraseIdx_eq_take_drop_succ _ _⟩;have e:M.runs[j]=u:=(gfGet.1 hj).2;rw[<-e,<-List.drop_eq_getElem_cons d6,List.take_append_drop]
 have e4:∀r,Ent (kb a M.runs::r) (kb (a.rn o c) (M.cut j).runs::r):=λr=>by
  have e5:(M.cut j).runs=J++O:=h3;rw[h1,e5];exact Ent.rfOpen.trans Ent.drop
 exact Ent.cons<|Ent.cons<|Ent.drop.trans<|Ent.cons<|e4 _
end
def Eu{p:RP}(d6:kM a ns M)(d9:p.nd.ns=u.fl.NO)(d7:∀v∈M.runs,v.id≠u.id):Ent (blk e 40 ((sm a M).setIfInBounds 2 (.slice (Cp o) (M.runs.length+1) c))::row 77 8 (.slice (Cp o) (M.runs.length+1) c) (M.runs.length+1) (iF a M.runs++iD p u)::Cn a M::kb a M.runs::row 125 7 (jV p u) u.NN.length (Cm u.NN)::r) (aZ e ⟨o,c,a.qg,a.qc,λid=>if id=u.id then p else a.ra id⟩ (p.nd::ns) {M with runs:=M.runs++[u]}::r):=by
 obtain⟨O,T⟩:∃O:RfA,O=⟨o,c,a.qg,a.qc,λid=>if id=u.id then p else a.ra id⟩:=⟨_,rfl⟩;rw[<-T];have J:∀v∈M.runs,O.ra v.id=a.ra v.id:=λv I=>by rw[T];exact if_neg (d7 v I)
 have Y:O.ra u.id=p:=by rw[T];exact if_pos rfl
 have d8:kM O (p.nd::ns) {M with runs:=M.runs++[u]}:=λv I=>by
  rcases List.mem_append.1 I with I|I
  ·rw[J v I]
   exact⟨List.mem_cons_of_mem _ (d6 v I).1,(d6 v I).2⟩
  ·rw[List.mem_singleton.1 I,Y]
   exact⟨List.mem_cons_self,d9⟩
 have e1:iF a M.runs++iD p u=iF O (M.runs++[u]):=by
  show M.runs.flatMap _++_=(M.runs++[u]).flatMap _;rw[List.flatMap_append]
  congr 1
  ·exact uy λv I=>by rw[J v I]
  ·rw[<-Y]
   simp
 have e2:(M.runs++[u]).map (jk O)=M.runs.map (jk a)++[row 125 7 (jV p u) u.NN.length (Cm u.NN)]:=by
  rw[List.map_append]
  congr 1
  ·refine List.map_congr_left λv I=>?_
   unfold jk;rw[J v I]
  ·show[row _ 7 (jV (O.ra u.id) u) _ _]=_
   rw[Y]
 have e3:Ent (kb a M.runs::row 125 7 (jV p u) u.NN.length (Cm u.NN)::r) (kb O (M.runs++[u])::r):=by
  refine gfE1.trans<|(Ent.cons (Ent.unall (m:=M.runs.map (jk a)))).trans<|Ent.trans ?_<|Ent.all (m:=(M.runs++[u]).map (jk O))
  rw[e2,List.append_assoc];exact Ent.perm List.perm_middle.symm
 rw[e1];refine Ent.trans ?_<|jT d8
 have hl:(M.runs++[u]).length=M.runs.length+1:=by simp
 unfold kG Cn kv lT sm kv lT;simp only[hl];rw[T]at e3 ⊢;exact Ent.cons<|Ent.cons<|Ent.cons e3
def y9{x:ND}{l:List ND}:Ent (My x::bx l::r) (bx (x::l)::r):=
 (Ent.cons (Ent.unall (m:=l.map My))).trans (Ent.all (m:=(x::l).map My))
def Kq{f:List FK.Node}(h:vs.length=f.length):Ent (row 51 7 (dQ I f.length c) f.length (dc f vs)::(dC vs f++r)) (My ⟨I,c,vs,f⟩::r):=by
 refine(Ent.cons (Ent.all (m:=dC vs f))).trans<|(Ent.pure h).trans<|Ent.all (m:=ndL ⟨I,c,vs,f⟩)
end Go.Y
namespace FR
structure OldTo(M:En)(i:Nat)(o:Option Nat):Prop where
 yes:∀j,o=some j->j<i/\∃r,M.runs[j]?=some r/\0<r.ended/\∀(k:Nat) (u:Rn),k<i->M.runs[k]?=some u->0<u.ended->r.ended<=u.ended
 no:o=none->∀(k:Nat) (u:Rn),k<i->M.runs[k]?=some u->u.ended=0
def OldTo.old(h:OldTo M M.runs.length o):Old M o:=by
 refine⟨λj J=>?_,λO u I=>?_⟩
 ·obtain⟨_,r,Y,h2,h3⟩:=h.yes j J
  refine⟨r,Y,h2,λu I T=>?_⟩;obtain⟨k,hk⟩:=List.getElem?_of_mem I;exact h3 k u (gfGet.1 hk).1 hk T
 ·obtain⟨k,hk⟩:=List.getElem?_of_mem I
  exact h.no O k u (gfGet.1 hk).1 hk
def OldTo.skip(h:OldTo M i o)(hi:M.runs[i]?=.some u)(J:u.ended=0\/∃j r,o=.some j/\M.runs[j]?=.some r/\r.ended<=u.ended):OldTo M (i+1) o:=by
 refine⟨λj O=>?_,λT k v hk I=>?_⟩
 ·obtain⟨h0,r,Y,h2,h3⟩:=h.yes j O
  refine⟨am,r,Y,h2,λk v hk I h4=>?_⟩;rcases Nat.lt_succ_iff_lt_or_eq.1 hk with hk|rfl
  ·exact h3 k v hk I h4
  ·rw[hi]at I
   injection I with I;subst I;rcases J with J|⟨j',r',e1,e2,e3⟩
   ·omega
   ·rw[O]at e1
    injection e1 with e1;subst e1;rw[Y]at e2;injection e2 with e2;subst e2;exact e3
 ·rcases Nat.lt_succ_iff_lt_or_eq.1 hk with hk|rfl
  ·exact h.no T k v hk I
  ·rw[hi]at I
   injection I with I;subst I;rcases J with J|⟨j',r',e1,_⟩
   ·exact J
   ·rw[T]at e1;cases e1
def OldTo.take(h:OldTo M i o)(hi:M.runs[i]?=.some u)(Y:0<u.ended)(O:o=.none\/∃j r,o=.some j/\M.runs[j]?=.some r/\u.ended<r.ended):OldTo M (i+1) (.some i):=by
 refine⟨λj T=>?_,λhn=>by cases hn⟩;injection T with T;subst T;refine⟨Nat.lt_succ_self _,u,hi,Y,λk v hk I h4=>?_⟩;rcases Nat.lt_succ_iff_lt_or_eq.1 hk with hk|rfl
 ·rcases O with O|⟨j,r,e1,e2,e3⟩
  ·have:=h.no O k v hk I
   omega
  ·obtain⟨_,r',J,h2,h3⟩:=h.yes j e1
   rw[e2]at J;injection J with J;subst J;have:=h3 k v hk I h4;omega
 ·rw[hi]at I
  injection I with I;subst I;exact cx _
def Cutd(M I:En):Prop:=(M.runs.length≠6/\I=M)\/(M.runs.length=6/\∃j,Old M (some j)/\I=M.cut j)
end FR
namespace Go.Y
open Go.Proofs Tryz Go.RowKit Go.SL
def M8(x:Nat):((x:Int)).tmod 128=((x%128:Nat):Int):=by
 rw[Int.tmod_eq_emod_of_nonneg am];omega
def Dl{p:HP}(hp:Reads p A bs)(hl:bs.length<=1099511627776)(r q:Nat)(hq:q<=bs.length) :
 Does prog G 172 [eg r 0].toArray [blk r 223 #[.slice A bs.length c,aA q,.bool false],p]
  (λu m=>(∃n q':Nat,FK.rd bs q=.ok (n,q')/\u=aA n/\m=[blk r 223 #[.slice A bs.length c,aA q',.bool false],p])\/
   (∃(e q':Nat) (k:Int),FK.rd bs q=.error e/\e=q/\u=aA k/\m=[blk r 223 #[.slice A bs.length c,aA q',.bool true],p])):=by
 refine bz func172 Z λE fr hE=>aE<|sS<|sB Z<|sS<|sB Z<|sS<|sB Z<|sQ<|sS<|sA Z<|sN<|ai<|aO (X:=Nat×Nat) (λx=>[(5,aA x.1),(3,aA x.2),(4,aA (128 ^ x.1:Nat)),(0,eg r 0)]) (λx=>blk r 223 #[.slice A bs.length c,aA (q+x.1:Nat),.bool false]::p::fr) (λx=>x.1<=3/\x.2<128 ^ x.1/\FK.tJ bs q (3-x.1) x.1 x.2=FK.rd bs q/\q+x.1<=bs.length) (λx=>3-x.1) (0,0) ⟨am,by simp,(FK.Mb bs q).symm,hq⟩ bW aQ ?_
 rintro⟨i,n⟩ ⟨hi,hn,K,f7⟩;simp only at hi hn K f7 ⊢;refine sQ<|bp Z<|sP (bq Z Z Z)<|sN<|aC Z (λc8=>?_) λc8=>?_
 ·have f9:i<=2:=am;refine aa<|sT<|sQ<|ai<|sQ<|sQ<|sZ Z<|ea Z Z<|dy 1 Z Z Z<|bN Z (au Z) (ah Z)<|cC Z Z<|dy 0 Z Z Z<|bN Z (au Z) (ah Z)<|bB Z (bh Z Z)<|bB Z (nH Z Z Z)<|dE<|sT<|aC Z (λd8=>?_) λd8=>?_
  ·refine sS<|cE 2 Z Z<|bD Z Z Z Z fW<|sN<|sS<|sB Z<|an<|aD<|aJ<|aD<|bM<|aJ<|aD<|ar _ Z Z (.inr ⟨q,q+i,0,by rw[<-K,show 3-i=(2-i)+1 by omega,FK.tJ,List.getElem?_eq_none am],rfl,rfl,rfl⟩) aQ
  ·have O:q+i<bs.length:=am;obtain⟨b,o,hA⟩:=hp.form (by intro h;simp[h]at O);obtain⟨x,hx⟩:∃x,bs[q+i]?=some x:=⟨bs[q+i],by simp[O]⟩;have mt:=x.toNat_lt;have d7:128 ^ i<=16384:=Nat.pow_le_pow_right am (by omega:i<=2);have f8:x.toNat%128*128 ^ i<=127*16384:=Nat.mul_le_mul am d7;have I:=K;rw[show 3-i=(2-i)+1 by omega,FK.tJ,hx]at I;simp only at I;refine aa<|sT<|sQ<|sZ Z<|ea Z Z<|dy 0 Z Z Z<|bN Z (au Z) (ah Z)<|cC Z Z<|dy 1 Z Z Z<|bN Z (au Z) (ah Z)<|bB Z (aV (z:=1) Z Z (by rw[hA];rfl) Z O)<|bN Z (au Z) (hp.at bJ hA (by simpa using hx))<|bB Z (cD Z Z Z (iP am))<|bB Z (aX Z)<|dE<|sT<|sS<|cE 1 Z Z<|aL Z Z Z Z<|sP (bH Z Z (iP am))<|cZ Z<|bm 1 Z<|bD Z Z Z Z fW<|sN<|bp Z<|bY Z (mK Z Z am (M8 _))<|bY Z (lq (r:=((x.toNat%128*128 ^ i:Nat):Int)) Z Z (by rw[<-Int.natCast_mul,iP am]))<|sP (bH (r:=((n+x.toNat%128*128 ^ i:Nat):Int)) Z Z (by rw[<-Int.natCast_add,iP am]))<|sB Z<|bp Z<|sP (lq (r:=((128 ^ (i+1):Nat):Int)) Z Z (by rw[Nat.pow_succ,iP am];omega))<|sB Z<|bp Z<|sP (bq Z Z Z)<|sN<|aC Z (λd9=>?_) λd9=>?_
   ·rw[if_pos am]at I;have hm:x.toNat%128=x.toNat:=Nat.mod_eq_of_lt am;refine sQ<|sS<|sM Z (cj Z (bc Z Z Z) dp λT Y=>(sM Z ?_))
    refine bK T (by rfl)<|cz Z Z (λ_=>rfl) (bg Z) dp<|bK T (by rfl)<|cz Z Z (λ_=>rfl) (dX Z Z Z) dp<|cj Z (dV Z Z Z) dp λJ d6=>sN<|cf Z (λJ=>?_) λJ=>?_
    ·simp only[d6,Y,Bool.and_eq_true,decide_eq_true_eq]at J;refine sG<|cE 2 Z Z<|bD Z Z Z Z fW<|sN<|bp Z<|sB Z<|an<|aJ<|aD<|bM<|aJ<|aD<|ar _ Z Z (.inr ⟨q,q+i+1,_,by rw[<-I,if_pos am],rfl,rfl,rfl⟩) aQ
    ·rw[if_neg (by intro h;rw[d6,Y]at J;simp at J;omega)]at I;refine aa<|sT<|bp Z<|sB Z<|an<|aJ<|aD<|bM<|aJ<|aD<|ar _ Z Z (.inl ⟨n+x.toNat%128*128 ^ i,q+i+1,by rw[<-I,hm],rfl,rfl⟩) aQ
   ·rw[if_neg am]at I;refine aa<|al<|sT<|sG<|bY Z (bH Z Z (iP am))<|sA Z<|ap<|aH (i+1,n+x.toNat%128*128 ^ i) ⟨by simp only;omega,by rw[Nat.pow_succ];have:=Nat.mul_le_mul_right (128 ^ i) (show x.toNat%128<=127 by omega);simp only;omega,by show FK.tJ bs q (3-(i+1)) (i+1) _=_;rw[show 3-(i+1)=2-i by omega];exact I,by simp only;omega⟩ (by simp only;omega) bW aQ
 ·obtain rfl:i=3:=am;refine aM<|aw<|az<|aq<|sT<|sS<|cE 2 Z Z<|bD Z Z Z Z fW<|sN<|sS<|sB Z<|an<|ar _ Z Z (.inr ⟨q,q+3,0,K.symm,rfl,rfl,rfl⟩) aQ
def rmem(r st:Nat)(A:Option Addr)(c:Nat)(bs:List UInt8):Except Nat Nat->HP
 |.ok q=>HP.ex λs0:Int=>HP.all [blk r 223 #[.slice A bs.length c,.int .i64 q,.bool false],blk st 3 #[.int .i64 s0]]
 |.error e=>HP.ex λq:Nat=>HP.all [blk r 223 #[.slice A bs.length c,.int .i64 q,.bool true],blk st 3 #[.int .i64 e]]
def zl:Except Nat Nat->Bool
 |.ok _=>false
 |.error _=>true
def cG(bs:List UInt8):Except Nat Nat->Except Nat Nat
 |.error e=>.error e
 |.ok q=>match FK.rd bs q with
  |.ok (_,q')=>.ok q'
  |.error e=>.error e
section
variable{r':List HP}{r st:Nat}
def rmem.cells{s:Except Nat Nat}{w:World}(sl:Sel (rmem r st A c bs s) l r')(hw:Holds E w l):∃(q:Nat) (s0:Int),w.heap[r]?=some (.cells #[.slice A bs.length c,aA q,.bool (zl s)] 223)/\w.heap[st]?=some (.cells #[aA s0] 3)/\(∀I,s=.ok I->q=I)/\(∀e,s=.error e->s0=e):=by
 obtain⟨F1,_,_,_,_,T,_⟩:=(hw.sel sl).star;cases s with
 |ok q=>
  obtain⟨s0,Y,F4,h3,h4,hd,J,F5,F6,h6,h7,K,O,_⟩:=T;exact⟨q,s0,J.2,O.2,λI h=>by injection h,λe h=>by cases h⟩
 |error e=>
  obtain⟨q,Y,F4,h3,h4,hd,J,F5,F6,h6,h7,K,O,_⟩:=T;exact⟨q,e,J.2,O.2,λI h=>(by cases h),λe' h=>(by injection h with h;rw[h])⟩
def rmem.bad(sl:Sel (rmem r st A c bs s) l r'):∀w,Holds E w l->cw ⟨r,2,none⟩ (.bool (zl s)) w:=λw hw=>by
 obtain⟨q,s0,I,_⟩:=rmem.cells sl hw;simp[cw,World.cell?,I]
theorem rmem.place{q:Nat}(sl:Sel (rmem r st A c bs (.ok q)) l r'):∀w,Holds E w l->cw ⟨r,1,none⟩ (aA q) w:=λw hw=>by
 obtain⟨K,s0,I,_,J,_⟩:=rmem.cells sl hw;simp[cw,World.cell?,I,J q rfl]
theorem rmem.start(sl:Sel (rmem r st A c bs (.error e)) l r'):∀w,Holds E w l->cw ⟨st,0,none⟩ (aA e) w:=λw hw=>by
 obtain⟨J,s0,K,I,_,h3⟩:=rmem.cells sl hw;simp[cw,World.cell?,I,h3 e rfl]
theorem wP{q:Nat}:Ent (blk r 223 #[.slice A bs.length c,aA q,.bool false]::blk st 3 #[aA x]::fr) (rmem r st A c bs (.ok q)::fr):=
 (Ent.all (m:=[blk r 223 #[.slice A bs.length c,aA q,.bool false],blk st 3 #[aA x]])).trans (Ent.ex (f:=λx:Int=>HP.all [blk r 223 #[.slice A bs.length c,aA q,.bool false],blk st 3 #[aA x]]) x)
def Dh{q:Nat}:Ent (blk r 223 #[.slice A bs.length c,aA q,.bool true]::blk st 3 #[aA e]::fr) (rmem r st A c bs (.error e)::fr):=
 (Ent.all (m:=[blk r 223 #[.slice A bs.length c,aA q,.bool true],blk st 3 #[aA e]])).trans (Ent.ex (f:=λq:Nat=>HP.all [blk r 223 #[.slice A bs.length c,aA q,.bool true],blk st 3 #[aA e]]) q)
def lw(h:cG bs s=.ok I):∃q n,s=.ok q/\FK.rd bs q=.ok (n,I):=by
 cases s with
 |error e=>cases h
 |ok q=>
  simp only[cG]at h;cases hr:FK.rd bs q with
  |error e=>rw[hr]at h;cases h
  |ok x=>
   obtain⟨n,J⟩:=x;rw[hr]at h;injection h with h;subst h;exact⟨q,n,rfl,hr⟩
end
def NextIs(bs:List UInt8)(s:Except Nat Nat)(k:Int):Prop:=∀q n I,s=.ok q->FK.rd bs q=.ok (n,I)->k=n
def NextIs.small(h:NextIs bs s k)(K:cG bs s=.ok I):0<=k/\k<2097152:=by
 obtain⟨q,n,O,J⟩:=lw K;have:=FK.tM J;rw[h q n I O J];omega
def iM{p:HP}(Y:Reads p A bs)(hl:bs.length<=1099511627776)(r st:Nat)(s:Except Nat Nat)(hq:∀q,s=.ok q->q<=bs.length) :
 Does prog G 124 [eg r 0,eg st 0].toArray [rmem r st A c bs s,p]
  (λu m=>∃k:Int,u=aA k/\NextIs bs s k/\(∀q,cG bs s=.ok q->q<=bs.length)/\m=[rmem r st A c bs (cG bs s),p]):=by
 cases s with
 |error e=>
 refine bz func124 Z λE fr hE=>aE<|sS<|sB Z<|sQ<|sS<|cE 2 Z Z<|bF (au Z) (rmem.bad .head)<|sN<|aK Z<|sS<|sA Z<|ap<|sT<|an<|aD<|ar [_,_] rfl rfl ⟨0,rfl,λq n K h=>(by cases h),λq h=>(by cases h),rfl⟩ aQ
 |ok q=>
 refine bz func124 Z λE fr hE=>aE<|df .head ?_
 intro s0;refine bC<|aE<|sS<|sB Z<|sQ<|sS<|cE 2 Z Z<|aL Z Z Z Z<|sN<|ag Z<|aa<|sT<|sQ<|sG<|sM Z<|cE 1 Z Z<|aL Z Z Z Z<|cZ Z<|bD Z Z Z Z fW<|sN<|bp Z<|bQ Z (Dl Y hl r q (hq q Z)) (bo bJ bJ) ?_
 rintro v m hv;obtain⟨k,rfl,hk,T,hm⟩:∃k:Int,v=aA k/\NextIs bs (.ok q) k/\(∀K,cG bs (.ok q)=.ok K->K<=bs.length)/\Ent (m++(blk st 3 #[aA q]::fr)) (rmem r st A c bs (cG bs (.ok q))::p::fr):=by
  rcases hv with⟨n,K,J,rfl,rfl⟩|⟨e,K,k,J,rfl,rfl,rfl⟩
  ·refine⟨n,rfl,λO n1 q2 h I=>?_,λO h=>?_,?_⟩
   ·injection h with h
    subst h;rw[J]at I;injection I with I;injection I with I;rw[I]
   ·simp only[cG,J]at h
    injection h with h;rw[<-h];exact(FK.tM J).2.2
   ·simp only[cG,J]
    exact(Ent.cons (Ent.perm (List.Perm.swap _ _ _))).trans wP
  ·refine⟨k,rfl,λO n1 q2 h I=>?_,λO h=>?_,?_⟩
   ·injection h with h
    subst h;rw[J]at I;cases I
   ·simp only[cG,J]at h
    cases h
   ·simp only[cG,J]
    exact(Ent.cons (Ent.perm (List.Perm.swap _ _ _))).trans Dh
 exact ao hm<|sB Z<|an<|ar [_,_] rfl Z ⟨k,rfl,hk,T,rfl⟩ aQ
def sz(d:Nat)(A:Option Addr)(c:Nat)(ns:List FK.Node)(hd:d<=1048576)(hl:ns.length<=12)(ho:∀n∈ns,FK.fY n/\FK.EdgesOk ns.length (-1) n.after) :
 Gives prog G 62 [.agg #[aA d,.slice A ns.length c]].toArray (λw=>NodesAt w w.heap.size A c ns) λv m=>m=[dB v (FK.mP ⟨d,ns⟩)]:=by
 have d7:=G7 hd hl ho;refine Gives.body func62 Z Z λE w0 hE h0 hN=>sS<|sO (cP Z Z λb1=>(sB Z (sS (bm 0 Z (aL Z Z Z Z (bQ Z (eB _ [] d am di) Ent.row0 ?_))))))
 rintro v m rfl;refine ae<|sB Z<|bp Z<|bm 1 Z<|aL Z Z Z Z<|sP (bh Z Z)<|bQ Z (eB _ _ ns.length am (by have:=FK.ef (n:=d) am;simp;omega)) aQ ?_
 rintro v m rfl;refine ae<|sB Z<|sQ<|sS<|sB Z<|ai<|aO (X:=Nat×Value) (λx=>[(4,aA x.1),(3,x.2),(1,eg b1 0)]) (λx=>[dB x.2 (nz d ns x.1),blk b1 _ #[aA d,.slice A ns.length c],old E w0]) (λx=>x.1<=ns.length) (λx=>ns.length-x.1) (0,_) am bW (by simp only[nz,List.take_zero,List.flatMap_nil,List.append_nil,List.nil_append];exact aQ) ?_
 rintro⟨k,v3⟩ hk;refine sQ<|bp Z<|bm 1 Z<|aL Z Z Z Z<|sP (bh Z Z)<|sP (bq Z Z Z)<|sN<|aC Z (λmt=>?_) λmt=>?_
 ·have d8:k<ns.length:=am;obtain⟨b,off,rfl,BT,O⟩:=hN.cells am;obtain⟨nd,hnd⟩:∃nd,ns[k]?=some nd:=⟨ns[k],by simp[d8]⟩;obtain⟨A6,c6,Y,T⟩:=NodeAt.row (O k nd hnd);obtain⟨t6,d6⟩:=ho nd (cg hnd);have d9:=Eh (d:=d) hnd;have f7:(nz d ns k).length+((tK nd).flatMap FJ).length+(FK.dJ nd.after.length).length+(nd.after.flatMap FJ).length<=700:=by
   have:=d7 (k+1);rw[d9,yU]at this;simp only[List.length_append]at this;have e:(λk:Int=>FK.dJ k.toNat)=FJ:=rfl;rw[e]at this;omega
  have f8:nd.after.length<=12:=by
   rcases d6.length_le am with h|h
   ·omega
   ·rw[h];simp
  obtain⟨ba,cl,be,bs,ca,ji,I⟩:=nd;have f8:I.length<=12:=f8;have f9:=Lj t6;simp only[tK,List.mem_cons,List.not_mem_nil,or_false,forall_eq_or_imp,forall_eq]at f9;obtain⟨⟨x1,y1⟩,⟨x2,y2⟩,⟨x3,y3⟩,⟨x4,y4⟩,⟨x5,y5⟩,⟨x6,y6⟩⟩:=f9;obtain⟨n1,rfl⟩:∃m:Nat,ba=m:=⟨ba.toNat,am⟩;obtain⟨n2,rfl⟩:∃m:Nat,cl=m:=⟨cl.toNat,am⟩;obtain⟨n3,rfl⟩:∃m:Nat,be=m:=⟨be.toNat,am⟩;obtain⟨n4,rfl⟩:∃m:Nat,bs=m:=⟨bs.toNat,am⟩;obtain⟨n5,rfl⟩:∃m:Nat,ca=m:=⟨ca.toNat,am⟩;obtain⟨n6,rfl⟩:∃m:Nat,ji=m:=⟨ji.toNat,am⟩;simp only[tK,List.flatMap_cons,List.flatMap_nil,List.append_nil,List.length_append]at f7;have e1:∀k:Nat,FJ (k:Int)=FK.dJ k:=λ_=>rfl;simp only[e1]at f7;refine aa<|sT<|sQ<|ai<|sS<|bm 1 Z<|aL Z Z Z Z<|bY Z (aV (z:=7) Z Z Z Z d8)<|bF (bR (vs:=iN _ A6 c6) Z) (Ih dm h0 Y)<|sO (cO (z:=.agg #[aA 0,aA 0,aA 0,aA 0,aA 0,aA 0,cB]) Z λb5=>sO<|bk Z (m:=7) (vs:=iN _ A6 c6) Z Z Z Z (by simp[iN,Value.oneCell']) (by simp[iN,Value.cells]) ?_)
  simp only[Value.cells,C6];refine sN<|bp Z<|bm 0 Z<|aL Z Z Z Z<|bQ Z (eB _ _ n1 am am) gfE1 ?_
  rintro v m rfl;refine ae<|sB Z<|bp Z<|bm 1 Z<|aL Z Z Z Z<|bQ Z (eB _ _ n2 am (by simp only[List.length_append];omega)) aQ ?_
  rintro v m rfl;refine ae<|sB Z<|bp Z<|bm 2 Z<|aL Z Z Z Z<|bQ Z (eB _ _ n3 am (by simp only[List.length_append];omega)) aQ ?_
  rintro v m rfl;refine ae<|sB Z<|bp Z<|bm 3 Z<|aL Z Z Z Z<|bQ Z (eB _ _ n4 am (by simp only[List.length_append];omega)) aQ ?_
  rintro v m rfl;refine ae<|sB Z<|bp Z<|bm 4 Z<|aL Z Z Z Z<|bQ Z (eB _ _ n5 am (by simp only[List.length_append];omega)) aQ ?_
  rintro v m rfl;refine ae<|sB Z<|bp Z<|bm 5 Z<|aL Z Z Z Z<|bQ Z (eB _ _ n6 am (by simp only[List.length_append];omega)) aQ ?_
  rintro v m rfl;refine ae<|sB Z<|bp Z<|bm 6 Z<|aL Z Z Z Z<|sP (bh Z Z)<|bQ Z (eB _ _ I.length am (by simp only[List.length_append];omega)) aQ ?_
  rintro v m rfl;refine ae<|sB Z<|sS<|sB Z<|ai<|aO (X:=Nat×Value) (λx=>[(6,aA x.1),(3,x.2),(4,aA k),(1,eg b1 0),(5,eg b5 0)]) (λx=>[dB x.2 (nz d ns k++FK.dJ n1++FK.dJ n2++FK.dJ n3++FK.dJ n4++FK.dJ n5++FK.dJ n6++FK.dJ I.length++(I.take x.1).flatMap FJ),blk b5 _ (iN ⟨n1,n2,n3,n4,n5,n6,I⟩ A6 c6).toArray,blk b1 _ #[aA d,.slice (some ⟨b,off,none⟩) ns.length c],old E w0]) (λx=>x.1<=I.length) (λx=>I.length-x.1) (0,_) am bW (by simp only[List.take_zero,List.flatMap_nil,List.append_nil];exact aQ) ?_
  rintro⟨j,v3⟩ hj;refine sQ<|bp Z<|bm 6 Z<|aL Z Z Z Z<|sP (bh Z Z)<|sP (bq Z Z Z)<|sN<|aC Z (λK=>?_) λK=>?_
  ·simp only at K;have J:j<I.length:=am;obtain⟨b6,wf,rfl,Fd,t7⟩:=T.cells (by simp only;omega);obtain⟨y,hy⟩:∃y,I[j]?=some y:=⟨I[j],by simp[J]⟩;have In:=d6.bounds y (cg hy);obtain⟨m,rfl⟩:∃m:Nat,y=m:=⟨y.toNat,am⟩;have t8:=wC hy;have LE:=GR FJ I j;refine aa<|sT<|sQ<|ai<|sG<|sM Z<|bm 6 Z<|aL Z Z Z Z<|bY Z (aV (z:=1) Z Z Z Z J)<|bF (au Z) (oz gP h0 (by simpa using t7 j _ hy))<|bQ Z (eB _ _ m am (by simp only[List.length_append];omega)) aQ ?_
   rintro v m rfl;refine ae<|sA Z<|ap<|al<|sT<|sG<|bY Z (bH Z Z (iP am))<|sA Z<|ap<|aH (j+1,_) (by simp;omega) (by simp;omega) bW (by rw[t8];simp only[List.flatMap_append,List.flatMap_cons,List.flatMap_nil,List.append_nil,List.append_assoc];exact aQ)
  ·simp only at K;obtain rfl:j=I.length:=am;refine aM<|aw<|az<|aq<|al<|sT<|sG<|bY Z (bH Z Z (iP am))<|sA Z<|ap<|aH (k+1,_) (by simp;omega) (by simp;omega) bW (by rw[d9];simp only[FK.js,Int.toNat_natCast,List.append_assoc,List.take_length];exact Ent.cons Ent.drop)
 ·obtain rfl:k=ns.length:=am;refine aM<|aw<|az<|aq<|sT<|bp Z<|sB Z<|an<|ar [dB v3 (FK.mP ⟨d,ns⟩)] rfl Z Z (by have e:nz d ns ns.length=FK.mP ⟨d,ns⟩:=(by simp[nz,FK.mP]);rw[e];exact Ent.cons Ent.drop)
end Go.Y
namespace Go.Y
open Go.Proofs Tryz Go.RowKit Go.Deep
section
variable{g:List Bool}{l:List FK.Node}{b:Bool}
def jt(n low:Int)(w:World)(E:low<=n)(I:n<=1048576) :
 Calls prog 119 #[.int .i64 n,.int .i64 low] w λe w'=>e=.returned (.bool true)/\w=w':=by
 go_enter func119,ntmps119
 go_wp2
 go_ret
 exact⟨rfl,rfl⟩
def rO(n low:Int)(w:World)(h:n<low\/1048576<n) :
 Calls prog 119 #[.int .i64 n,.int .i64 low] w λe w'=>e=.returned (.bool false)/\w=w':=by
 by_cases I:low<=n
 ·have E:decide (n<=1048576)=false:=by simp;omega
  clear h
  go_enter func119,ntmps119
  go_wp2
  go_ret
  exact⟨rfl,rfl⟩
 ·have E:n<low:=am
  clear h
  go_enter func119,ntmps119
  go_wp2
  go_ret
  exact⟨rfl,rfl⟩
def gY(n low:Int):Bool:=decide (low<=n/\n<=1048576)
def gM(n low:Int)(w:World) :
 Calls prog 119 #[.int .i64 n,.int .i64 low] w λe w'=>e=.returned (.bool (gY n low))/\w=w':=by
 by_cases h:low<=n/\n<=1048576
 ·have:gY n low=true:=by simp[gY,h]
  rw[this];exact jt n low w h.1 h.2
 ·have:gY n low=false:=by simp only[gY,decide_eq_false_iff_not];exact h
  rw[this];exact rO n low w am
def gS{n:Int}(E:x<=n)(I:n<=1048576):gY n x=true:=by simp[gY,E,I]
theorem nM{n:Int}(h:n<x\/1048576<n):gY n x=false:=by simp only[gY,decide_eq_false_iff_not];omega
def ChkPost(w:World)(p:Int×Int)(e:Ending)(w':World):Prop:=e=.returned (.tuple #[.int .i64 p.1,.int .i64 p.2])/\Below w.heap.size w w'
def gU(g:List Bool):Array Value:=(g.map Value.bool).toArray
def m9(h:g[i]?=some b):(gU g)[i]?=some (.bool b):=by simp[gU,h]
theorem vY(g:List Bool)(i:Nat)(b:Bool):(gU g).setIfInBounds i (.bool b)=gU (g.set i b):=by
 apply Array.ext_getElem?;intro k;rw[Array.getElem?_setIfInBounds];simp only[gU,List.getElem?_toArray,List.getElem?_map,List.getElem?_set,List.size_toArray,List.length_map]
 by_cases h:i=k<;>by_cases E:k<g.length<;>simp[h,E]<;>(try(subst h;simp[E]))
def vH(n:Nat):madeCells #[Value.bool false] n=gU (List.replicate n false):=by
 unfold madeCells gU;apply Array.ext_getElem?;intro k
 by_cases hk:k<n<;>simp[hk,Nat.mod_one]
def FreeTo(l:List FK.Node)(g:List Bool)(i m:Nat)(b:Bool):Prop:=b=true<->∀k∈(FK.aft l i).take m,g[k]?=some true
def FreeTo.start(l:List FK.Node)(g:List Bool)(i:Nat):FreeTo l g i 0 true:=by simp[FreeTo]
theorem FreeTo.next{m x:Nat}{c:Bool}(h:FreeTo l g i m b)(E:(FK.aft l i)[m]?=some x)(J:g[x]?=some c):FreeTo l g i (m+1) (b&&c):=by
 obtain⟨K,E⟩:=gfGet.1 E;unfold FreeTo at *
 rw[List.take_succ_eq_append_getElem K,E];rw[Bool.and_eq_true,h];constructor
 ·rintro⟨O,T⟩ k hk
  simp at hk;rcases hk with hk|rfl
  ·exact O k hk
  ·rw[J,T]
 ·intro hk
  refine⟨λk I=>hk k (by simp[I]),?_⟩;have:=hk x di;rw[J]at this;exact Option.some.inj this
def FreeTo.whole{m:Nat}(h:FreeTo l g i m b)(E:(FK.aft l i).length<=m):b=true<->∀k∈FK.aft l i,g[k]?=some true:=by
 unfold FreeTo at h
 rwa [List.take_of_length_le E]at h
def ChkPost.mk{w':World}(E:Below w.heap.size w w'):ChkPost w p (.returned (.tuple #[.int .i64 p.1,.int .i64 p.2])) w':=⟨rfl,E⟩
def vC(w:World)(A:Option Addr)(c:Nat)(f:FK.Flow)
(I:¬FK.iY f):Calls prog 61 #[.agg #[.int .i64 f.deadline,.slice A f.NO.length c]] w (ChkPost w (FK.chk f)):=by
 have Y:=Lib.hid (FK.Checked.head I).chk;have E:(f.deadline<1\/1048576<f.deadline)\/((1<=f.deadline/\f.deadline<=1048576)/\f.NO.length=0)\/((1<=f.deadline/\f.deadline<=1048576)/\12<f.NO.length):=by
  unfold FK.iY FK.span at I;omega
 clear I;rw[Y.out];rcases E with h|⟨⟨O,T⟩,h3⟩|⟨⟨O,T⟩,h3⟩
 ·go_enter func61,ntmps61
  go_wp2_with (go_at_call 119;refine(rO _ _ _ am).mono ?_;rintro e K ⟨rfl,rfl⟩)
  go_ret2
  exact ChkPost.mk (p:=(2,-1)) qG
 ·have J:((f.NO.length:Int)==0)=true:=by simp[h3]
  have H3:=Lib.hid h3;clear h3
  go_enter func61,ntmps61
  go_wp2_with (go_at_call 119;refine(jt _ _ _ am am).mono ?_;rintro e K ⟨rfl,rfl⟩)
  go_ret2
  exact ChkPost.mk (p:=(2,-1)) qG
 ·have J:((f.NO.length:Int)==0)=false:=by rw[beq_eq_false_iff_ne];omega
  go_enter func61,ntmps61
  go_wp2_with (go_at_call 119;refine(jt _ _ _ am am).mono ?_;rintro e K ⟨rfl,rfl⟩)
  go_ret2
  exact ChkPost.mk (p:=(2,-1)) qG
def LastRel(len:Nat)(l:List Int)(m:Nat):Prop:=FK.EdgesOk len (-1) l<->FK.EdgesOk len (if m=0 then -1 else l.getD (m-1) 0) (l.drop m)
end
section
variable{l:List Int}{m:Nat}{prev:Int}
def LastRel.start(len:Nat)(l:List Int):LastRel len l 0:=by simp[LastRel]
theorem LastRel.at_{len:Nat}(h:LastRel len l m)(E:l[m]?=some x)(J:0<m->l[m-1]?=some prev) :
 FK.EdgesOk len (-1) l<->((if m=0 then -1 else prev)<x/\x<len/\FK.EdgesOk len x (l.drop (m+1))):=by
 obtain⟨K,E⟩:=gfGet.1 E;unfold LastRel at h;rw[h,vv K,E]
 by_cases I:m=0
 ·simp[I]
 ·have:=J am
  simp[I,this]
theorem LastRel.next{len:Nat}(h:LastRel len l m)(E:l[m]?=some x)(I:0<m->l[m-1]?=some prev)(J:(if m=0 then -1 else prev)<x)(K:x<len):LastRel len l (m+1):=by
 have:=h.at_ E I;unfold LastRel;rw[this];simp[J,K,E]
theorem LastRel.ended{len:Nat}(h:LastRel len l m)(E:l.length<=m):FK.EdgesOk len (-1) l:=by
 unfold LastRel at h;rw[h,List.drop_of_length_le E];trivial
def AcTo(l:List FK.Node)(j:Nat):Prop:=∀i,i<j->FK.Ac l i
def vD(w:World)(B:Nat)(A:Option Addr)(c:Nat)(f:FK.Flow)(hB:B<=w.heap.size)(hN:NodesAt w B A c f.NO)
(hh:FK.iY f):Calls prog 61 #[.agg #[.int .i64 f.deadline,.slice A f.NO.length c]] w (ChkPost w (FK.chk f)):=by
 have Oo:=hh;obtain⟨⟨d1,d2⟩,l1,l2⟩:=Oo;have HN:=Lib.hid hN;have HH:=Lib.hid hh;have g1:=hN.len;have g2:=hN.cap;clear hh hN;have hz:((f.NO.length:Int)==0)=false:=by rw[beq_eq_false_iff_ne];omega
 have N7:∀W:World,(Instr.makeSlice 218 (.int .i64 (f.NO.length:Int)) (.int .i64 (f.NO.length:Int))).run prog W=.ok (.slice (some ⟨W.heap.size,0,none⟩) f.NO.length f.NO.length) (W.alloc (.cells (gU (List.replicate f.NO.length false)) 4)):=λW=>by
  rw[<-vH];exact run_make_row' (P:=prog) 218 4 (.bool false) 1 underlying218 (by kernel_rfl) rfl .i64 .i64 f.NO.length am am W
 have OH:=Lib.hid N7;clear N7
 go_enter func61,ntmps61
 go_wp2_with (go_at_call 119;refine(jt _ _ _ am am).mono ?_;rintro e w2 ⟨rfl,rfl⟩)
 go_loopw [5] (λi wr=>∃k:Nat,k<=f.NO.length/\i=.int .i64 k/\FK.OkTo f k/\Below w.heap.size w wr/\w.heap.size<wr.heap.size/\wr.cell? ⟨w.heap.size,1,none⟩=some (.slice A f.NO.length c)) (λi _=>f.NO.length-(RowKit.intOf i).toNat)
 case atStart=>exact⟨0,am,rfl,λj n hj=>by omega,qG,by simp,by go_simp⟩
 case round=>
  obtain⟨k,hk,rfl,LT,hb,Oh,Oi⟩:=hrel
  by_cases Oz:k<f.NO.length
  ·obtain⟨b,off,rfl,Oj,E⟩:=HN.out.cells am
   have d6:f.NO[k]?=some f.NO[k]:=by simp[Oz]
   obtain⟨n,hn⟩:∃n,n=f.NO[k]:=⟨_,rfl⟩;rw[<-hn]at d6;clear hn;have t7:=E k n d6;have f8:=t7.keep (hb.to_same.mono hB) Oj;obtain⟨c0,c1,c2,c3,c4,c5,⟨A6,n6,c6,hi⟩,hr⟩:=f8;have t6:=Lib.hid hi;have NW:=Lib.hid d6;have f9:=Lib.hid LT;have HB:=Lib.hid hb;clear E hr hi d6 LT hb t7
   by_cases hno:FK.fY n
   ·have N8:=Lib.hid hno
    obtain⟨a1,a2,⟨a3,a4⟩,⟨a5,a6⟩,⟨a7,a8⟩,⟨a9,OZ⟩,O0,O1⟩:=hno;have OI:=t6.out.len;have N6:=t6.out.cap
    go_wp2_with (go_at_call 119;refine(jt _ _ _ am am).mono ?_;rintro e w2 ⟨rfl,rfl⟩)
    obtain⟨O,rfl⟩:∃O:World,O=wr:=⟨_,rfl⟩
    go_loopw [12] (λt ws=>∃m:Nat,m<=n.after.length/\t=.int .i64 m/\LastRel f.NO.length n.after m/\Below O.heap.size O ws/\O.heap.size<ws.heap.size/\ws.cell? ⟨O.heap.size,6,none⟩=some (.slice A6 n.after.length n6)) (λt _=>n.after.length-(RowKit.intOf t).toNat)
    case atStart=>exact⟨0,am,rfl,.start _ _,qG,by simp,by go_simp⟩
    case round=>
     obtain⟨m,hm,rfl,NT,J,OS,O2⟩:=hrel;have t8:wr.cell? ⟨w.heap.size,1,none⟩=some (.slice (some ⟨b,off,none⟩) f.NO.length c):=by rw[J.to_same.cell Oh];exact Oi
     by_cases NX:m<n.after.length
     ·obtain⟨b6,o6,Ol,OG,In⟩:=(t6.out.keep (J.to_same.mono am)).cells am
      have I:n.after[m]?=some n.after[m]:=by simp[NX]
      have Oq:=In m n.after[m] I;have OA:=t6.out.rng n.after[m] (List.getElem_mem _);obtain⟨x,hx⟩:∃x,x=n.after[m]:=⟨_,rfl⟩;rw[<-hx]at Oq OA I;obtain⟨prev,T⟩:∃prev,0<m->n.after[m-1]?=some prev:=by
       by_cases h0:0<m
       ·exact⟨n.after[m-1],λ_=>by simp⟩
       ·exact⟨0,λh=>absurd h h0⟩
      have NY:0<m->wr.cell? ⟨b6,o6+(m-1),none⟩=some (.int .i64 prev):=λh=>In (m-1) prev (T h);have NZ:0<m->i64 prev:=λh=>t6.out.rng prev (cg (T h));have OB:=Lib.hid I;have OJ:=Lib.hid (NT.at_ I T);have d9:=Lib.hid (λh1 h2=>NT.next I T h1 h2);have d7:=Lib.hid J;obtain⟨O3,O4⟩:=OA;subst Ol;clear In hx I T NT J;have mt:x∈n.after:=cg OB.out
      by_cases h1:x<0
      ·have K:¬FK.EdgesOk f.NO.length (-1) n.after:=λhe=>by have:=(he.bounds x mt).1;omega
       have HR:=Lib.hid (FK.Checked.edge k n HH.out f9.out NW.out N8.out K).chk;clear K NY NZ mt
       go_wp2
       go_quiet (fail)
       go_wp2
       go_ret2
       rw[HR.out];exact ChkPost.mk (p:=(3,(k:Int))) (HB.out.trans (((Go.Y.nq d7.out):Below O.heap.size O _).mono HB.out.size))
      ·have O5:decide (x<0)=false:=by simp;omega
       by_cases h2:(f.NO.length:Int)<=x
       ·have OK:decide ((f.NO.length:Int)<=x)=true:=by simp;omega
        have K:¬FK.EdgesOk f.NO.length (-1) n.after:=λhe=>by have:=(he.bounds x mt).2;omega
        have HR:=Lib.hid (FK.Checked.edge k n HH.out f9.out NW.out N8.out K).chk;clear K NY NZ mt
        go_wp2
        go_quiet (fail)
        go_wp2
        go_ret2
        rw[HR.out];exact ChkPost.mk (p:=(3,(k:Int))) (HB.out.trans (((Go.Y.nq d7.out):Below O.heap.size O _).mono HB.out.size))
       ·have OK:decide ((f.NO.length:Int)<=x)=false:=by simp;omega
        clear mt
        by_cases OC:0<m
        ·have OL:decide (0<(m:Int))=true:=by simp;omega
         have OV:=NY OC;have OD:=NZ OC;obtain⟨OT,OU⟩:=OD;have O6:((m:Int)-1).toNat=m-1:=am;clear NY NZ
         by_cases h3:x<=prev
         ·have OM:decide (x<=prev)=true:=by simp;omega
          have K:¬FK.EdgesOk f.NO.length (-1) n.after:=λhe=>by have:=(OJ.out.1 he).1;rw[if_neg am]at this;omega
          have HR:=Lib.hid (FK.Checked.edge k n HH.out f9.out NW.out N8.out K).chk;clear K
          go_wp2
          go_quiet (fail)
          go_wp2
          go_ret2
          rw[HR.out];exact ChkPost.mk (p:=(3,(k:Int))) (HB.out.trans (((Go.Y.nq d7.out):Below O.heap.size O _).mono HB.out.size))
         ·have OM:decide (x<=prev)=false:=by simp;omega
          have Or:=Lib.hid (d9.out (by rw[if_neg am];omega) am)
          go_wp2
          go_quiet (fail)
          go_wp2
          go_roundw
          case rel=>exact⟨m+1,am,by go_num,Or.out,(Go.Y.nq d7.out),by simp;omega,by go_simp⟩
          case measure=>simp[RowKit.intOf];omega
        ·have OL:decide (0<(m:Int))=false:=by simp;omega
         have Or:=Lib.hid (d9.out (by rw[if_pos am];omega) am);clear NY NZ
         go_wp2
         go_quiet (fail)
         go_wp2
         go_roundw
         case rel=>exact⟨m+1,am,by go_num,Or.out,(Go.Y.nq d7.out),by simp;omega,by go_simp⟩
         case measure=>simp[RowKit.intOf];omega
     ·have wf:=NT.ended am
      have N0:FK.OkTo f (k+1):=λj n' hj Ox=>by
       rcases Nat.lt_or_ge j k with h|h
       ·exact f9.out j n' h Ox
       ·obtain rfl:j=k:=am
        have:=NW.out;rw[Ox]at this;cases this;exact⟨N8.out,wf⟩
      have Ot:=Lib.hid N0;have d7:=Lib.hid J;clear N0 wf NT J
      go_wp2
      go_roundw
      case rel=>exact⟨k+1,am,by go_num,Ot.out,HB.out.trans (d7.out.mono HB.out.size),am,t8⟩
      case measure=>simp[RowKit.intOf];omega
   ·have HR:=Lib.hid (FK.Checked.bound k n HH.out f9.out NW.out hno).chk
    have Ou:=vj hno;clear hno;rcases Ou with h|⟨h0,h⟩|⟨h0,h⟩|⟨h0,h2,h⟩|⟨h0,h2,h3,h⟩|⟨h0,h2,h3,h4,h⟩|⟨h0,h2,h3,h4,h5,h⟩
    ·go_wp2_with (go_at_call 119;refine(gM _ _ _).mono ?_;rintro e w2 ⟨rfl,rfl⟩)
     go_ret2
     rw[HR.out];exact ChkPost.mk (p:=(2,(k:Int))) (nq HB.out)
    ·go_wp2_with (go_at_call 119;refine(gM _ _ _).mono ?_;rintro e w2 ⟨rfl,rfl⟩)
     go_ret2
     rw[HR.out];exact ChkPost.mk (p:=(2,(k:Int))) (nq HB.out)
    ·have f0:gY n.close 1=false:=nM am
     go_wp2_with (go_at_call 119;refine(gM _ _ _).mono ?_;rintro e w2 ⟨rfl,rfl⟩)
     go_ret2
     rw[HR.out];exact ChkPost.mk (p:=(2,(k:Int))) (nq HB.out)
    ·have f0:gY n.close 1=true:=gS am am
     have f1:gY n.beat 0=false:=nM am
     go_wp2_with (go_at_call 119;refine(gM _ _ _).mono ?_;rintro e w2 ⟨rfl,rfl⟩)
     go_ret2
     rw[HR.out];exact ChkPost.mk (p:=(2,(k:Int))) (nq HB.out)
    ·have f0:gY n.close 1=true:=gS am am
     have f1:gY n.beat 0=true:=gS am am;have f2:gY n.base 1=false:=nM am
     go_wp2_with (go_at_call 119;refine(gM _ _ _).mono ?_;rintro e w2 ⟨rfl,rfl⟩)
     go_ret2
     rw[HR.out];exact ChkPost.mk (p:=(2,(k:Int))) (nq HB.out)
    ·have f0:gY n.close 1=true:=gS am am
     have f1:gY n.beat 0=true:=gS am am;have f2:gY n.base 1=true:=gS am am;have f3:gY n.cap n.base=false:=nM am
     go_wp2_with (go_at_call 119;refine(gM _ _ _).mono ?_;rintro e w2 ⟨rfl,rfl⟩)
     go_ret2
     rw[HR.out];exact ChkPost.mk (p:=(2,(k:Int))) (nq HB.out)
    ·have f0:gY n.close 1=true:=gS am am
     have f1:gY n.beat 0=true:=gS am am;have f2:gY n.base 1=true:=gS am am;have f3:gY n.cap n.base=true:=gS am am;have f4:gY n.NS 0=false:=nM am
     go_wp2_with (go_at_call 119;refine(gM _ _ _).mono ?_;rintro e w2 ⟨rfl,rfl⟩)
     go_ret2
     rw[HR.out];exact ChkPost.mk (p:=(2,(k:Int))) (nq HB.out)
  ·obtain rfl:k=f.NO.length:=am
   have f9:=Lib.hid LT;have HB:=Lib.hid hb;have hv:=LT.aft_lt;have HV:=Lib.hid hv;have N7:=OH.out;have OE:=(HN.out.keep (hb.to_same.mono hB));have ON:=Lib.hid OE;have OF:=Lib.hid Oi;clear LT hb hv OE Oz hk
   go_wp2
   clear N7 Oi;obtain⟨O,rfl⟩:∃O:World,O=wr:=⟨_,rfl⟩
   go_loopw [14] (λt ws=>∃(r:Nat) (g:List Bool),r<=f.NO.length/\t=.int .i64 r/\FK.Gone f.NO g/\FK.Far f.NO g r/\Blk ws O.heap.size 4 (gU g)/\Below O.heap.size O ws) (λt _=>f.NO.length-(RowKit.intOf t).toNat)
   case atStart=>exact⟨0,List.replicate f.NO.length false,am,rfl,.start _,.inr am,Blk.made _ _ _,(Below.refl _ _).alloc (cx _) _⟩
   case round=>
    obtain⟨r,g,hr,rfl,NU,Oa,Y,J⟩:=hrel;have t8:wr.cell? ⟨w.heap.size,1,none⟩=some (.slice A f.NO.length c):=by rw[J.to_same.cell Oh];exact OF.out
    have Ob:=Lib.hid Y;have OW:=Y.lt;have d7:=Lib.hid J;have HG:=Lib.hid NU;have HF:=Lib.hid Oa;clear Y J NU Oa
    by_cases OX:r<f.NO.length
    ·go_wp2
     clear t8;obtain⟨w3,rfl⟩:∃w3:World,w3=wr:=⟨_,rfl⟩
     go_loopw [15] (λt ws=>∃(i:Nat) (g':List Bool),i<=f.NO.length/\t=.int .i64 i/\FK.Sweep f.NO g g' i/\Blk ws O.heap.size 4 (gU g')/\Below O.heap.size O ws) (λt _=>f.NO.length-(RowKit.intOf t).toNat)
     case atStart=>exact⟨0,g,am,rfl,.start HG.out,Ob.out,d7.out⟩
     case round=>
      obtain⟨i,g',hi,rfl,Oy,Y,J⟩:=hrel;have t8:wr.cell? ⟨w.heap.size,1,none⟩=some (.slice A f.NO.length c):=by rw[J.to_same.cell Oh];exact OF.out
      have d8:=Lib.hid Y;have OO:=Y.lt;have BT:=Lib.hid J;have N1:=Lib.hid Oy;clear Y J Oy
      by_cases N2:i<f.NO.length
      ·obtain⟨b,off,rfl,Oj,E⟩:=ON.out.cells am
       have d6:f.NO[i]?=some f.NO[i]:=by simp[N2]
       obtain⟨n,hn⟩:∃n,n=f.NO[i]:=⟨_,rfl⟩;rw[<-hn]at d6;have OP:n∈f.NO:=cg d6;clear hn;have f8:=(E i n d6).keep (BT.out.to_same.mono am) Oj;obtain⟨A6,n6,c6,N5⟩:=f8.c6;have Oc:=FK.IH d6;have N9:∀x∈n.after,0<=x:=λx hx=>by
        have:=(f9.out i n N2 d6).2.bounds x hx;omega
       have t6:=Lib.hid N5;have Od:=Lib.hid Oc;have OQ:=Lib.hid N9;have OI:=N5.len;have N6:=N5.cap;clear E d6 f8 N5 Oc N9 OP
       go_wp2
       go_loop [16,17] (λt s=>∃(m:Nat) (b':Bool),m<=n.after.length/\s=.int .i64 m/\t=.bool b'/\FreeTo f.NO g' i m b') (λ_ s=>n.after.length-(RowKit.intOf s).toNat)
       case atStart=>exact⟨0,true,am,rfl,rfl,.start _ _ _⟩
       case round=>
        obtain⟨m,b',hm,rfl,rfl,NV⟩:=hrel;have N3:=Lib.hid NV;clear NV
        by_cases NX:m<n.after.length
        ·obtain⟨b6,o6,Ol,OG,In⟩:=t6.out.cells am
         have I:n.after[m]?=some n.after[m]:=by simp[NX]
         have Oq:=In m n.after[m] I;have N9:=OQ.out n.after[m] (List.getElem_mem _);obtain⟨xn,Om⟩:∃xn:Nat,n.after[m]=(xn:Int):=⟨n.after[m].toNat,am⟩;have Ov:(FK.aft f.NO i)[m]?=some xn:=by rw[Od.out,List.getElem?_map,I,Om];simp
         have OY:=HV.out i xn (cg Ov);have LE:=N1.out.gone.len;obtain⟨cb,On⟩:∃cb,g'[xn]?=some cb:=⟨g'[xn]'am,by simp⟩;have E:wr.cell? ⟨O.heap.size,xn,none⟩=some (.bool cb):=by rw[d8.out.cell];exact m9 On
         have d9:=Lib.hid (N3.out.next Ov On);rw[Om]at Oq N9;subst Ol;clear In I Om Ov LE On;cases b' with
         |true=>
          go_wp2
          go_round
          case rel=>exact⟨m+1,cb,am,by go_num,rfl,by simpa using d9.out⟩
          case measure=>simp[RowKit.intOf];omega
         |false=>
          go_wp2
          go_round
          case rel=>exact⟨m+1,false,am,by go_num,rfl,by simpa using d9.out⟩
          case measure=>simp[RowKit.intOf];omega
        ·have LE:=N1.out.gone.len
         obtain⟨vb,f7⟩:∃vb,g'[i]?=some vb:=⟨g'[i]'am,by simp⟩;have E:wr.cell? ⟨O.heap.size,i,none⟩=some (.bool vb):=by rw[d8.out.cell];exact m9 f7
         have O7:wr.frozen? ⟨O.heap.size,i,none⟩=false:=d8.out.free i;have d9:=Lib.hid (N1.out.next N2 (N3.out.whole (by rw[Od.out];simp;omega)) (HV.out i) (v:=vb||b') (by rw[List.getD,f7];rfl));have N4:=Lib.hid (d8.out.put i (.bool (vb||b')));rw[vY]at N4;clear LE f7;cases vb with
         |true=>
          go_wp2
          go_roundw
          case rel=>exact⟨i+1,g'.set i true,am,by go_num,by simpa using d9.out,by simpa using N4.out,BT.out.setCell (cx _) _⟩
          case measure=>simp[RowKit.intOf];omega
         |false=>
          go_wp2
          go_roundw
          case rel=>exact⟨i+1,g'.set i b',am,by go_num,by simpa using d9.out,by simpa using N4.out,BT.out.setCell (cx _) _⟩
          case measure=>simp[RowKit.intOf];omega
      ·obtain rfl:i=f.NO.length:=am
       have OR:=Lib.hid (FK.Far.next HV.out HG.out HF.out N1.out)
       go_wp2
       go_roundw
       case rel=>exact⟨r+1,g',am,by go_num,N1.out.gone,OR.out,d8.out,BT.out⟩
       case measure=>simp[RowKit.intOf];omega
    ·obtain rfl:r=f.NO.length:=am
     have HW:=Lib.hid (FK.Far.end_ HG.out HF.out)
     go_wp2
     go_loop [18] (λt=>∃j:Nat,j<=f.NO.length/\t=.int .i64 j/\AcTo f.NO j) (λt=>f.NO.length-(RowKit.intOf t).toNat)
     case atStart=>exact⟨0,am,rfl,λi hi=>by omega⟩
     case round=>
      obtain⟨j,hj,rfl,N6⟩:=hrel;have Ow:=Lib.hid N6;clear N6
      by_cases Oe:j<f.NO.length
      ·have LE:=HG.out.len
       have Fd:=HG.out.iff HW.out j Oe;obtain⟨vb,f7⟩:∃vb,g[j]?=some vb:=⟨g[j]'am,by simp⟩;have E:wr.cell? ⟨O.heap.size,j,none⟩=some (.bool vb):=by rw[Ob.out.cell];exact m9 f7
       cases vb with
       |true=>
        have Of:=Fd.1 f7;have d9:=Lib.hid (show AcTo f.NO (j+1) from λi hi=>by
         rcases Nat.lt_or_ge i j with h|h
         ·exact Ow.out i h
         ·obtain rfl:i=j:=am
          exact Of)
        clear LE Fd f7 Of
        go_wp2
        go_round
        case rel=>exact⟨j+1,am,by go_num,d9.out⟩
        case measure=>simp[RowKit.intOf];omega
       |false=>
        have Og:¬FK.Ac f.NO j:=λh=>by have:=Fd.2 h;rw[f7]at this;cases this
        have HR:=Lib.hid (FK.Checked.cycle j HH.out f9.out Oe Og Ow.out).chk;clear LE Fd f7 Og
        go_wp2
        go_ret2
        rw[HR.out];exact ChkPost.mk (p:=(4,(j:Int))) (HB.out.trans (d7.out.mono HB.out.size))
      ·obtain rfl:j=f.NO.length:=am
       have HR:=Lib.hid (FK.Checked.ok HH.out f9.out Ow.out).chk
       go_wp2
       go_ret2
       rw[HR.out];exact ChkPost.mk (p:=(0,-1)) (HB.out.trans (d7.out.mono HB.out.size))
def sy(w:World)(B:Nat)(A:Option Addr)(c:Nat)(f:FK.Flow)(I:B<=w.heap.size)(J:NodesAt w B A c f.NO) :
 Calls prog 61 #[.agg #[.int .i64 f.deadline,.slice A f.NO.length c]] w (ChkPost w (FK.chk f)):=by
 by_cases E:FK.iY f
 ·exact vD w B A c f I J E
 ·exact vC w A c f E
end
end Go.Y
namespace Go.Y
open Go.Proofs Tryz Go.RowKit Go.SL
def Fit.enc(h:FK.Fit f):∃d:Nat,f.deadline=d/\d<=1048576/\f.NO.length<=12/\∀n∈f.NO,FK.fY n/\FK.EdgesOk f.NO.length (-1) n.after:=by
 obtain⟨⟨J,K⟩,h3,I⟩:=h.head;refine⟨f.deadline.toNat,am,am,I,λn E=>?_⟩;obtain⟨i,hi⟩:=List.getElem?_of_mem E;exact h.NO i n (gfGet.1 hi).1 hi
def FD(f:FK.Flow)(v:Value)(m:List HP):Prop:=
 ((FK.chk f).1=0/\∃E,v=.tuple #[E,aA 0,aA (-1)]/\m=[dB E (FK.mP f)])\/((FK.chk f).1≠0/\v=.tuple #[cB,aA (FK.chk f).1,aA (FK.chk f).2]/\m=[])
def oe(f:FK.Flow)(A:Option Addr)(c:Nat):Gives prog Good 61 [.agg #[aA f.deadline,.slice A f.NO.length c]].toArray (λw=>NodesAt w w.heap.size A c f.NO)
 λv m=>v=.tuple #[aA (FK.chk f).1,aA (FK.chk f).2]/\m=[]:=
 fg λ_ w _ _ E=>sy w w.heap.size A c f (cx _) E
def Dm(I:Int)(ns:List FK.Node)(A:Option Addr)(c:Nat):Gives prog Good 31 [.agg #[aA I,.slice A ns.length c]].toArray (λw=>NodesAt w w.heap.size A c ns) (FD ⟨I,ns⟩):=by
 refine Gives.body func31 Z Z λE w0 T Y hN=>sS<|sO (cP Z Z λb1=>(sA Z (sA Z (sB Z (sS (bF (bR (vs:=[aA I,.slice A ns.length c]) Z) (bl Z) (sO (nE Z Z Z T (oe ⟨I,ns⟩ A c) (px bJ Y hN (cx _)) ?_))))))))
 rintro v m ⟨rfl,rfl⟩;refine aW<|sM Z<|bG Z Z<|bG Z Z<|sA Z<|sB Z<|sQ<|bp Z<|sP (cy Z Z Z)<|sN<|aC Z (λJ=>?_) λJ=>?_
 ·exact bp Z<|sM Z<|sA Z<|sA Z<|sB Z<|an<|aD<|eV [] rfl Z Z Z (.inr ⟨J,rfl,rfl⟩) Ent.drop
 ·have K:(FK.chk ⟨I,ns⟩).1=0:=am;obtain⟨d,hd,O,hl,ho⟩:=Fit.enc (FK.qa K);subst hd;refine aa<|sT<|sS<|bF (bR (vs:=[aA d,.slice A ns.length c]) Z) (bl Z)<|sO<|nE Z Z Z T (sz d A c ns O hl ho) (px bJ Y hN (cx _)) ?_
  rintro v m rfl;exact ae<|sA Z<|sA Z<|sB Z<|an<|eV [_] rfl Z Z Z (.inl ⟨K,_,rfl,rfl⟩)<|Ent.cons Ent.drop
section
variable{p:HP}
def ReadPost.form(h:ReadPost bs p v m):∃x y z,v=.tuple #[.agg #[x,y],z]/\x.oneCell'=true/\y.oneCell'=true/\z.oneCell'=true:=by
 rcases h with⟨f,A',E,_,_,rfl,_⟩|⟨e,a,b,_,_,rfl,_⟩
 ·exact⟨_,_,_,rfl,rfl,rfl,rfl⟩
 ·exact⟨_,_,_,rfl,rfl,rfl,rfl⟩
def ReadPost.ok(h:ReadPost bs p v m)(J:FK.nl bs=.ok f):∃A' I,(∀nd∈f.NO,Small nd)/\v=.tuple #[.agg #[aA f.deadline,.slice A' f.NO.length I],.nilIface]/\m=[nodesOwn (.slice A' f.NO.length I) f.NO,p]:=by
 rcases h with⟨T,A',I,E,K,h3,O⟩|⟨e,a,b,E,_⟩
 ·rw[J]at E
  injection E with E;subst E;exact⟨A',I,K,h3,O⟩
 ·rw[J]at E;cases E
def DecPost(bs:List UInt8)(p:HP)(v:Value)(m:List HP):Prop:=
 (∃(f:FK.Flow) (A':Option Addr) (E:Nat),FK.nl bs=.ok f/\(∀nd∈f.NO,Small nd)/\v=.tuple #[.agg #[aA f.deadline,.slice A' f.NO.length E],aA 0,aA (-1)]/\m=[nodesOwn (.slice A' f.NO.length E) f.NO,p])\/
 (∃(e a:Int),FK.nl bs=.error (e,a)/\e≠0/\v=.tuple #[.agg #[aA 0,cB],aA e,aA a]/\m=[p])
def DecPost.ok(h:DecPost bs p v m)(J:FK.nl bs=.ok f):∃A' I,(∀nd∈f.NO,Small nd)/\v=.tuple #[.agg #[aA f.deadline,.slice A' f.NO.length I],aA 0,aA (-1)]/\m=[nodesOwn (.slice A' f.NO.length I) f.NO,p]:=by
 rcases h with⟨T,A',I,E,K,h3,O⟩|⟨e,a,E,_⟩
 ·rw[J]at E
  injection E with E;subst E;exact⟨A',I,K,h3,O⟩
 ·rw[J]at E;cases E
def DecPost.bad{e a:Int}(h:DecPost bs p v m)(I:FK.nl bs=.error (e,a)):e≠0/\v=.tuple #[.agg #[aA 0,cB],aA e,aA a]/\m=[p]:=by
 rcases h with⟨T,A',Y,E,J,h3,K⟩|⟨e,a,E,J,h3,K⟩
 ·rw[I]at E;cases E
 ·rw[I]at E
  injection E with E;injection E with E O;subst E;subst O;exact⟨J,h3,K⟩
end
end Go.Y
namespace FK
def np{β:Type}(s:Except Nat Nat)(K:Nat->Except Nat β):Except Nat β:=match s with
 |.error e=>.error e
 |.ok q=>K q
def qr{α β:Type}(r:Rd α)(m:Nat)(l:List α)(q:Nat)(K:List α->Rd β):andThen (lG r (m+1) l q) K=andThen (r q) λx q=>andThen (lG r m (l++[x]) q) K:=by
 simp only[lG];cases h:r q with
 |error e=>rfl
 |ok x=>rfl
def pg{α β γ:Type}(a:Except Nat (α×Nat))(f:α->Rd β)(g:β->Rd γ):andThen (andThen a f) g=andThen a λx q=>andThen (f x q) g:=by
 cases a<;>rfl
def Ej(h:jq bs 0=.error e):nl bs=.error (1,(e:Int)):=by
 unfold nl;rw[h]
end FK
namespace Go.Y
open Go.Proofs Tryz
open Go Go.RowKit Go.SL
section
variable{β:Type}{ns:List FK.Node}{p:HP}
def qS(hk:NextIs bs s k)(K:Int->FK.Rd β):FK.np s (λq=>FK.andThen (FK.gp bs q) K)=FK.np (cG bs s) (λq=>K k q):=by
 cases s with
 |error e=>rfl
 |ok q=>
  simp only[FK.np,cG,FK.gp];cases h:FK.rd bs q with
  |error e=>rfl
  |ok x=>obtain⟨n,E⟩:=x;simp only[FK.andThen];rw[hk q n E rfl h]
theorem wM{α:Type}(hk:NextIs bs s k)(r:FK.Rd α)(K:List α->FK.Rd β):FK.np s (λq=>FK.andThen (FK.gu bs r q) K)=FK.np (cG bs s) (λq=>FK.andThen (FK.lG r k.toNat [] q) K):=by
 cases s with
 |error e=>rfl
 |ok q=>
  simp only[FK.np,cG,FK.gu];cases h:FK.rd bs q with
  |error e=>rfl
  |ok x=>obtain⟨n,E⟩:=x;simp only;rw[hk q n E rfl h,Int.toNat_natCast]
theorem kU(hk:NextIs bs s k)(j:Nat)(l:List Int)(K:FK.Node->FK.Rd β):FK.np s (λq=>FK.andThen (FK.gW bs (j+1) l q) K)=FK.np (cG bs s) (λq=>FK.andThen (FK.gW bs j (l++[k]) q) K):=by
 rw[<-qS hk (λx q=>FK.andThen (FK.gW bs j (l++[x]) q) K)]
 congr 1
 funext q
 simp only[FK.gW,FK.pg]
theorem Dc(hk:NextIs bs s k)(l:List Int)(K:FK.Node->FK.Rd β):FK.np s (λq=>FK.andThen (FK.gW bs 0 l q) K)=FK.np (cG bs s) (λq=>FK.andThen (FK.lG (FK.gp bs) k.toNat [] q) λafter q=>K (FK.iK l after) q):=by
 rw[<-wM hk (FK.gp bs) λafter q=>K (FK.iK l after) q]
 congr 1
 funext q
 simp only[FK.gW,FK.pg]
 rfl
def J9{v':Value}{u:Value}{nd:FK.Node}{J E K I O:HP}(h:vs.length=ns.length) :
 Ent (J::row 51 7 v' (ns.length+1) (dc ns vs++bn nd u)::E::K::p::bL u nd.after::I::O::(dC vs ns++fr)) (K::p::J::row 51 7 v' (ns++[nd]).length (dc (ns++[nd]) (vs++[u]))::O::(dC (vs++[u]) (ns++[nd])++fr)):=by
 rw[sh h,nX ns vs nd u h,show(ns++[nd]).length=ns.length+1 by simp];refine(cM gP gP .head).trans (Ent.cons (Ent.cons (Ent.cons (Ent.cons (Ent.drop.trans ((bo dm .head).trans (Ent.cons ((Ent.cons Ent.drop).trans (Ent.perm ?_)))))))));have T:(bL u nd.after::(dC vs ns++fr)).Perm (dC vs ns++bL u nd.after::fr):=List.perm_middle.symm;simpa using T
def Ha{E I J:HP}(h:vs.length=ns.length) :
 Ent (E::p::I::row 51 7 v ns.length (dc ns vs)::J::(dC vs ns++fr)) (nodesOwn v ns::E::p::I::J::fr):=by
 refine(Ent.perm ?_).trans (nodesOwn.ent h);have K:(([E,p,I]++[row 51 7 v ns.length (dc ns vs)])++(J::(dC vs ns++fr))).Perm (([row 51 7 v ns.length (dc ns vs)]++[E,p,I])++(J::(dC vs ns++fr))):=List.perm_append_comm.append_right _;refine K.trans<|List.Perm.cons _ ?_
 have O:(([E,p,I,J]++dC vs ns)++fr).Perm ((dC vs ns++[E,p,I,J])++fr):=List.perm_append_comm.append_right _;simpa using O
def Gc{I J O T Y k6:Int}(h0:NextIs bs s x)(h1:NextIs bs (cG bs s) I)(h2:NextIs bs (cG bs (cG bs s)) J)(h3:NextIs bs (cG bs (cG bs (cG bs s))) O)(h4:NextIs bs (cG bs (cG bs (cG bs (cG bs s)))) T)
(h5:NextIs bs (cG bs (cG bs (cG bs (cG bs (cG bs s))))) Y)(h6:NextIs bs (cG bs (cG bs (cG bs (cG bs (cG bs (cG bs s)))))) k6)(K:FK.Node->FK.Rd β) :
 FK.np (cG bs (cG bs (cG bs (cG bs (cG bs (cG bs (cG bs s))))))) (λq=>FK.andThen (FK.lG (FK.gp bs) k6.toNat [] q) λafter q=>K (FK.iK [x,I,J,O,T,Y] after) q)=FK.np s (λq=>FK.andThen (FK.ig bs q) K):=
 (Dc h6 [x,I,J,O,T,Y] K).symm.trans ((kU h5 0 [x,I,J,O,T] K).symm.trans ((kU h4 1 [x,I,J,O] K).symm.trans ((kU h3 2 [x,I,J] K).symm.trans ((kU h2 3 [x,I] K).symm.trans ((kU h1 4 [x] K).symm.trans (kU h0 5 [] K).symm)))))
def DD{I J K O T:Int}{q:Nat}(h0:NextIs bs s x)(h1:NextIs bs (cG bs s) I)(h2:NextIs bs (cG bs (cG bs s)) J)(h3:NextIs bs (cG bs (cG bs (cG bs s))) K)(h4:NextIs bs (cG bs (cG bs (cG bs (cG bs s)))) O)
(h5:NextIs bs (cG bs (cG bs (cG bs (cG bs (cG bs s))))) T)(h:cG bs (cG bs (cG bs (cG bs (cG bs (cG bs (cG bs s))))))=.ok q):∀y∈[x,I,J,K,O,T],0<=y/\y<2097152:=by
 obtain⟨_,_,Y,_⟩:=lw h;obtain⟨_,_,e5,_⟩:=lw Y;obtain⟨_,_,e4,_⟩:=lw e5;obtain⟨_,_,e3,_⟩:=lw e4;obtain⟨_,_,e2,_⟩:=lw e3;obtain⟨_,_,e1,_⟩:=lw e2;simp only[List.mem_cons,List.not_mem_nil,or_false,forall_eq_or_imp,forall_eq];exact⟨h0.small e1,h1.small e2,h2.small e3,h3.small e4,h4.small e5,h5.small Y⟩
def MT{E xs:List Int}(h:∀y∈E,0<=y/\y<2097152)(J:∀y∈xs,0<=y/\y<2097152):Small (FK.iK E xs):=
 ⟨λx I=>by simp only[tK,FK.iK,List.mem_cons,List.not_mem_nil,or_false]at I;rcases I with rfl|rfl|rfl|rfl|rfl|rfl<;>exact vo h _,J⟩
def II:iW (Value.agg #[aA 0,aA 0,aA 0,aA 0,aA 0,aA 0,cB]).cells 0 [aA 0,aA 0,aA 0,aA 0,aA 0,aA 0,cB]=#[aA 0,aA 0,aA 0,aA 0,aA 0,aA 0,cB]:=rfl
def Db{J:Int}(K:NextIs bs (.ok 0) x)(O:NextIs bs (cG bs (.ok 0)) J):FK.np (cG bs (cG bs (.ok 0))) (λq=>FK.andThen (FK.lG (FK.ig bs) J.toNat [] q) λI q=>.ok ((⟨x,I⟩:FK.Flow),q))=FK.jq bs 0:=
 (wM O (FK.ig bs) λI q=>.ok ((⟨x,I⟩:FK.Flow),q)).symm.trans (qS K λx q=>FK.andThen (FK.gu bs (FK.ig bs) q) λI q=>.ok ((⟨x,I⟩:FK.Flow),q)).symm
def EB(bs:List UInt8)(m:Nat)(E:Int)(ns:List FK.Node):FK.Node->FK.Rd FK.Flow:=λnd q=>FK.andThen (FK.lG (FK.ig bs) m (ns++[nd]) q) λI q=>.ok (⟨E,I⟩,q)
def E8(h:zl s=false):∃q,s=.ok q:=by
 cases s with
 |error e=>cases h
 |ok q=>exact⟨q,rfl⟩
def Fine(s:Except Nat Nat)(bs:List UInt8)(P:Prop):Prop:=∀q,s=.ok q->q<=bs.length/\P
def vf(hp:Reads p A bs)(hl:bs.length<=1099511627776):dS 64 [.slice A bs.length c] [p] (DecPost bs p):=by
 refine bz func64 Z λE fr hE=>ae<|sS<|sO (cO (z:=.agg #[aA 0,cB]) Z λb2=>(sA Z (sB Z (sS (sM Z (sP (bI (ps:=[(0,.tmp 16)]) (vs:=[.slice A bs.length c]) (cs:=#[.slice A bs.length c,aA 0,.bool false]) Z Z Z Z Z) (sO (cP Z Z λJ=>(sB Z (sS (sP (bI (ps:=[]) (vs:=[]) (cs:=#[aA 0,cB]) Z Z Z Z Z) (sO (cO (z:=.agg #[aA 0,cB]) Z λb6=>sO<|bk Z (m:=2) (vs:=[aA 0,cB]) Z Z Z Z eG (by simp[Value.cells]) (sN<|sS<|sO (cO (z:=aA 0) Z λb7=>bD Z Z Z Z fW (ao ((bo dm .head).trans wP) (sN<|bp Z (bQ Z (iM (c:=c) hp hl J b7 (.ok 0) (λq h=>by injection h with h;omega)) (bo .head dm) ?_))))))))))))))))))
 rintro v m ⟨dl,rfl,N3,N4,rfl⟩;refine aE<|bm 0 Z<|bD Z Z Z Z fW<|sN<|bp Z<|bQ Z (iM (c:=c) hp hl J b7 _ N4) (bo bJ bJ) ?_
 rintro v m ⟨O,rfl,NW,N5,rfl⟩;refine aE<|sB Z<|sQ<|sS<|sB Z<|ai<|aO (X:=Except Nat Nat×Nat×List FK.Node×List Value×Value) (λx=>[(9,aA x.2.1),(8,aA O),(5,eg J 0),(6,eg b6 0),(7,eg b7 0),(2,eg b2 0),(0,.slice A bs.length c)]) (λx=>rmem J b7 A c bs x.1::p::blk b6 46 #[aA dl,x.2.2.2.2]::row 51 7 x.2.2.2.2 x.2.2.1.length (dc x.2.2.1 x.2.2.2.1)::blk b2 46 #[aA 0,cB]::(dC x.2.2.2.1 x.2.2.1++fr)) (λx=>FK.np x.1 (λq=>FK.andThen (FK.lG (FK.ig bs) (O.toNat-x.2.1) x.2.2.1 q) λNO q=>.ok (⟨dl,NO⟩,q))=FK.jq bs 0/\x.2.1<=O.toNat/\x.2.2.1.length=x.2.1/\x.2.2.2.1.length=x.2.2.1.length/\Fine x.1 bs ((0<=O/\O<2097152)/\∀y∈x.2.2.1,Small y)) (λx=>O.toNat-x.2.1) (cG bs (cG bs (.ok 0)),0,[],[],cB) ⟨Db N3 NW,by simp,rfl,rfl,λq h=>⟨N5 q h,NW.small h,by simp⟩⟩ bW ((cM .head .head .head).trans (Ent.cons (Ent.cons (Ent.cons Ent.row0)))) ?_
 rintro⟨s,i,ns,vs,v6⟩ ⟨hT,hi,NX,f9,d6⟩;simp only at hT hi NX f9 d6 ⊢;refine sQ<|bp Z<|sM Z (cj Z (bq Z Z Z) dp λd8 BT=>(sM Z ?_))
 refine bK d8 (by rfl) ?_;refine cz Z Z (λ_=>rfl) (bg Z) dp<|bK d8 (by rfl)<|cz Z Z (λ_=>rfl) (cI Z) dp<|bK d8 (by rfl)<|cz Z Z (λ_=>rfl) (bd 2 Z) dp<|bK d8 (by rfl)<|cz Z Z (λ_=>rfl) (au Z) (rmem.bad .head)<|bK d8 (by rfl)<|cz Z Z (λ_=>rfl) (cA Z Z) dp<|cj Z (dV Z Z Z) dp λT Fd=>sN<|cf Z (λT=>?_) λT=>?_
 ·rw[Fd,BT]at T;simp only[Bool.and_eq_true,decide_eq_true_eq,Bool.not_eq_true']at T;obtain⟨Ob,NT⟩:=T;obtain⟨q,rfl⟩:=E8 NT;obtain⟨hq,⟨t6,t7⟩,f8⟩:=d6 q rfl;have wf:O.toNat-i=(O.toNat-i-1)+1:=am;rw[wf]at hT;simp only[FK.np]at hT;rw[FK.qr]at hT;refine aa<|sT<|sQ<|ai<|sS<|sP (bI (ps:=[]) (vs:=[]) (cs:=#[aA 0,aA 0,aA 0,aA 0,aA 0,aA 0,cB]) Z Z Z Z Z)<|sO (cO (z:=.agg #[aA 0,aA 0,aA 0,aA 0,aA 0,aA 0,cB]) Z λIn=>sO<|bk Z (m:=7) (vs:=[aA 0,aA 0,aA 0,aA 0,aA 0,aA 0,cB]) Z Z Z Z eG (by simp[Value.cells]) ?_)
  rw[II];refine sN<|bp Z<|bQ Z (iM (c:=c) hp hl J b7 (.ok q) (λq h=>by injection h with h;omega)) (bo bJ bJ) ?_
  rintro v m ⟨k0,rfl,h0,g0,rfl⟩;refine aE<|bm 0 Z<|bD Z Z Z Z fW<|sN<|bp Z<|bQ Z (iM (c:=c) hp hl J b7 _ g0) (bo bJ bJ) ?_
  rintro v m ⟨k1,rfl,h1,g1,rfl⟩;refine aE<|bm 1 Z<|bD Z Z Z Z fW<|sN<|bp Z<|bQ Z (iM (c:=c) hp hl J b7 _ g1) (bo bJ bJ) ?_
  rintro v m ⟨k2,rfl,h2,g2,rfl⟩;refine aE<|bm 2 Z<|bD Z Z Z Z fW<|sN<|bp Z<|bQ Z (iM (c:=c) hp hl J b7 _ g2) (bo bJ bJ) ?_
  rintro v m ⟨k3,rfl,h3,g3,rfl⟩;refine aE<|bm 3 Z<|bD Z Z Z Z fW<|sN<|bp Z<|bQ Z (iM (c:=c) hp hl J b7 _ g3) (bo bJ bJ) ?_
  rintro v m ⟨k4,rfl,h4,g4,rfl⟩;refine aE<|bm 4 Z<|bD Z Z Z Z fW<|sN<|bp Z<|bQ Z (iM (c:=c) hp hl J b7 _ g4) (bo bJ bJ) ?_
  rintro v m ⟨k5,rfl,h5,g5,rfl⟩;refine aE<|bm 5 Z<|bD Z Z Z Z fW<|sN<|bp Z ?_
  refine bQ Z (iM (c:=c) hp hl J b7 _ g5) (bo bJ bJ) ?_;rintro v m ⟨k6,rfl,h6,g6,rfl⟩;refine aE<|sB Z<|sQ<|sS<|sB Z<|ai ?_
  refine aO (X:=Except Nat Nat×Nat×List Int×Value) (λx=>[(12,aA x.2.1),(11,aA k6),(10,eg In 0),(9,aA i),(8,aA O),(5,eg J 0),(6,eg b6 0),(7,eg b7 0),(2,eg b2 0),(0,.slice A bs.length c)]) (λx=>rmem J b7 A c bs x.1::p::bL x.2.2.2 x.2.2.1::blk In 51 #[aA k0,aA k1,aA k2,aA k3,aA k4,aA k5,x.2.2.2]::blk b6 46 #[aA dl,v6]::row 51 7 v6 ns.length (dc ns vs)::blk b2 46 #[aA 0,cB]::(dC vs ns++fr)) (λx=>FK.np x.1 (λq=>FK.andThen (FK.lG (FK.gp bs) (k6.toNat-x.2.1) x.2.2.1 q) λafter q=>EB bs (O.toNat-i-1) dl ns (FK.iK [k0,k1,k2,k3,k4,k5] after) q)=FK.jq bs 0/\x.2.1<=k6.toNat/\x.2.2.1.length=x.2.1/\Fine x.1 bs ((0<=k6/\k6<2097152)/\(∀y∈[k0,k1,k2,k3,k4,k5],0<=y/\y<2097152)/\∀y∈x.2.2.1,0<=y/\y<2097152)) (λx=>k6.toNat-x.2.1) (_,0,[],cB) ⟨(Gc h0 h1 h2 h3 h4 h5 h6 (EB bs (O.toNat-i-1) dl ns)).trans hT,by simp,rfl,λq h=>⟨g6 q h,h6.small h,DD h0 h1 h2 h3 h4 h5 h,by simp⟩⟩ bW (Ent.cons (Ent.cons Ent.row0)) ?_;rintro⟨s2,kk,xs,v⟩ ⟨K,N6,NY,I⟩;simp only at K N6 NY I ⊢;refine sQ<|bp Z<|sM Z (cj Z (bq Z Z Z) dp λd9 LE=>(sM Z ?_))
  refine bK d9 (by rfl) ?_;refine cz Z Z (λ_=>rfl) (bg Z) dp ?_;refine bK d9 (by rfl)<|cz Z Z (λ_=>rfl) (cI Z) dp<|bK d9 (by rfl)<|cz Z Z (λ_=>rfl) (bd 2 Z) dp<|bK d9 (by rfl)<|cz Z Z (λ_=>rfl) (au Z) (rmem.bad .head)<|bK d9 (by rfl)<|cz Z Z (λ_=>rfl) (cA Z Z) dp<|cj Z (dV Z Z Z) dp λY LT=>sN<|cf Z (λY=>?_) λY=>?_
  ·rw[LT,LE]at Y;simp only[Bool.and_eq_true,decide_eq_true_eq,Bool.not_eq_true']at Y;obtain⟨N8,t8⟩:=Y;obtain⟨q2,rfl⟩:=E8 t8;obtain⟨Oc,⟨NU,NV⟩,N1,N2⟩:=I q2 rfl;have mt:k6.toNat-kk=(k6.toNat-kk-1)+1:=am;rw[mt]at K;simp only[FK.np]at K;rw[FK.qr]at K;refine aa<|sT<|sQ<|ai<|bp Z<|bQ Z (iM (c:=c) hp hl J b7 (.ok q2) (λq h=>by injection h with h;omega)) aQ ?_
   rintro v m ⟨d,rfl,hd,gd,rfl⟩;refine aE<|sB Z<|sG<|bm 6 Z<|aL Z Z Z Z<|sM Z<|sO (fd (z:=aA 0) Z Z Z Z Z Z λN9=>dL rfl (ce rfl rfl j5 rfl am rfl rfl gP (news:=[aA d]) rfl fX iy eG gk am λv' NZ=>aN .head ?_))
   rintro A7 c7 rfl _ _ _ _ _;refine bm 6 Z<|bD Z Z Z Z fW<|ap<|al<|sT<|sG<|bY Z (bH Z Z (iP am))<|sA Z<|ap<|aH (cG bs (.ok q2),kk+1,xs++[d],.slice A7 (xs.length+1) c7) ⟨by rw[show k6.toNat-(kk+1)=k6.toNat-kk-1 by omega,<-qS hd λx q=>FK.andThen (FK.lG (FK.gp bs) (k6.toNat-kk-1) (xs++[x]) q) λafter q=>EB bs (O.toNat-i-1) dl ns (FK.iK [k0,k1,k2,k3,k4,k5] after) q];exact K,by simp only;omega,by simp[NY],λq h=>⟨gd q h,⟨NU,NV⟩,N1,λz hz=>(by rcases List.mem_append.1 hz with h'|h';exact N2 z h';simp at h';rw[h'];exact hd.small h)⟩⟩ (by simp only;omega) bW (by rw[rW];exact(cM gP gP bJ).trans (Ent.cons (Ent.cons (Ent.cons (Ent.cons Ent.drop)))))
  ·have N7:FK.np s2 (λq=>EB bs (O.toNat-i-1) dl ns (FK.iK [k0,k1,k2,k3,k4,k5] xs) q)=FK.jq bs 0:=by
    cases s2 with
    |error e=>exact K
    |ok q3=>
     have h6:=(I q3 rfl).2.1;have hk:k6.toNat-kk=0:=by
      rw[LT,LE]at Y;simp[zl]at Y;omega
     rw[hk]at K;exact K
   refine aN dm ?_;rintro A8 c8 rfl _ _ _ _ _;refine aM<|aw<|az<|aq<|sT<|sG<|bm 1 Z<|aL Z Z Z Z<|bF (bR (vs:=bn (FK.iK [k0,k1,k2,k3,k4,k5] xs) (.slice A8 xs.length c8)) Z) (bl Z)<|sO (dw (m:=1) (z:=.agg #[aA 0,aA 0,aA 0,aA 0,aA 0,aA 0,cB]) (size:=7) (ps:=[(0,.tmp 80)]) (vs:=[.agg (bn (FK.iK [k0,k1,k2,k3,k4,k5] xs) (.slice A8 xs.length c8)).toArray]) (cs:=(bn (FK.iK [k0,k1,k2,k3,k4,k5] xs) (.slice A8 xs.length c8)).toArray) Z Z Z Z am am Z (xe _ _) λOa=>dL rfl (ce rfl rfl zV rfl am rfl rfl oX (news:=bn (FK.iK [k0,k1,k2,k3,k4,k5] xs) (.slice A8 xs.length c8)) rfl fX iy (by simp[bn,Value.oneCell']) gk am λv' NZ=>aN .head ?_))
   rintro A9 c9 rfl _ _ _ _ _;refine bm 1 Z<|bD Z Z Z Z fW<|ap<|al<|sT<|sG<|bY Z (bH Z Z (iP am))<|sA Z<|ap<|aH (s2,i+1,ns++[FK.iK [k0,k1,k2,k3,k4,k5] xs],vs++[.slice A8 xs.length c8],.slice A9 (ns.length+1) c9) ⟨by rw[show O.toNat-(i+1)=O.toNat-i-1 by omega];exact N7,by simp only;omega,by simp[NX],by simp[f9],λq h=>⟨(I q h).1,⟨t6,t7⟩,λz hz=>(by rcases List.mem_append.1 hz with h'|h';exact f8 z h';simp at h';rw[h'];exact MT (I q h).2.2.1 (I q h).2.2.2)⟩⟩ (by simp only;omega) bW<|J9 f9
 ·refine aN gP ?_;rintro A9 c9 rfl _ _ _ _ _;refine aM<|aw<|az<|aq<|sT<|sQ<|sQ ?_
  by_cases hs:∃e,s=.error e
  ·obtain⟨e,rfl⟩:=hs;refine sG<|cE 2 Z Z<|bF (au Z) (rmem.bad .head)<|sN<|aK Z<|sQ<|sZ Z<|dx 0 Z (bI (ps:=[]) (vs:=[]) (cs:=#[aA 0,cB]) Z Z Z Z Z)<|bN Z (au Z) (rmem.start .head)<|dI 2 Z<|bk Z (m:=2) (vs:=[aA 0,cB]) Z Z Z Z eG di ?_
   refine dK [true] (aj (rmem.start bJ) ak)<|dx 3 Z (aX Z)<|bB Z (aX Z)<|dE<|sT<|an<|aD<|fo [_] rfl (bU (vs:=[aA 0,cB]) Z Z Z Z (bl Z)) (bS Z) (bS Z) (.inr ⟨1,e,FK.Ej hT.symm,am,rfl,rfl⟩)<|Ent.drop.trans<|Ent.drop.trans<|Ent.cons<|Ent.drop.trans<|Ent.drop.trans<|tB _
  ·obtain⟨q,rfl⟩:∃q,s=.ok q:=by
    cases s with
    |error e=>exact absurd ⟨e,rfl⟩ hs
    |ok q=>exact⟨q,rfl⟩
   obtain⟨hq,⟨t6,t7⟩,f8⟩:=d6 q rfl;have d7:FK.jq bs 0=.ok (⟨dl,ns⟩,q):=by
    have hk:O.toNat-i=0:=by
     rw[Fd,BT]at T;simp[zl]at T;omega
    rw[hk]at hT;exact hT.symm
   refine sG<|cE 2 Z Z<|bF (au Z) (rmem.bad .head)<|sN<|ag Z<|aa<|sT<|sQ<|sS<|cE 1 Z Z<|bF (au Z) (rmem.place .head)<|bY Z (bh Z Z)<|sP (bq Z Z Z)<|sN<|aC Z (λN0=>?_) λN0=>?_
   ·refine sQ<|sZ Z<|dx 0 Z (bI (ps:=[]) (vs:=[]) (cs:=#[aA 0,cB]) Z Z Z Z Z)<|cC Z Z<|dy 1 Z Z Z<|bN Z (au Z) (rmem.place .head) ?_
    refine dI 5 Z<|bk Z (m:=2) (vs:=[aA 0,cB]) Z Z Z Z eG di ?_
    refine dK [true] (aj (rmem.place bJ) ak)<|dx 6 Z (aX Z)<|bB Z (aX Z)<|dE<|sT<|an<|aD<|fo [_] rfl (bU (vs:=[aA 0,cB]) Z Z Z Z (bl Z)) (bS Z) (bS Z) (.inr ⟨1,q,Aw d7 am,am,rfl,rfl⟩)<|Ent.drop.trans<|Ent.drop.trans<|Ent.cons<|Ent.drop.trans<|Ent.drop.trans<|tB _
   ·refine aa<|sT<|sQ<|ao (Ha f9)<|sG<|bF (bR (vs:=[aA dl,.slice A9 ns.length c9]) Z) (bl Z)<|sO<|nE Z Z Z hE (oe ⟨dl,ns⟩ A9 c9) (nodesOwn.at .head λnd hnd=>(f8 nd hnd).i64) ?_
    rintro v m ⟨rfl,rfl⟩;refine aW<|sM Z<|bG Z Z<|bG Z Z<|sA Z<|sB Z<|sQ<|bp Z<|sP (cy Z Z Z)<|sN<|aC Z (λf7=>?_) λf7=>?_
    ·refine sS<|sP (bI (ps:=[]) (vs:=[]) (cs:=#[aA 0,cB]) Z Z Z Z Z)<|sM Z<|sM Z ?_
     refine sO<|bk Z (m:=2) (vs:=[aA 0,cB]) Z Z Z Z eG di ?_
     refine sA Z<|sB Z<|an<|aD ?_
     exact fo [_] rfl (bU (vs:=[aA 0,cB]) Z Z Z Z (bl Z)) (bS Z) (bS Z) (.inr ⟨_,_,Fx d7 am f7,f7,rfl,rfl⟩)<|Ent.drop.trans<|Ent.drop.trans<|Ent.drop.trans<|Ent.cons Ent.drop
    ·refine aa<|sT<|sS<|bF (bR (vs:=[aA dl,.slice A9 ns.length c9]) Z) (bl Z) ?_
     refine sO<|bk Z (m:=2) (vs:=[aA dl,.slice A9 ns.length c9]) Z Z Z Z eG di ?_
     refine sA Z<|sB Z<|an ?_
     exact fo [_,_] rfl (bU (vs:=[aA dl,.slice A9 ns.length c9]) Z Z Z Z (bl Z)) (bS Z) (bS Z) (.inl ⟨⟨dl,ns⟩,A9,c9,Ax d7 am am,f8,rfl,rfl⟩)<|Ent.drop.trans<|Ent.cons<|Ent.drop.trans<|Ent.cons Ent.drop
end
end Go.Y
