/- The document's engine: calls of tasks. -/
import Derived.Test.YtncdhfckklfhdaaGreatDoorKeI
import Derived.Test.YtncdhfckklfhdaaGreatDoorKeH
import Derived.Test.YtncdhfckklfhdaaGreatDoorKeG
import Derived.Test.YtncdhfckklfhdaaGreatDoorKeE
import Derived.RangeFuncLeaves
import Derived.RangeFuncSeq
import Derived.Test.YtncdhfckklfhdaaGreatDoorKeD
import Derived.Test.YtncdhfckklfhdaaGreatDoorKeF
set_option linter.defProp false
set_option maxHeartbeats 4000000
set_option maxRecDepth 20000
variable{G:Go.SL.Env->Prop}{R:Go.Value->List Go.SL.HP->Prop}{ns:List Go.Y.ND}{M:FR.En}{a:Go.Y.RfA}{ts:List (Nat×Go.Value)}{v:Go.Value}{s:FR.St}{N b e i j k m n:Nat}{Q:Go.Exit->Go.Act->Go.World->Prop}{E:Go.SL.Env}{K:Go.Act->Go.World->Prop}{u:FR.Rn}{w:Go.World}{S:List Nat->Prop}{P:Go.Program}{D:List Go.Deferred}{f:Go.FuncId}{af:Array Go.Edge}{l:List Go.SL.HP}
namespace FR
def setS_at{r:Rn}(E:r.NN[k]?=some s)(s':St):(r.setS k s').NN[k]?=some s':=by
 have:=(gfGet.1 E).1;simp[Rn.setS,this]
theorem setS_setS(r:Rn)(k:Nat)(a b:St):(r.setS k a).setS k b=r.setS k b:=by
 unfold Rn.setS;simp
def setS_len(r:Rn)(k:Nat)(s:St):(r.setS k s).NN.length=r.NN.length:=by simp[Rn.setS]
structure Wk(M:En)(tok i k:Nat)(u:Rn)(s:St):Prop where
 run:M.runs[i]?=some u
 step:u.NN[k]?=some s
 st:s.state=3
 tok:s.token=tok
end FR
namespace Go.Y
open Go.Proofs Tryz
open Go Go.RowKit Go.SL
def vc(tok:Nat)(h:M.runs.length<=100)(d9:∀u∈M.runs,u.NN.length<=100):dz G 75 [aY e,aU tok] [aZ e a ns M] λv m=>((∃(i k:Nat) (u:FR.Rn) (s:FR.St),FR.Wk M tok i k u s/\v=.tuple #[aA i,aA k])\/(∀i k u s,¬FR.Wk M tok i k u s)/\v=.tuple #[aA (-1),aA (-1)])/\m=[aZ e a ns M]:=by
 refine bz func75 Z λE fr hE=>ae<|sS<|sA Z<|sB Z<|sQ<|sS<|sB Z<|ai<|aO (X:=Nat) (λi=>[(6,aA i),(0,aY e),(1,aU tok)]) (λ_=>aZ e a ns M::fr) (λi=>i<=M.runs.length/\∀j k u s,j<i->¬FR.Wk M tok j k u s) (λi=>M.runs.length-i) 0 ⟨Nat.zero_le _,λj k u s h=>by omega⟩ bW aQ ?_
 rintro i ⟨hi,hno⟩;refine sQ<|bp Z<|cE 2 Z Z<|bF (au (v:=kv a M) Z) (ck Z)<|sP (bh Z Z)<|sP (bq Z Z Z)<|sN<|aC Z (λY=>?_) λY=>?_
 ·have K:i<M.runs.length:=by have:(i:Int)<(M.runs.length:Int):=Y;omega
  obtain⟨u,O⟩:∃u,M.runs[i]?=some u:=⟨M.runs[i],by simp[K]⟩;have t6:=d9 u (cg O);refine bA (p:=∃g,a.rg=some g) (λw hw=>iJ O hw) λ⟨gr,hg⟩=>aa<|sT<|sQ<|ai<|sS<|sB Z<|ai<|aO (X:=Nat) (λk=>[(7,aA k),(6,aA i),(0,aY e),(1,aU tok)]) (λ_=>aZ e a ns M::fr) (λk=>k<=u.NN.length/\∀j v s,j<k->¬FR.Wk M tok i j v s) (λk=>u.NN.length-k) 0 ⟨Nat.zero_le _,λj v s h=>by omega⟩ bW aQ ?_
  rintro k ⟨hk,T⟩;refine sQ<|bp Z<|cE 2 Z Z<|bF (au (v:=dQ gr M.runs.length a.rc) Z) (dY hg)<|bY Z (aV (z:=8) Z Z Z Z K)<|bm 6 Z<|bF (au (v:=jV (a.ra u.id) u) Z) (cR (j:=6) O hg Z)<|sP (bh Z Z)<|sP (bq Z Z Z)<|sN<|aC Z (λd6=>?_) λd6=>?_
  ·have d7:k<u.NN.length:=by have:(k:Int)<(u.NN.length:Int):=d6;omega
   obtain⟨s,hs⟩:∃s,u.NN[k]?=some s:=⟨u.NN[k],by simp[d7]⟩;refine aa<|sT<|sQ<|ai<|sS<|cE 2 Z Z<|bF (au (v:=dQ gr M.runs.length a.rc) Z) (dY hg)<|bY Z (aV (z:=8) Z Z Z Z K)<|bm 6 Z<|bF (au (v:=jV (a.ra u.id) u) Z) (cR (j:=6) O hg Z)<|bY Z (aV (z:=7) Z Z Z Z d7)<|bF (bR (vs:=sU s) Z) (s9 O Z hs)<|sO (cO (z:=.agg #[aA 0,aA 0,cd 0,cd 0,cd 0,aA 0,aA 0]) Z λb8=>sO<|bk (vs:=sU s) Z (m:=7) Z Z Z Z eG (by show 0+7<=7;omega) ?_)
   refine aB b8 (sU s).toArray Z<|sN<|sS<|bm 0 Z<|bF (au (v:=aA s.state) Z) (ah Z) (cj Z (bc Z Z Z) dp λI f9=>(sM Z ?_))
   refine bK I (by rfl)<|cz Z Z (λ_=>rfl) (bd 2 Z) dp<|bK I (by rfl)<|cz Z Z (λ_=>rfl) (au (v:=aU s.token) Z) (ah Z)<|bK I (by rfl)<|cz Z Z (λ_=>rfl) (bg Z) dp<|bK I (by rfl)<|cz Z Z (λ_=>rfl) (bc Z Z Z) dp<|cj Z (dV Z Z Z) dp λd8 mt=>sN<|cf Z (λd8=>?_) λd8=>?_
   ·have hw:FR.Wk M tok i k u s:=⟨O,hs,by simp_all,by simp_all;omega⟩;exact bp Z<|sM Z<|sA Z<|sB Z<|an<|aJ<|aD<|bM<|aJ<|aJ<|aD<|bM<|aJ<|aD<|de [aZ e a ns M] rfl (bS Z) (bS Z) ⟨.inl ⟨i,k,u,s,hw,rfl⟩,rfl⟩ Ent.drop
   ·have hw:∀v s,¬FR.Wk M tok i k v s:=λv s' h=>by
     have J:=h.run;rw[O]at J;injection J with J;subst J;have h2:=h.step;rw[hs]at h2;injection h2 with h2;subst h2;have h3:=h.st;have h4:=h.tok
     simp_all
    refine aa<|al<|sT<|sG<|bY Z (dM Z Z)<|sA Z<|ap<|aH (k+1) ⟨d7,λj v s' hj=>(by
     rcases Nat.lt_succ_iff_lt_or_eq.1 hj with hj|rfl
     ·exact T j v s' hj
     ·exact hw v s')⟩ am ⟨rfl,rfl,rfl,rfl,trivial⟩ Ent.drop
  ·have f7:k=u.NN.length:=by have:¬(k:Int)<(u.NN.length:Int):=d6;omega
   refine aM<|aw<|az<|aq<|al<|sT<|sG<|bY Z (dM Z Z)<|sA Z<|ap<|aH (i+1) ⟨K,λj k' v s' hj=>(by
    rcases Nat.lt_succ_iff_lt_or_eq.1 hj with hj|rfl
    ·exact hno j k' v s' hj
    ·intro h
     have J:=h.run;rw[O]at J;injection J with J;exact T k' v s' (by rw[f7,J];exact(gfGet.1 h.step).1) h)⟩ am ⟨rfl,rfl,rfl,trivial⟩ aQ
 ·have f8:i=M.runs.length:=by have:¬(i:Int)<(M.runs.length:Int):=Y;omega
  refine aM<|aw<|az<|aq<|sT<|sS<|sA Z<|sB Z<|an<|de [aZ e a ns M] rfl (bS Z) (bS Z) ⟨.inr ⟨λj k u s h=>hno j k u s (by rw[f8];exact(gfGet.1 h.run).1) h,rfl⟩,rfl⟩ aQ
abbrev Ht(M:FR.En)(tok i k:Nat):Prop:=∀j l u s,FR.Wk M tok j l u s->j=i/\l=k
section
variable{tok:Nat}
def Cy(h:M.runs.length<=100)(I:∀u∈M.runs,u.NN.length<=100)(hw:FR.Wk M tok i k u s)(J:Ht M tok i k):dz G 75 [aY e,aU tok] [aZ e a ns M] λv m=>v=.tuple #[aA i,aA k]/\m=[aZ e a ns M]:=
 (vc tok h I).mono λv m ⟨E,K⟩=>⟨m,⟨by
  rcases E with⟨j,l,u',s',E,h3⟩|⟨E,_⟩
  ·obtain⟨rfl,rfl⟩:=J _ _ _ _ E
   exact h3
  ·exact absurd hw (E _ _ _ _),K⟩,aQ⟩
def Cz(h:M.runs.length<=100)(I:∀u∈M.runs,u.NN.length<=100)(hw:∀i k u s,¬FR.Wk M tok i k u s):dz G 75 [aY e,aU tok] [aZ e a ns M] λv m=>v=.tuple #[aA (-1),aA (-1)]/\m=[aZ e a ns M]:=
 (vc tok h I).mono λv m ⟨E,J⟩=>⟨m,⟨by
  rcases E with⟨j,l,u',s',E,h3⟩|⟨_,E⟩
  ·exact absurd E<|hw _ _ _ _
  ·exact E,J⟩,aQ⟩
def Bp(h:M.runs.length<=100)(I:∀u∈M.runs,u.NN.length<=100)(hw:∀i k u s,¬FR.Wk M tok i k u s):dz G 38 [aY e,aU tok] [aZ e a ns M] λv m=>v=aA 7/\m=[aZ e a ns M]:=by
 refine bz func38 Z λE fr J=>ae<|sS<|sB Z<|bp Z<|sM Z<|bV Z (Cz h I hw) aQ<|ae<|sM Z<|bG Z Z<|bG Z Z<|sA Z<|sB Z<|sQ<|bp Z<|sP (bq (r:=true) Z Z Z)<|sN<|aK Z<|sS<|sA Z<|ap<|sT<|an<|aD<|ar [aZ e a ns M] rfl Z ⟨rfl,rfl⟩ aQ
def sD(h:M.runs.length<=100)(I:∀u∈M.runs,u.NN.length<=100)(hw:∀i k u s,¬FR.Wk M tok i k u s):dz G 39 [aY e,aU tok] [aZ e a ns M] λv m=>v=aA 7/\m=[aZ e a ns M]:=by
 refine bz func39 Z λE fr J=>ae<|sS<|sB Z<|bp Z<|sM Z<|bV Z (Cz h I hw) aQ<|ae<|sM Z<|bG Z Z<|bG Z Z<|sA Z<|sB Z<|sQ<|bp Z<|sP (bq (r:=true) Z Z Z)<|sN<|aK Z<|sS<|sA Z<|ap<|sT<|an<|aD<|ar [aZ e a ns M] rfl Z ⟨rfl,rfl⟩ aQ
def Bg(h:M.runs.length<=100)(I:∀u∈M.runs,u.NN.length<=100)(hw:∀i k u s,¬FR.Wk M tok i k u s):dz G 40 [aY e,aU tok] [aZ e a ns M] λv m=>v=aA 7/\m=[aZ e a ns M]:=by
 refine bz func40 Z λE fr J=>ae<|sS<|sB Z<|bp Z<|sM Z<|bV Z (Cz h I hw) aQ<|ae<|sM Z<|bG Z Z<|bG Z Z<|sA Z<|sB Z<|sQ<|bp Z<|sP (bq (r:=true) Z Z Z)<|sN<|aK Z<|sS<|sA Z<|ap<|sT<|an<|aD<|ar [aZ e a ns M] rfl Z ⟨rfl,rfl⟩ aQ
def sC(h:M.runs.length<=100)(f7:∀u∈M.runs,u.NN.length<=100)(hw:FR.Wk M tok i k u s)(ho:Ht M tok i k)(Y:u.NN.length=u.fl.NO.length)(d6:vK u.fl)(hn:u.fl.NO.length<=12)(hq:M.NP.length<=500)(he:M.ends<9223372036854775807):dz G 39 [aY e,aU tok] [aZ e a ns M,bx ns] λv m=>v=aA 0/\∃g c,m=[aZ e (a.q g c) ns (M.complete i k u s),bx ns]:=by
 have mt:=(gfGet.1 hw.run).1;have t6:=(gfGet.1 hw.step).1;refine bz func39 Z λE fr hE=>aE<|bA (p:=∃g,a.rg=some g) (λw hv=>iJ hw.run hv) λ⟨gr,hg⟩=>sS<|sB Z<|bp Z<|sM Z<|bV Z (Cy h f7 hw ho) aQ<|ae<|sM Z<|bG Z Z<|bG Z Z<|sA Z<|sB Z<|sQ<|bp Z<|sP (cK Z Z am)<|sN<|ag Z<|aa<|sT<|sS<|cE 2 Z Z<|bF (au (v:=dQ gr M.runs.length a.rc) Z) (dY hg)<|bY Z (aV (z:=8) Z Z Z Z mt)<|bm 6 Z<|bF (au (v:=jV (a.ra u.id) u) Z) (cR (j:=6) hw.run hg Z)<|bY Z (aV (z:=7) Z Z Z Z t6)<|bm 0 Z<|sO<|jl (j:=0) (s':={s with state:=5}) hw.run Z hw.step Z Z Z Z am Z Z<|sN<|sQ ?_
 obtain⟨J,K⟩:∃J,J=u.setS k {s with state:=5}:=⟨_,rfl⟩;obtain⟨T,I⟩:∃T,T=M.setR i J:=⟨_,rfl⟩;rw[<-K,<-I];have d7:T.runs[i]?=some J:=by rw[I];exact FR.iQ hw.run _
 have O:J.fl=u.fl:=by rw[K];rfl
 have d8:J.NN.length=u.NN.length:=by rw[K];exact FR.setS_len _ _ _
 obtain⟨u2,f8,_,_,t8,f9⟩:=FR.wakeN_on d7 J.NN.length;have d9:T.NP=M.NP:=by rw[I];rfl
 have t7:(T.wakeN i J.NN.length).ends=M.ends:=by rw[FR.lF,I];rfl
 refine sG<|sM Z<|sM Z<|bQ Z (uZ d7 (by rw[d8,O];exact Y) (by rw[O];exact d6) (by rw[O];exact hn) (by rw[d9];exact hq)) aQ ?_
 rintro v m ⟨rfl,g1,c1,rfl⟩;refine aE<|sN<|bp Z<|sM Z<|bQ Z (qh f8 (by rw[t7];exact he) am (by rw[d9]at f9;omega)) aQ ?_
 rintro v m ⟨rfl,g2,c2,rfl⟩;refine ae<|sN<|sS<|sB Z<|an<|ar [aZ e (a.q g2 c2) ns (M.complete i k u s),bx ns] rfl Z ⟨rfl,g2,c2,rfl⟩ ?_
 have:M.complete i k u s=(T.wakeN i J.NN.length).settle i:=by rw[d8,I,K];rfl
 rw[this];exact aQ
def Bo{nd:FK.Node}(h:M.runs.length<=100)(t6:∀u∈M.runs,u.NN.length<=100)(hw:FR.Wk M tok i k u s)(ho:Ht M tok i k)(hnd:u.fl.NO[k]?=some nd)(ht:M.time<=4611686018427387904)(hb:nd.beat<=4611686018427387904)(t7:M.timers<9223372036854775807):dz G 38 [aY e,aU tok] [aZ e a ns M,bx ns] λv m=>v=aA 0/\m=[aZ e a ns (M.beat i k u s nd),bx ns]:=by
 have d8:=(gfGet.1 hw.run).1;have f8:=(gfGet.1 hw.step).1;refine bz func38 Z λE fr hE=>aE<|bA (p:=∃g,a.rg=some g) (λw hv=>iJ hw.run hv) λ⟨gr,O⟩=>bA (p:=kM a ns M) (λw hw=>ng hw) λt8=>?_
 obtain⟨d6,wf⟩:=t8 u (cg hw.run);have K:(a.ra u.id).nd.ns[k]?=some nd:=by rw[wf];exact hnd
 refine bA (λw hw=>tT d6 K hw) λhA=>?_;obtain⟨A,c,BT,In,LE,LT,NT⟩:=hA;refine sS<|sB Z<|bp Z<|sM Z<|bV Z (Cy h t6 hw ho) aQ<|ae<|sM Z<|bG Z Z<|bG Z Z<|sA Z<|sB Z<|sQ<|bp Z<|sP (cK Z Z am)<|sN<|ag Z<|aa<|sT<|sS<|cE 2 Z Z<|bF (au (v:=dQ gr M.runs.length a.rc) Z) (dY O)<|bY Z (aV (z:=8) Z Z Z Z d8)<|bm 1 Z<|bm 1 Z<|bF (au (v:=(a.ra u.id).nd.nv) Z) (cR (j:=2) hw.run O Z)<|sM Z<|sP (aV (z:=7) Z Z Z Z ((gfGet.1 K).1))<|bF (bR (vs:=bn nd (.slice A nd.after.length c)) Z) (tS d6 K BT)<|sO (cO (z:=.agg #[aA 0,aA 0,aA 0,aA 0,aA 0,aA 0,cB]) Z λb7=>sO<|bk (vs:=bn nd (.slice A nd.after.length c)) Z (m:=7) Z Z Z Z (by simp[bn,Value.oneCell']) (by show 0+7<=7;omega) ?_)
 refine aB b7 (bn nd (.slice A nd.after.length c)).toArray Z<|sN<|sQ<|sS<|bm 2 Z<|bF (au (v:=aA nd.beat) Z) (ah Z)<|sP (dX Z Z Z)<|sN<|aC Z (λd7=>?_) λd7=>?_
 ·have d9:0<nd.beat:=d7;refine sQ<|sZ Z<|ea Z Z<|dy 2 Z Z Z<|bN Z (au (v:=dQ gr M.runs.length a.rc) Z) (dY O)<|cC Z Z<|bB Z (aV (z:=8) Z Z Z Z d8)<|bB Z (bd 6 Z)<|bN Z (au (v:=jV (a.ra u.id) u) Z) (cR (j:=6) hw.run O Z)<|cC Z Z<|cC Z Z<|dy 0 Z Z Z<|bN Z (au (v:=aU M.time) Z) (ck Z)<|bB Z (bd 2 Z)<|bN Z (au (v:=aA nd.beat) Z) (ah Z)<|dI 15 Z<|dP Z (ku M.time nd.beat ht am hb) aQ ?_
  rintro v m ⟨rfl,rfl⟩;refine aW<|dK [false,false,true,true] (aj (cR (j:=6) hw.run O Z) (aj (dY O) ak))<|dx 16 Z (aV (z:=7) Z Z Z Z f8)<|bB Z (bd 4 Z)<|dI 18 Z<|jl (j:=4) (s':={s with sign:=M.later nd.beat.toNat}) hw.run Z hw.step Z Z Z Z am Z Z<|dK [false,false] ak<|dE<|sT ?_
  obtain⟨T,Y⟩:∃T,T=u.setS k {s with sign:=M.later nd.beat.toNat}:=⟨_,rfl⟩;obtain⟨I,J⟩:∃I,I=M.setR i T:=⟨_,rfl⟩;rw[<-Y,<-J];have f7:I.runs[i]?=some T:=by rw[J];exact FR.iQ hw.run _
  have hs1:T.NN[k]?=some {s with sign:=M.later nd.beat.toNat}:=by rw[Y];exact FR.setS_at hw.step _
  have Fd:I.runs.length=M.runs.length:=by rw[J];exact FR.ug _ _ _
  have f9:T.NN.length=u.NN.length:=by rw[Y];exact FR.setS_len _ _ _
  have mt:I.timers=M.timers:=by rw[J];rfl
  refine sZ Z<|ea Z Z<|dy 2 Z Z Z<|bN Z (au (v:=dQ gr I.runs.length a.rc) Z) (dY O)<|cC Z Z<|dx 5 Z (aV (z:=8) Z Z Z Z (by rw[Fd];exact d8))<|dx 6 Z (bd 6 Z)<|bN Z (au (v:=jV (a.ra T.id) T) Z) (cR (j:=6) f7 O Z)<|cC Z Z<|cC Z Z<|dI 10 Z<|dP Z (kr (M:=I) (by rw[mt];exact t7)) aQ ?_
  rintro v m ⟨rfl,rfl⟩;refine ae<|dK [true,true] (aj (cR (M:={I with timers:=I.timers+1}) (j:=6) f7 O Z) (aj (dY (M:={I with timers:=I.timers+1}) O) ak))<|dx 11 Z (aV (z:=7) Z Z Z Z (by rw[f9];exact f8))<|dx 12 Z (bd 6 Z)<|dI 13 Z<|jl (M:={I with timers:=I.timers+1}) (i:=i) (j:=6) (s':={s with sign:=M.later nd.beat.toNat,signAt:=I.timers+1}) f7 Z hs1 Z Z Z Z am Z Z<|dK [false,false] ak<|dE<|sT<|sS<|sB Z<|an<|ar [aZ e a ns (M.beat i k u s nd),bx ns] rfl Z ec ?_
  have:M.beat i k u s nd=FR.En.setR {I with timers:=I.timers+1} i (T.setS k {s with sign:=M.later nd.beat.toNat,signAt:=I.timers+1}):=by
   unfold FR.En.beat;rw[if_pos d9,Y,FR.setS_setS,mt,J];unfold FR.En.setR;simp
  rw[this];exact Ent.cons Ent.drop
 ·have d9:¬0<nd.beat:=d7;refine aa<|sT<|sS<|sB Z<|an<|ar [aZ e a ns (M.beat i k u s nd),bx ns] rfl Z ec ?_
  have:M.beat i k u s nd=M:=if_neg d9;rw[this];exact Ent.drop
end
end Go.Y
namespace FR
abbrev Rn.at_(u:Rn)(l:List St):Rn:={u with NN:=l}
def skipK_at{ns:List FK.Node}{l:List St}{nd:FK.Node}(E:l[j]?=some s)(I:ns[j]?=some nd):skipK ns l j=if s.state=1/\(nd.after.any λu=>FK.cY (l.map St.ab) u.toNat 6||FK.cY (l.map St.ab) u.toNat 7) then l.set j {s with state:=7} else l:=by
 unfold skipK;rw[E,I]
end FR
namespace Go.Y
open Go.Proofs Tryz
open Go Go.RowKit Go.SL
def Df(nd:FK.Node)(A:Option Addr)(n c:Nat)(k:Int)(seed:Nat)(E:1<=nd.base)(I:nd.base<=nd.cap)(h3:nd.cap<=1048576)(J:0<=nd.NS)(K:nd.NS<=1048576)(hk:i64 k)(O:seed<18446744073709551616):dz G 131 [.agg (bn nd (.slice A n c)).toArray,aA k,cd seed] [] λv m=>v=aA (FK.gE nd.base nd.cap nd.NS k seed)/\m=[]:=
 (fg (φ:=λ_=>True) λ_ w _ _ _=>vE nd.NR nd.close nd.beat nd.base nd.cap nd.NS A n c k seed w E I h3 J K hk am am).does
def Be{nd:FK.Node}(hi:M.runs[i]?=some u)(hs:u.NN[k]?=some s)(hnd:u.fl.NO[k]?=some nd)(Og:u.NN.length=u.fl.NO.length)(Oh:vK u.fl)(hn:u.fl.NO.length<=12)(K:1<=nd.base)(h2:nd.base<=nd.cap)(h3:nd.cap<=1048576)(h4:0<=nd.NS)(h5:nd.NS<=1048576)(Ov:i64 s.NM)(N2:M.seed<18446744073709551616)(ht:M.time<=4611686018427387904)(Ow:M.timers<9223372036854775807)(he:M.ends<9223372036854775807)(hq:M.NP.length<=1000):dz G 77 [aY e,aA i,aA k] [aZ e a ns M,bx ns] λv m=>v=.tuple #[]/\∃g c,m=[aZ e (a.q g c) ns (M.fails i k u s nd),bx ns]:=by
 have OC:=(gfGet.1 hi).1;have OD:=(gfGet.1 hs).1;have wf:0<=FK.gE nd.base nd.cap nd.NS s.NM M.seed/\FK.gE nd.base nd.cap nd.NS s.NM M.seed<=4611686018427387904:=by
  have hm:=kf (seed:=(M.seed:Int)) h4 h5;unfold FK.gE;have On:∀x:Int,1<=x->0<=min nd.cap x/\min nd.cap x<=1048576:=λx hx=>by omega
  split
  ·omega
  ·split
   ·have hp:(1:Int)<=nd.base*2 ^ (s.NM.toNat-1):=by
     have h6:(1:Int)<=2 ^ (s.NM.toNat-1):=by simpa using Int.add_one_le_of_lt (Int.pow_pos (m:=s.NM.toNat-1) (show(0:Int)<2 by decide))
     have:=Int.mul_le_mul K h6 fh am;simpa using this
    have:=On _ hp;omega
   ·omega
 refine bz func77 Z λE fr hE=>aE<|bA (p:=∃g,a.rg=some g) (λw hv=>iJ hi hv) λ⟨gr,hg⟩=>bA (p:=kM a ns M) (λw hw=>ng hw) λOx=>?_
 obtain⟨Y,Oi⟩:=Ox u (cg hi);have BT:(a.ra u.id).nd.ns[k]?=some nd:=by rw[Oi];exact hnd
 refine bA (λw hw=>tT Y BT hw) λhA=>?_;obtain⟨A,c,Oy,OM,ON,OO,OP⟩:=hA;refine sS<|cE 2 Z Z<|bF (au (v:=dQ gr M.runs.length a.rc) Z) (dY hg)<|bY Z (aV (z:=8) Z Z Z Z OC)<|bF (bR (vs:=iD (a.ra u.id) u) Z) (lW hi hg)<|sO (cO (z:=.agg #[cd 0,aA 0,cB,aA 0,cd 0,aA 0,cB,aA 0]) Z λb6=>sO<|bk (vs:=iD (a.ra u.id) u) Z (m:=8) Z Z Z Z eG (by show 0+8<=8;omega) ?_)
 refine aB b6 (iD (a.ra u.id) u).toArray Z<|sN<|sS<|bm 6 Z<|bF (au (v:=jV (a.ra u.id) u) Z) (ah Z)<|bY Z (aV (z:=7) Z Z Z Z OD)<|sB Z<|sS<|bm 1 Z<|bm 1 Z<|bF (au (v:=(a.ra u.id).nd.nv) Z) (ah Z)<|sM Z<|sP (aV (z:=7) Z Z Z Z ((gfGet.1 BT).1))<|bF (bR (vs:=bn nd (.slice A nd.after.length c)) Z) (tS Y BT Oy)<|sO (cO (z:=.agg #[aA 0,aA 0,aA 0,aA 0,aA 0,aA 0,cB]) Z λb8=>sO<|bk (vs:=bn nd (.slice A nd.after.length c)) Z (m:=7) Z Z Z Z (by simp[bn,Value.oneCell']) (by show 0+7<=7;omega) ?_)
 refine aB b8 (bn nd (.slice A nd.after.length c)).toArray Z<|sN<|sQ<|sQ<|sZ Z<|ea Z Z<|dy 1 Z Z Z<|bN Z (au (v:=aA s.NM) Z) (ee (j:=1) hi Z hs Z)<|bB Z (bd 0 Z)<|bN Z (au (v:=aA nd.NR) Z) (ah Z)<|bB Z (bq Z Z Z)<|dE<|sT<|aC Z (λN3=>?_) λN3=>?_
 ·have hb:s.NM<nd.NR:=N3;refine sS<|cE 0 Z Z<|sO<|jl (j:=0) (s':={s with state:=4}) hi Z hs Z Z Z Z am Z Z<|sN<|sQ ?_
  obtain⟨u1,NU⟩:∃u1,u1=u.setS k {s with state:=4}:=⟨_,rfl⟩;obtain⟨M1,t6⟩:∃M1,M1=M.setR i u1:=⟨_,rfl⟩;rw[<-NU,<-t6];have Oe:M1.runs[i]?=some u1:=by rw[t6];exact FR.iQ hi _
  have Fd:u1.id=u.id:=by rw[NU];rfl
  have hs1:u1.NN[k]?=some {s with state:=4}:=by rw[NU];exact FR.setS_at hs _
  have OE:M1.timers=M.timers:=by rw[t6];rfl
  have NZ:M1.time=M.time:=by rw[t6];rfl
  have f8:M1.seed=M.seed:=by rw[t6];rfl
  refine sZ Z<|ea Z Z<|cC Z Z<|dy 0 Z Z Z<|bN Z (au (v:=aU M1.time) Z) (ck Z)<|bN Z (bR (vs:=bn nd (.slice A nd.after.length c)) Z) (bl Z)<|cC Z Z<|dy 1 Z Z Z<|bN Z (au (v:=aA s.NM) Z) (ee (j:=1) Oe Fd hs1 Z)<|cC Z Z<|dy 1 Z Z Z<|bN Z (au (v:=aU M1.seed) Z) (ck Z)<|dI 14 Z<|dP Z (Df nd A nd.after.length c s.NM M1.seed K h2 h3 h4 h5 Ov (by rw[f8];exact N2)) aQ ?_
  rintro v m ⟨rfl,rfl⟩;refine aW<|dK [false,false,false,true] (aj (ck Z) ak)<|dI 15 Z<|dP Z (ku M1.time (FK.gE nd.base nd.cap nd.NS s.NM M1.seed) (by rw[NZ];exact ht) (by rw[f8];exact wf.1) (by rw[f8];exact wf.2)) aQ ?_
  rintro v m ⟨rfl,rfl⟩;refine aW<|dK [false] ak<|dx 16 Z (cI Z)<|bB Z (bd 3 Z)<|dI 18 Z<|jl (j:=3) (s':={s with state:=4,fin:=M1.later (FK.gE nd.base nd.cap nd.NS s.NM M1.seed).toNat}) Oe Fd hs1 Z Z Z Z am Z Z<|dK [] ak<|dE<|sT<|sQ ?_
  obtain⟨s2,NY⟩:∃s2:FR.St,s2={s with state:=4,fin:=M1.later (FK.gE nd.base nd.cap nd.NS s.NM M1.seed).toNat}:=⟨_,rfl⟩;obtain⟨u2,NV⟩:∃u2,u2=u1.setS k s2:=⟨_,rfl⟩;obtain⟨M2,NW⟩:∃M2,M2=M1.setR i u2:=⟨_,rfl⟩;rw[<-NY,<-NV,<-NW];have OF:M2.runs[i]?=some u2:=by rw[NW];exact FR.iQ Oe _
  have Oo:u2.id=u.id:=by rw[NV];exact Fd
  have t7:u2.NN[k]?=some s2:=by rw[NV];exact FR.setS_at hs1 _
  have Oq:M2.timers=M.timers:=by rw[NW];exact OE
  refine sG<|sM Z<|sM Z<|bV Z (kr (M:=M2) (by rw[Oq];exact Ow)) aQ<|ae<|cZ Z<|bm 5 Z<|sO<|jl (M:={M2 with timers:=M2.timers+1}) (i:=i) (j:=5) (s':={s2 with finAt:=M2.timers+1}) OF Oo t7 Z Z Z Z am Z Z<|sN<|an<|aD<|bt [aZ e (a.q a.qg a.qc) ns (M.fails i k u s nd),bx ns] rfl ⟨rfl,_,_,rfl⟩ ?_
  have:M.fails i k u s nd=FR.En.setR {M2 with timers:=M2.timers+1} i (u2.setS k {s2 with finAt:=M2.timers+1}):=by
   unfold FR.En.fails;rw[if_pos hb,NV,FR.setS_setS,NU,FR.setS_setS,Oq,NY,f8];have hL:M1.later=M.later:=by funext x;unfold FR.En.later;rw[NZ]
   rw[hL,NW,t6];unfold FR.En.setR;simp
  rw[this];exact Ent.cons<|Ent.drop.trans Ent.drop
 ·have hb:¬s.NM<nd.NR:=N3;refine aa<|sT<|sS<|cE 0 Z Z<|sO<|jl (j:=0) (s':={s with state:=6}) hi Z hs Z Z Z Z am Z Z<|sN<|sQ<|sQ ?_
  obtain⟨l0,N8⟩:∃l0,l0=u.NN.set k {s with state:=6}:=⟨_,rfl⟩;have In:l0.length=u.NN.length:=by rw[N8];simp
  have N0:∀l l',(M.setR i (u.at_ l)).setR i (u.at_ l')=M.setR i (u.at_ l'):=λl l'=>FR.setR_setR _ _ _ _;have Or:u.setS k {s with state:=6}=u.at_ l0:=by rw[N8];rfl
  rw[Or];have d9:∀l,(M.setR i (u.at_ l)).runs[i]?=some (u.at_ l):=λl=>FR.iQ hi _;refine sG<|sB Z<|ai<|aO (X:=Nat) (λm=>[(9,aA m),(6,aY b6),(0,aY e),(1,aA i)]) (λm=>blk b6 77 (iD (a.ra u.id) u).toArray::aZ e a ns (M.setR i (u.at_ (FR.gF u.fl.NO u.NN.length m l0)))::bx ns::fr) (λm=>m<=u.NN.length) (λm=>u.NN.length-m) 0 (Nat.zero_le _) bW ((Ent.cons Ent.drop).trans gfE1) ?_
  intro m hm;refine sQ<|bp Z<|bm 6 Z<|bF (au (v:=jV (a.ra u.id) u) Z) (ah Z)<|sP (bh Z Z)<|sP (bq Z Z Z)<|sN<|aC Z (λN4=>?_) λN4=>?_
  ·have Ot:m<u.NN.length:=by have:(m:Int)<(u.NN.length:Int):=N4;omega
   obtain⟨lr,N9⟩:∃lr,lr=FR.gF u.fl.NO u.NN.length m l0:=⟨_,rfl⟩;rw[<-N9];have Ou:lr.length=u.NN.length:=by rw[N9,FR.lB,In]
   refine aa<|sT<|sQ<|ai<|sS<|sB Z<|ai<|aO (X:=Nat) (λj=>[(10,aA j),(9,aA m),(6,aY b6),(0,aY e),(1,aA i)]) (λj=>blk b6 77 (iD (a.ra u.id) u).toArray::aZ e a ns (M.setR i (u.at_ (FR.nu u.fl.NO lr j)))::bx ns::fr) (λj=>j<=u.NN.length) (λj=>u.NN.length-j) 0 (Nat.zero_le _) bW aQ ?_
   intro j hj;refine sQ<|bp Z<|bm 6 Z<|bF (au (v:=jV (a.ra u.id) u) Z) (ah Z)<|sP (bh Z Z)<|sP (bq Z Z Z)<|sN<|aC Z (λN5=>?_) λN5=>?_
   ·have I:j<u.NN.length:=by have:(j:Int)<(u.NN.length:Int):=N5;omega
    obtain⟨lj,Oa⟩:∃lj,lj=FR.nu u.fl.NO lr j:=⟨_,rfl⟩;rw[<-Oa];have LE:lj.length=u.NN.length:=by rw[Oa,FR.qN,Ou]
    obtain⟨sj,Oj⟩:∃sj,lj[j]?=some sj:=⟨lj[j]'am,by simp[LE,I]⟩;obtain⟨J,Ob⟩:∃J,u.fl.NO[j]?=some J:=⟨u.fl.NO[j]'am,by simp[<-Og,I]⟩;have d6:(a.ra u.id).nd.ns[j]?=some J:=by rw[Oi];exact Ob
    refine bA (λw hw=>tT Y d6 hw) λhB=>?_;obtain⟨B,cb,Oc,Oz,OA,OQ,Ol⟩:=hB;replace Ol:cb<=9223372036854775807:=Ol;obtain⟨T,d8⟩:∃T:Bool->List FR.St,T=λb=>if b then lj.set j {sj with state:=7} else lj:=⟨_,rfl⟩
    have f9:∀b,(T b).length=u.NN.length:=λb=>by rw[d8];cases b<;>simp[LE]
    obtain⟨up,Od⟩:∃up:Int->Bool,up=λx=>FK.cY (lj.map FR.St.ab) x.toNat 6||FK.cY (lj.map FR.St.ab) x.toNat 7:=⟨_,rfl⟩;refine aa<|sT<|sQ<|ai<|sS<|sB Z<|ai<|aO (X:=Nat×Bool) (λx=>[(11,aA x.1),(10,aA j),(9,aA m),(6,aY b6),(0,aY e),(1,aA i)]) (λx=>blk b6 77 (iD (a.ra u.id) u).toArray::aZ e a ns (M.setR i (u.at_ (T x.2)))::bx ns::fr) (λx=>x.1<=J.after.length/\(x.2=true->sj.state=1/\J.after.any up=true)/\(x.2=false->sj.state=1->(J.after.take x.1).any up=false)) (λx=>J.after.length-x.1) (0,false) ⟨Nat.zero_le _,λh=>by simp at h,λ_ _=>rfl⟩ bW (by rw[d8];exact aQ) ?_
    rintro⟨y,b⟩ ⟨hy,t8,NX⟩;replace hy:y<=J.after.length:=hy;replace t8:b=true->sj.state=1/\J.after.any up=true:=t8;replace NX:b=false->sj.state=1->(J.after.take y).any up=false:=NX;refine sQ<|bp Z<|bm 1 Z<|bm 1 Z<|bF (au (v:=(a.ra u.id).nd.nv) Z) (ah Z)<|sM Z<|sP (aV (z:=7) Z Z Z Z ((gfGet.1 d6).1))<|bm 6 Z<|bF (au (v:=.slice B J.after.length cb) Z) (th (j:=6) Y d6 Oc Z)<|sP (bh Z Z)<|sP (bq Z Z Z)<|sN<|aC Z (λN6=>?_) λN6=>?_
    ·have d7:y<J.after.length:=by have:(y:Int)<(J.after.length:Int):=N6;omega
     obtain⟨g,rfl⟩:∃g,B=some ⟨g,0,none⟩:=by
      cases B with
      |none=>have:=(Oz rfl).1;omega
      |some ad=>obtain⟨g,rfl⟩:=OA ad rfl;exact⟨g,rfl⟩
     obtain⟨x,hx⟩:∃x,J.after[y]?=some x:=⟨J.after[y],by simp[d7]⟩;obtain⟨OR,OS⟩:=Oh J (cg Ob) x (cg hx);obtain⟨z,rfl⟩:∃z:Nat,x=(z:Int):=⟨x.toNat,am⟩;have Of:z<u.NN.length:=am;obtain⟨s2,t7⟩:∃s2,(T b)[z]?=some s2:=⟨(T b)[z]'(by rw[f9];exact Of),by simp[f9,Of]⟩;obtain⟨sl,O⟩:∃sl,(T b)[j]?=some sl:=⟨(T b)[j]'(by rw[f9];exact I),by simp[f9,I]⟩;have OG:(J.after.take (y+1)).any up=((J.after.take y).any up||up (z:Int)):=by rw[List.take_add_one,hx,List.any_append];simp
     have Om:b=true->sl.state=7:=λh=>by
      have K:(lj.set j {sj with state:=7})[j]?=some sl:=by rw[d8,h]at O;exact O
      rw[List.getElem?_set_self (by rw[LE];exact I)]at K;injection K with K;rw[<-K]
     have mt:b=false->sl=sj:=λh=>by
      have K:lj[j]?=some sl:=by rw[d8,h]at O;exact O
      rw[Oj]at K;injection K with K;exact K.symm
     have LT:b=false->up (z:Int)=(decide (s2.state=6)||decide (s2.state=7)):=λh=>by
      have K:lj[z]?=some s2:=by rw[d8,h]at t7;exact t7
      have h2:(lj.map FR.St.ab)[z]?=some s2.ab:=by rw[List.getElem?_map,K];rfl
      rw[Od];simp only[Int.toNat_natCast];rw[FK.fO h2,FK.fO h2]
      rfl
     refine aa<|sT<|sQ<|ai<|sQ<|sZ Z<|dx 0 Z (bd 6 Z)<|bN Z (au (v:=jV (a.ra u.id) u) Z) (ah Z)<|bB Z (bd 1 Z)<|bB Z (bd 1 Z)<|bN Z (au (v:=(a.ra u.id).nd.nv) Z) (ah Z)<|cC Z Z<|dx 6 Z (aV (z:=7) Z Z Z Z ((gfGet.1 d6).1))<|dx 7 Z (bd 6 Z)<|bN Z (au (v:=dQ g J.after.length cb) Z) (th (j:=6) Y d6 Oc Z)<|cC Z Z<|bB Z (aV (z:=1) Z Z Z Z d7)<|bN Z (au (v:=aA (z:Int)) Z) (zJ Y d6 Oc hx)<|bB Z (aV (z:=7) Z Z Z Z Of)<|bB Z (bd 0 Z)<|bN Z (au (v:=aA s2.state) Z) (ee (u:=u.at_ (T b)) (j:=0) (d9 _) Z t7 Z)<|bB Z (aX Z)<|dE<|sT<|sQ ?_
     by_cases K:sl.state=1
     ·have f7:b=false:=by cases b with|false=>rfl|true=>have:=Om rfl;omega
      have N1:sj.state=1:=by rw[<-mt f7];exact K
      by_cases h6:s2.state=6
      ·refine sG<|bm 6 Z<|bF (au (v:=jV (a.ra u.id) u) Z) (ah Z)<|bY Z (aV (z:=7) Z Z Z Z I)<|bm 0 Z<|bF (au (v:=aA sl.state) Z) (ee (u:=u.at_ (T b)) (j:=0) (d9 _) Z O Z)<|sP (dg Z Z K)<|sM Z<|cN Z<|bO (dg Z Z h6)<|cN Z<|aR Z<|aR Z<|bO (aF Z Z Z)<|sP (aF Z Z Z)<|sN<|aK Z<|sG<|bm 6 Z<|bF (au (v:=jV (a.ra u.id) u) Z) (ah Z)<|bY Z (aV (z:=7) Z Z Z Z I)<|bm 0 Z<|sO<|jl (u:=u.at_ (T b)) (j:=0) (s':={sl with state:=7}) (d9 _) Z O Z Z Z Z am Z Z<|ap<|al<|sT<|sG<|bY Z (dM Z Z)<|sA Z<|ap<|aH (y+1,true) ⟨d7,λ_=>⟨N1,List.any_eq_true.2 ⟨_,cg hx,by rw[LT f7,h6];rfl⟩⟩,λh=>by simp at h⟩ (by show J.after.length-(y+1)<J.after.length-y;omega) bW (by
        have e:(u.at_ (T b)).setS j {sl with state:=7}=u.at_ (T true):=by rw[mt f7,f7,d8];rfl
        rw[e,N0];exact gfE1)
      ·by_cases h7:s2.state=7
       ·refine sG<|bm 6 Z<|bF (au (v:=jV (a.ra u.id) u) Z) (ah Z)<|bY Z (aV (z:=7) Z Z Z Z I)<|bm 0 Z<|bF (au (v:=aA sl.state) Z) (ee (u:=u.at_ (T b)) (j:=0) (d9 _) Z O Z)<|sP (dg Z Z K)<|sM Z<|cN Z<|bO (eE Z Z h6)<|cN Z<|cN Z<|bO (dg Z Z h7)<|bO (aF Z Z Z)<|sP (aF Z Z Z)<|sN<|aK Z<|sG<|bm 6 Z<|bF (au (v:=jV (a.ra u.id) u) Z) (ah Z)<|bY Z (aV (z:=7) Z Z Z Z I)<|bm 0 Z<|sO<|jl (u:=u.at_ (T b)) (j:=0) (s':={sl with state:=7}) (d9 _) Z O Z Z Z Z am Z Z<|ap<|al<|sT<|sG<|bY Z (dM Z Z)<|sA Z<|ap<|aH (y+1,true) ⟨d7,λ_=>⟨N1,List.any_eq_true.2 ⟨_,cg hx,by rw[LT f7,h7];rfl⟩⟩,λh=>by simp at h⟩ (by show J.after.length-(y+1)<J.after.length-y;omega) bW (by
         have e:(u.at_ (T b)).setS j {sl with state:=7}=u.at_ (T true):=by rw[mt f7,f7,d8];rfl
         rw[e,N0];exact gfE1)
       ·refine sG<|bm 6 Z<|bF (au (v:=jV (a.ra u.id) u) Z) (ah Z)<|bY Z (aV (z:=7) Z Z Z Z I)<|bm 0 Z<|bF (au (v:=aA sl.state) Z) (ee (u:=u.at_ (T b)) (j:=0) (d9 _) Z O Z)<|sP (dg Z Z K)<|sM Z<|cN Z<|bO (eE Z Z h6)<|cN Z<|cN Z<|bO (eE Z Z h7)<|bO (aF Z Z Z)<|sP (aF Z Z Z)<|sN<|ag Z<|aa<|al<|sT<|sG<|bY Z (dM Z Z)<|sA Z<|ap<|aH (y+1,b) ⟨d7,t8,λNT N7=>(by
         rw[OG,NX NT N7,LT NT];simp[h6,h7])⟩ (by show J.after.length-(y+1)<J.after.length-y;omega) ⟨rfl,rfl,rfl,rfl,rfl,rfl,trivial⟩ aQ
     ·refine sG<|bm 6 Z<|bF (au (v:=jV (a.ra u.id) u) Z) (ah Z)<|bY Z (aV (z:=7) Z Z Z Z I)<|bm 0 Z<|bF (au (v:=aA sl.state) Z) (ee (u:=u.at_ (T b)) (j:=0) (d9 _) Z O Z)<|sP (eE Z Z K)<|sM Z<|aR Z<|aR Z<|aR Z<|fj Z<|fj Z<|aR Z<|sP (aF Z Z Z)<|sN<|ag Z<|aa<|al<|sT<|sG<|bY Z (dM Z Z)<|sA Z<|ap<|aH (y+1,b) ⟨d7,t8,λNT N7=>absurd (by rw[mt NT];exact N7) K⟩ (by show J.after.length-(y+1)<J.after.length-y;omega) bW aQ
    ·have OH:y=J.after.length:=by have:¬(y:Int)<(J.after.length:Int):=N6;omega
     have OI:FR.nu u.fl.NO lr (j+1)=T b:=by
      rw[FR.mS,<-Oa,FR.skipK_at Oj Ob,d8];cases b with
      |true=>
       have K:=t8 rfl;rw[Od]at K;exact if_pos K
      |false=>
       have K:=NX rfl;rw[OH,List.take_length,Od]at K;exact if_neg λh=>by rw[K h.1]at h;exact absurd h.2 fh
     refine aM<|aw<|az<|aq<|al<|sT<|sG<|bY Z (dM Z Z)<|sA Z<|ap<|aH (j+1) I am bW (by rw[OI];exact aQ)
   ·have OJ:j=u.NN.length:=by have:¬(j:Int)<(u.NN.length:Int):=N5;omega
    refine aM<|aw<|az<|aq<|al<|sT<|sG<|bY Z (dM Z Z)<|sA Z<|ap<|aH (m+1) Ot am bW (by rw[FR.lN,<-N9,OJ];exact aQ)
  ·have OK:m=u.NN.length:=by have:¬(m:Int)<(u.NN.length:Int):=N4;omega
   obtain⟨uf,OB⟩:∃uf,uf=u.at_ (FR.gF u.fl.NO u.NN.length m l0):=⟨_,rfl⟩;have OL:uf.NN.length=u.NN.length:=by rw[OB];show(FR.gF _ _ _ _).length=_;rw[FR.lB,In]
   refine aM<|aw<|az<|aq<|sT<|sG<|sM Z<|sM Z<|bQ Z (qh (d9 _) he (show(FR.gF u.fl.NO u.NN.length m l0).length<=100 by rw[FR.lB,In];omega) hq) gfE1 ?_
   rintro v m ⟨rfl,g1,c1,rfl⟩;refine ae<|ap<|bt [aZ e (a.q g1 c1) ns (M.fails i k u s nd),bx ns] rfl ⟨rfl,g1,c1,rfl⟩ ?_
   have:M.fails i k u s nd=(M.setR i (u.at_ (FR.gF u.fl.NO u.NN.length m l0))).settle i:=by
    unfold FR.En.fails;rw[if_neg hb,OK,N8]
   rw[this];exact Ent.cons Ent.drop
section
variable{r:List HP}
def Bf{tok:Nat}{nd:FK.Node}(h:M.runs.length<=100)(I:∀u∈M.runs,u.NN.length<=100)(hw:FR.Wk M tok i k u s)(O:Ht M tok i k)(T:dz G 77 [aY e,aA i,aA k] [aZ e a ns M,bx ns] λv m=>v=.tuple #[]/\∃g c,m=[aZ e (a.q g c) ns (M.fails i k u s nd),bx ns]):dz G 40 [aY e,aU tok] [aZ e a ns M,bx ns] λv m=>v=aA 0/\∃g c,m=[aZ e (a.q g c) ns (M.fails i k u s nd),bx ns]:=by
 refine bz func40 Z λE fr Y=>aE<|sS<|sB Z<|bp Z<|sM Z<|bV Z (Cy h I hw O) aQ<|ae<|sM Z<|bG Z Z<|bG Z Z<|sA Z<|sB Z<|sQ<|bp Z<|sP (cK Z Z am)<|sN<|ag Z<|aa<|sT<|sS<|sM Z<|sM Z<|sM Z<|bQ Z T aQ ?_
 rintro v m ⟨rfl,J,K,rfl⟩;exact aE<|sN<|sS<|sB Z<|an<|ar [aZ e (a.q J K) ns (M.fails i k u s nd),bx ns] rfl Z ⟨rfl,J,K,rfl⟩ aQ
def tQ(h:M.runs.length<=100)(I:(M.runs.map (·.id)).Nodup)(hi:M.runs[i]?=some u):dz G 57 [aY e,aU u.id] [aZ e a ns M] λv m=>v=aA (i:Int)/\m=[aZ e a ns M]:=
 (ve u.id h).mono λv m ⟨E,J⟩=>⟨m,⟨by
  rcases E with⟨j,u',E,h3,K⟩|⟨E,_⟩
  ·have:=FR.zf I E hi h3
   subst this;exact K
  ·exact absurd Z (E u (cg hi)),J⟩,aQ⟩
def M6{id:Nat}(h:M.runs.length<=100)(hno:∀u∈M.runs,u.id≠id):dz G 57 [aY e,aU id] [aZ e a ns M] λv m=>v=aA (-1)/\m=[aZ e a ns M]:=
 (ve id h).mono λv m ⟨E,I⟩=>⟨m,⟨by
  rcases E with⟨j,u',E,h3,J⟩|⟨_,E⟩
  ·exact absurd h3<|hno u'<|cg E
  ·exact E,I⟩,aQ⟩
def vQ{id:Nat}(h:M.runs.length<=100)(hno:∀u∈M.runs,u.id≠id):dz G 41 [aY e,aU id] [aZ e a ns M] λv m=>v=aA 6/\m=[aZ e a ns M]:=by
 refine bz func41 Z λE fr I=>ae<|sS<|sB Z<|bp Z<|sM Z<|bV Z (M6 h hno) aQ<|ae<|sB Z<|sQ<|bp Z<|sP (bq Z Z Z)<|sM Z<|aR Z<|aR Z<|aR Z<|aR Z<|aR Z<|aR Z<|aR Z<|aR Z<|aR Z<|sP (aF Z Z Z)<|sN<|aK Z<|sS<|sB Z<|an<|aD<|ar [aZ e a ns M] rfl Z ⟨rfl,rfl⟩ aQ
def vP(h:M.runs.length<=100)(hn:(M.runs.map (·.id)).Nodup)(hi:M.runs[i]?=some u)(he:M.ends<9223372036854775807)(hl:u.NN.length<=100)(hq:M.NP.length<=1000):dz G 41 [aY e,aU u.id] [aZ e a ns M] λv m=>(u.state≠1->v=aA 6/\m=[aZ e a ns M])/\(u.state=1->v=aA 0/\∃g c,m=[aZ e (a.q g c) ns (M.endr i u 4)]):=by
 have J:=(gfGet.1 hi).1;refine bz func41 Z λE fr hE=>ae<|bA (λw hw=>iJ hi hw) λ⟨gr,T⟩=>sS<|sB Z<|bp Z<|sM Z<|bV Z (tQ h hn hi) aQ<|ae<|sB Z<|sQ<|bp Z<|sP (cK Z Z am)<|sM Z<|cN Z<|bO (cI Z)<|bO (bd 2 Z)<|fM (au Z) (dY T)<|cN Z<|bO (aV Z Z Z Z J)<|bO (bd 3 Z)<|fM (au Z) (cR hi T Z)<|bO (cy Z Z Z)<|sP (aF Z Z Z)<|sN<|aC Z (λI=>?_) λI=>?_
 ·have K:u.state≠1:=I;refine sS<|sB Z<|an<|aD<|ar [aZ e a ns M] rfl Z ⟨λ_=>⟨rfl,rfl⟩,λh=>absurd h K⟩ aQ
 ·have O:u.state=1:=Decidable.not_not.1 I;refine aa<|sT<|bp Z<|sM Z<|bQ Z (oG 4 hi he hl hq) aQ ?_
  rintro v m ⟨rfl,Y,c1,rfl⟩;refine ae<|sN<|sS<|sB Z<|an<|ar [aZ e (a.q Y c1) ns (M.endr i u 4)] rfl Z ⟨λh=>absurd O h,λ_=>⟨rfl,Y,c1,rfl⟩⟩ aQ
def Bb(h:M.NP=[]):dz G 36 [aY e] [aZ e a ns M] λv m=>v=.tuple #[gA 0 0 0 0,.bool false]/\m=[aZ e a ns M]:=by
 refine bz func36 Z λE fr I=>ae<|sS<|sO (cO Z λJ=>(sB Z (sQ (sS (sM Z (cZ Z (bm 3 Z (bF (au (v:=.slice (Cp a.qg) 0 a.qc) Z) (ck (by show some (lT a M)=_;unfold lT;rw[h];rfl)) (sP (bh Z Z)<|sP (bc Z Z Z)<|sN<|aK Z<|sS<|sP (bI Z Z Z Z Z) (sO<|bk Z Z Z Z Z eG (by show 0+4<=4;omega) (sB Z<|an<|aD<|de [aZ e a ns M] rfl (bU Z Z Z Z (bl Z)) (bS Z) ⟨rfl,rfl⟩ Ent.drop)))))))))))
def rf_qc[H:HasRef l e a ns M r](hw:Holds E w l):M.NP.length<=a.qc:=by
 obtain⟨F,h⟩:=jY (H:=H) hw;have h:(Cn a M).sat w F:=Star.mem h di;rcases h.1.2 with⟨K,I⟩|⟨g,cap,J,I,_,_,O,_⟩
 ·omega
 ·injection I with _ _ I
  omega
def o_rfQ{r':List HP}{Y:TypeId}{pos:String}{g:Option (Nat×Bool)}{t:TypeId}{x y:Operand}[H:HasRef l e a ns M r]{I:List (Nat×Int)}(hm:m=I.length)(s:Sel (row 133 2 v m (I.flatMap kw)) l r')(hz:dq P t 1)(hx:ev ts x=some (eg e 3))(hy:ev ts y=some v){T:List HP}(s2:Sel (aZ e a ns M) r' T)
(hk:∀o c,At E n D ts (aZ e (a.q o c) ns {M with NP:=I}::T) K):At E n D ts l (λac w=>(Oper.mk none (.store t x y) Y pos af g).wp P ac w K Q):=by
 subst hm;refine bA (λw hw=>ng hw) λJ=>ao ((Ent.sel s).trans (Ent.cons (Ent.sel s2)))<|aN .head λA c hA d6 O _ _ _=>?_
 obtain⟨o,rfl⟩:=po O;subst hA;refine ao ((Ent.cons (jw (M:=M))).trans gfE1)<|cq Z hz hx hy Z di<|ao ?_<|hk o c
 refine Ent.trans ?_<|jT J
 exact Ent.cons<|gfE1.trans<|Ent.cons<|Ent.cons Ent.drop
def Ba{nd:FK.Node}{q:List (Nat×Int)}(h:M.runs.length<=100)(hn:(M.runs.map (·.id)).Nodup)(NY:M.NP=(u.id,(k:Int))::q)(hi:M.runs[i]?=some u)(hs:u.NN[k]?=some s)(hnd:u.fl.NO[k]?=some nd)(hq:M.NP.length<=1000)(ht:M.time<=4611686018427387904)(Of:0<=nd.close)(hc:nd.close<=4611686018427387904)(hb:nd.beat<=4611686018427387904)(Oy:M.timers+1<9223372036854775807)(Ov:M.NK<9223372036854775807)(Ow:0<=s.NM)(Oz:s.NM<9223372036854775807):dz G 36 [aY e] [aZ e a ns M,bx ns] λv m=>v=.tuple #[gA u.id k (s.NM+1) (M.NK+1),.bool true]/\∃g c,m=[aZ e (a.q g c) ns (M.hand q i k u s nd),bx ns]:=by
 have N6:=(gfGet.1 hi).1;have Ol:=(gfGet.1 hs).1;have N7:M.NP[0]?=some (u.id,(k:Int)):=by rw[NY];rfl
 have Om:M.NP.length=q.length+1:=by rw[NY];rfl
 refine bz func36 Z λE fr hE=>aE<|bA (λw hv=>iJ hi hv) λ⟨gr,hg⟩=>bA (λw hv=>Ez N7 hv) λ⟨gq,t7⟩=>bA (λw hw=>ng hw) λOg=>?_
 obtain⟨wf,Oi⟩:=Og u (cg hi);have mt:(a.ra u.id).nd.ns[k]?=some nd:=by rw[Oi];exact hnd
 refine bA (λw hw=>tT wf mt hw) λhA=>?_;obtain⟨A,c,N5,OB,OC,OD,OE⟩:=hA;refine bA (λw hw=>rf_qc hw) λOh=>sS<|sO (cO Z λb2=>(sB Z (sQ (sS (sM Z (cZ Z (bm 3 Z (bF (au Z) (we t7) (sP (bh Z Z) (sP (eE Z Z am) (sN (ag Z (aa (sT (sS<|cE 3 Z Z<|bF (au Z) (we t7)<|sP (aV (i:=0) Z Z Z Z am)<|bF (bR Z) (Kz N7 t7)<|sO (cO Z λb4=>sO<|bk Z Z Z Z Z eG (by show 0+2<=2;omega) ?_))))))))))))))))
 refine aB b4 (kw (u.id,(k:Int))).toArray Z<|sN<|bp Z<|cE 3 Z Z<|bF (au Z) (we t7)<|sP (ez (a:=1) Z Z Z ⟨_,rfl⟩ rfl am Oh) ?_
 have N8:∀w,Holds E w (row 133 2 cB 0 []::blk b4 133 (kw (u.id,(k:Int))).toArray::blk b2 95 (ci 0 0 0 0).toArray::aZ e a ns M::bx ns::fr)->nA (if a.qc=1 then some ⟨gq,0,none⟩ else(some ⟨gq,0,none⟩:Option Addr).map (·.add (1*2))) (q.flatMap kw) w:=λw hw ad LT j v hj=>by
  obtain⟨F,Oj⟩:=jY (e:=e) (a:=a) (ns:=ns) (M:=M) hw;have hr:(Cn a M).sat w F:=Star.mem Oj di;unfold Cn lT at hr;rw[t7]at hr;have OF:j<q.length*2:=by have:=(gfGet.1 hj).1;rwa [cV (k:=2) λ_=>rfl]at this
  rw[if_neg am]at LT;injection LT with LT;subst LT;have:=hr.1.cells (g:=gq) rfl (2+j) v (by
   rw[NY,List.flatMap_cons,List.getElem?_append_right di];show(q.flatMap kw)[2+j-2]?=some v;rw[show 2+j-2=j by omega];exact hj)
  rw[add_plain]at this;show w.cell? (((⟨gq,0,none⟩:Addr).add (1*2)).add j)=some v;rw[add_plain,add_plain];simpa[Nat.add_assoc]using this
 refine ao (Ent.row0 (size:=2))<|dL rfl (ce (xs:=[]) rfl rfl tu rfl am rfl rfl .head (by rw[cV (k:=2) λ_=>rfl,Om];rfl) (λh=>by split at h<;>cases h) N8 (λv hv=>by obtain⟨x,_,hx⟩:=List.mem_flatMap.1 hv;simp only[List.mem_cons,List.not_mem_nil,or_false]at hx;rcases hx with rfl|rfl<;>rfl) gk am λOA Ox=>cZ Z<|bm 3 Z (sO (o_rfQ am .head Z Z Z dm λo4 I=>sN<|sQ ?_)))
 have J:∀(T:FR.En) (s1 s2:FR.St),(T.setR i (u.setS k s1)).setR i ((u.setS k s1).setS k s2)=T.setR i (u.setS k s2):=λT s1 s2=>by rw[FR.setR_setR,FR.setS_setS]
 obtain⟨MA,d6⟩:∃MA:FR.En,MA={M with NP:=q}:=⟨_,rfl⟩;rw[<-d6];have NV:MA.runs[i]?=some u:=by rw[d6];exact hi
 have N3:MA.runs.length=M.runs.length:=by rw[d6]
 refine sG<|sM Z<|bm 0 Z<|bF (au Z) (ah Z)<|bV Z (tQ (M:=MA) (by rw[N3];exact h) (by rw[d6];exact hn) NV) aQ<|ae<|sB Z<|sQ<|sZ Z<|ea Z Z<|dy 2 Z Z Z<|bN Z (au (v:=dQ gr MA.runs.length a.rc) Z) (dY (a:=a.q o4 I) hg)<|cC Z Z<|dx 5 Z (aV (z:=8) Z Z Z Z (by rw[N3];exact N6)) ?_
 refine dx 6 Z (bd 1 Z)<|bB Z (bd 1 Z)<|bN Z (au (v:=(a.ra u.id).nd.nv) Z) (cR (a:=a.q o4 I) (j:=2) NV hg Z)<|bB Z (bd 1 Z)<|bN Z (au (v:=aA (k:Int)) Z) (ah Z) ?_
 refine dx 11 Z (aV (z:=7) Z Z Z Z ((gfGet.1 mt).1)) ?_;refine jW 12 Z (bR (vs:=bn nd (.slice A nd.after.length c)) Z) (tS wf mt N5)<|xx Z (cO (z:=.agg #[aA 0,aA 0,aA 0,aA 0,aA 0,aA 0,cB]) Z λb6=>(dK [true,true,true,true] (aj (tS wf mt N5) (aj (ah Z) (aj (cR (a:=a.q o4 I) (j:=2) NV hg Z) (aj (dY (a:=a.q o4 I) hg) ak)))) ?_))
 refine dI 14 Z<|bk (vs:=bn nd (.slice A nd.after.length c)) Z (m:=7) Z Z Z Z (by simp[bn,Value.oneCell']) (by show 0+7<=7;omega) ?_
 refine dK [false,false,false,false] ak<|dE<|sT<|sQ ?_
 have N9:MA.NK=M.NK:=by rw[d6]
 refine aB b6 (bn nd (.slice A nd.after.length c)).toArray Z<|sG<|cE 5 Z Z<|bF (au (v:=aU MA.NK) Z) (ck Z)<|sP (bH (r:=((M.NK+1:Nat):Int)) Z Z (by rw[N9,li];omega))<|cZ Z<|bm 5 Z ?_
 refine sO<|tO (a:=a.q o4 I) (M:=MA) (M':={MA with NK:=M.NK+1}) Z Z Z am Z Z Z Z ?_
 refine sN<|sQ ?_
 obtain⟨K,d7⟩:∃K:FR.En,K={MA with NK:=M.NK+1}:=⟨_,rfl⟩;rw[<-d7];have NW:K.runs[i]?=some u:=by rw[d7];exact NV
 have On:K.runs.length=M.runs.length:=by rw[d7];exact N3
 have Oa:K.time=M.time:=by rw[d7,d6]
 have Fd:K.timers=M.timers:=by rw[d7,d6]
 have Ob:K.NK=M.NK+1:=by rw[d7]
 have NX:∀s',(K.setR i (u.setS k s')).runs[i]?=some (u.setS k s'):=λs'=>FR.iQ NW _;have Y:∀s',(u.setS k s').NN[k]?=some s':=λs'=>FR.setS_at hs _;refine sZ Z<|ea Z Z<|dy 2 Z Z Z<|bN Z (au (v:=dQ gr K.runs.length a.rc) Z) (dY (a:=a.q o4 I) hg)<|cC Z Z ?_
 refine dx 5 Z (aV (z:=8) Z Z Z Z (by rw[On];exact N6)) ?_;refine dx 6 Z (bd 6 Z)<|bN Z (au (v:=jV (a.ra u.id) u) Z) (cR (a:=a.q o4 I) (j:=6) NW hg Z)<|bB Z (bd 1 Z)<|bN Z (au (v:=aA (k:Int)) Z) (ah Z)<|bB Z (aV (z:=7) Z Z Z Z Ol)<|bB Z (aX Z)<|dE<|sT<|sS<|cE 0 Z Z ?_
 refine sO<|jl (a:=a.q o4 I) (id:=u.id) (j:=0) (s':={s with state:=3}) NW Z hs Z Z Z Z am Z Z ?_
 refine sN<|sQ ?_
 obtain⟨s1,hs1⟩:∃s1:FR.St,s1={s with state:=3}:=⟨_,rfl⟩;rw[<-hs1];have Oo:s1.NM=s.NM:=by rw[hs1]
 refine sG<|cE 1 Z Z<|bF (au (v:=aA s.NM) Z) (ee (a:=a.q o4 I) (id:=u.id) (j:=1) (NX s1) Z (Y s1) (by rw[<-Oo];rfl))<|sP (bH (r:=s.NM+1) Z Z (by rw[iP am]))<|cZ Z<|bm 1 Z ?_
 refine sO<|jl (a:=a.q o4 I) (id:=u.id) (j:=1) (M:=K.setR i (u.setS k s1)) (s':={s1 with NM:=s.NM+1}) (NX s1) Z (Y s1) Z Z Z Z am Z Z ?_
 refine sN<|sQ ?_
 rw[J];obtain⟨s2,BT⟩:∃s2:FR.St,s2={s1 with NM:=s.NM+1}:=⟨_,rfl⟩;rw[<-BT];refine sG<|sM Z<|cE 5 Z Z<|bF (au (v:=aU (M.NK+1)) Z) (ck (a:=a.q o4 I) (M:=K.setR i (u.setS k s2)) (show some (aU K.NK)=_ by rw[Ob]))<|cZ Z<|bm 2 Z ?_
 refine sO<|jl (a:=a.q o4 I) (id:=u.id) (j:=2) (M:=K.setR i (u.setS k s2)) (s':={s2 with token:=M.NK+1}) (NX s2) Z (Y s2) Z Z Z Z am Z Z ?_
 refine sN<|sQ ?_
 rw[J];obtain⟨s3,d8⟩:∃s3:FR.St,s3={s2 with token:=M.NK+1}:=⟨_,rfl⟩;rw[<-d8];refine sZ Z<|ea Z Z<|cC Z Z<|dy 0 Z Z Z<|bN Z (au (v:=aU M.time) Z) (ck (a:=a.q o4 I) (M:=K.setR i (u.setS k s3)) (show some (aU K.time)=_ by rw[Oa]))<|bB Z (bd 1 Z)<|bN Z (au (v:=aA nd.close) Z) (ah Z) ?_
 refine dI 7 Z<|dP Z (ku M.time nd.close ht Of hc) aQ ?_
 rintro v m ⟨rfl,rfl⟩;refine aW<|dK [false,false] ak<|dx 8 Z (cI Z)<|bB Z (bd 3 Z) ?_
 refine dI 10 Z<|jl (a:=a.q o4 I) (id:=u.id) (j:=3) (M:=K.setR i (u.setS k s3)) (s':={s3 with fin:=M.later nd.close.toNat}) (NX s3) Z (Y s3) Z Z Z Z am Z Z ?_
 refine dK [] ak<|dE<|sT<|sQ ?_
 rw[J];obtain⟨s4,d9⟩:∃s4:FR.St,s4={s3 with fin:=M.later nd.close.toNat}:=⟨_,rfl⟩;rw[<-d9];refine sG<|sM Z<|sM Z ?_
 refine bV Z (kr (M:=K.setR i (u.setS k s4)) (show K.timers<_ by rw[Fd];omega)) aQ ?_;refine ae ?_;obtain⟨O,t6⟩:∃O:FR.En,O={K with timers:=M.timers+1}:=⟨_,rfl⟩;have Oq:({K.setR i (u.setS k s4)with timers:=(K.setR i (u.setS k s4)).timers+1}:FR.En)=O.setR i (u.setS k s4):=by rw[t6,<-Fd];rfl
 rw[Oq];have Or:(K.setR i (u.setS k s4)).timers=M.timers:=Fd;rw[Or];have N4:O.runs[i]?=some u:=by rw[t6];exact NW
 have In:∀s',(O.setR i (u.setS k s')).runs[i]?=some (u.setS k s'):=λs'=>FR.iQ N4 _;have Oc:O.time=M.time:=by rw[t6];exact Oa
 refine cZ Z<|bm 5 Z ?_
 refine sO<|jl (a:=a.q o4 I) (id:=u.id) (j:=5) (M:=O.setR i (u.setS k s4)) (s':={s4 with finAt:=M.timers+1}) (In s4) Z (Y s4) Z Z Z Z am Z Z ?_
 refine sN<|sQ ?_
 rw[J];obtain⟨s5,f7⟩:∃s5:FR.St,s5={s4 with finAt:=M.timers+1}:=⟨_,rfl⟩;rw[<-f7];refine sG<|cE 4 Z Z ?_
 refine sO<|jl (a:=a.q o4 I) (id:=u.id) (j:=4) (M:=O.setR i (u.setS k s5)) (s':={s5 with sign:=0}) (In s5) Z (Y s5) Z Z Z Z am Z Z ?_
 refine sN ?_;refine sQ<|cu (X:=FR.En×FR.St) (λ_=>[(7,eg ((a.ra u.id).gs) (0+k*7)),(4,aY b4),(2,aY b2),(0,aY e)]) (λx=>aZ e (a.q o4 I) ns (x.1.setR i (u.setS k x.2))::blk b6 51 (bn nd (.slice A nd.after.length c)).toArray::blk b4 133 (kw (u.id,(k:Int))).toArray::blk b2 95 (ci 0 0 0 0).toArray::bx ns::fr) (λx=>x.1.runs[i]?=some u/\x.2.NM=s.NM+1/\x.2.token=M.NK+1/\M.hand q i k u s nd=x.1.setR i (u.setS k x.2)) ?_ ?_
 ·refine sQ ?_;rw[J];obtain⟨s6,f8⟩:∃s6:FR.St,s6={s5 with sign:=0}:=⟨_,rfl⟩;rw[<-f8];refine sG<|bm 2 Z<|bF (au (v:=aA nd.beat) Z) (ah Z)<|sP (dX Z Z Z)<|sN ?_
  refine aC Z (λt8=>?_) λt8=>?_
  ·have f9:0<nd.beat:=t8;refine sQ<|sZ Z<|ea Z Z<|cC Z Z<|dy 0 Z Z Z<|bN Z (au (v:=aU M.time) Z) (ck (a:=a.q o4 I) (M:=O.setR i (u.setS k s6)) (show some (aU O.time)=_ by rw[Oc]))<|bB Z (bd 2 Z)<|bN Z (au (v:=aA nd.beat) Z) (ah Z) ?_
   refine dI 7 Z<|dP Z (ku M.time nd.beat ht am hb) aQ ?_
   rintro v m ⟨rfl,rfl⟩;refine aW<|dK [false,false] ak<|dx 8 Z (cI Z)<|bB Z (bd 4 Z) ?_
   refine dI 10 Z<|jl (a:=a.q o4 I) (id:=u.id) (j:=4) (M:=O.setR i (u.setS k s6)) (s':={s6 with sign:=M.later nd.beat.toNat}) (In s6) Z (Y s6) Z Z Z Z am Z Z ?_
   refine dK [] ak<|dE<|sT ?_
   rw[J];obtain⟨s7,NT⟩:∃s7:FR.St,s7={s6 with sign:=M.later nd.beat.toNat}:=⟨_,rfl⟩;rw[<-NT];have LE:O.timers=M.timers+1:=by rw[t6]
   refine sG<|sM Z<|sM Z ?_
   refine bV Z (kr (M:=O.setR i (u.setS k s7)) (show O.timers<_ by rw[LE];omega)) aQ ?_;refine ae ?_;obtain⟨MD,NZ⟩:∃MD:FR.En,MD={O with timers:=M.timers+2}:=⟨_,rfl⟩;have Ot:({O.setR i (u.setS k s7)with timers:=(O.setR i (u.setS k s7)).timers+1}:FR.En)=MD.setR i (u.setS k s7):=by
    have:(O.setR i (u.setS k s7)).timers+1=M.timers+2:=by show O.timers+1=_;rw[LE]
    rw[NZ,this];rfl
   rw[Ot];have Ou:(O.setR i (u.setS k s7)).timers=M.timers+1:=LE;rw[Ou];have Od:MD.runs[i]?=some u:=by rw[NZ];exact N4
   have Oe:∀s',(MD.setR i (u.setS k s')).runs[i]?=some (u.setS k s'):=λs'=>FR.iQ Od _;refine cZ Z<|bm 6 Z ?_
   refine sO<|jl (a:=a.q o4 I) (id:=u.id) (j:=6) (M:=MD.setR i (u.setS k s7)) (s':={s7 with signAt:=M.timers+2}) (Oe s7) Z (Y s7) Z Z Z Z am Z Z ?_
   refine ap ?_;rw[J];exact aT (MD,{s7 with signAt:=M.timers+2}) ⟨Od,by rw[NT,f8,f7,d9,d8,BT],by rw[NT,f8,f7,d9,d8],by
    unfold FR.En.hand FR.En.handS;rw[if_pos f9,if_pos f9,if_pos f9,NT,f8,f7,d9,d8,BT,hs1,NZ,t6,d7,d6]
    rfl⟩ ⟨rfl,rfl,rfl,rfl,trivial⟩ aQ
  ·have f9:¬0<nd.beat:=t8;refine aa ?_;exact aT (O,s6) ⟨N4,by rw[f8,f7,d9,d8,BT],by rw[f8,f7,d9,d8],by
    unfold FR.En.hand FR.En.handS;rw[if_neg f9,if_neg f9,if_neg f9,f8,f7,d9,d8,BT,hs1,t6,d7,d6]
    rfl⟩ ⟨rfl,rfl,rfl,rfl,trivial⟩ aQ
 rintro⟨MX,sx⟩ ⟨NU,N0,N1,N2⟩;replace NU:MX.runs[i]?=some u:=NU;replace N0:sx.NM=s.NM+1:=N0;replace N1:sx.token=M.NK+1:=N1;replace N2:M.hand q i k u s nd=MX.setR i (u.setS k sx):=N2;refine sQ<|sZ Z<|dx 0 Z (bd 0 Z)<|bN Z (au (v:=aU u.id) Z) (ah Z)<|bB Z (bd 1 Z)<|bN Z (au (v:=aA (k:Int)) Z) (ah Z)<|cC Z Z<|dy 1 Z Z Z<|bN Z (au (v:=aA (s.NM+1)) Z) (ee (a:=a.q o4 I) (id:=u.id) (j:=1) (FR.iQ NU (u.setS k sx)) Z (Y sx) (by rw[<-N0];rfl))<|cC Z Z<|dy 2 Z Z Z<|bN Z (au (v:=aU (M.NK+1)) Z) (ee (a:=a.q o4 I) (id:=u.id) (j:=2) (FR.iQ NU (u.setS k sx)) Z (Y sx) (by rw[<-N1];rfl))<|bB Z (bI (cs:=(ci u.id k (s.NM+1) (M.NK+1)).toArray) Z Z Z Z Z) ?_
 refine dI 13 Z<|bk (vs:=ci u.id k (s.NM+1) (M.NK+1)) Z (m:=4) Z Z Z Z eG (by show 0+4<=4;omega) ?_
 refine dK [false,false,false,false] ak<|dx 14 Z (aX Z)<|dE<|sT<|an<|de [aZ e (a.q o4 I) ns (M.hand q i k u s nd),bx ns] rfl (bU (vs:=ci u.id k (s.NM+1) (M.NK+1)) Z Z Z Z (bl Z)) (bS Z) ⟨rfl,o4,I,rfl⟩ ?_
 rw[N2];exact Ent.drop.trans<|Ent.cons<|Ent.drop.trans Ent.drop
end
end Go.Y
namespace Go.SL
open Go Go.RowKit
def yx{E:Func}{i j k p q:Tmp}(h:E.results=#[.tmp i,.tmp j,.tmp k,.tmp p,.tmp q])(tmps:Array Value)(P:Program)(w:World) :
 (results E tmps).run P w=.ok (.tuple #[tmps.getD i undef,tmps.getD j undef,tmps.getD k undef,tmps.getD p undef,tmps.getD q undef]) w:=by
 simp[results,h]
theorem D0{I:Func}{fr:List HP}{p q:Nat}{u x y z:Value}(m:List HP)(J:I.results=#[.tmp i,.tmp j,.tmp k,.tmp p,.tmp q])(K:look i ts=some u)(O:look j ts=some v)(T:look k ts=some x)(Y:look p ts=some y)(hz:look q ts=some z)(hR:R (.tuple #[u,v,x,y,z]) m)(hm:Ent l (m++fr)):At E n [] ts l (nt P I E fr R .ret):=λ_ _ f hw=>
 ⟨f.defers,_,by rw[yx J,fQ (f.get i u K),fQ (f.get j v O),fQ (f.get k x T),fQ (f.get p y Y),fQ (f.get q z hz)],_,m,rfl,hR,hw.ent hm⟩
end Go.SL
namespace FR
def oRun:Option Ac->Int
 |none=>-1
 |some b=>b.run
def Mf:Option Ac->Int
 |none=>-1
 |some b=>b.node
def Me:Option Ac->Bool
 |none=>false
 |some b=>b.sign
def MG:Option Ac->Nat
 |none=>0
 |some b=>b.due
def oSeq:Option Ac->Nat
 |none=>0
 |some b=>b.seq
def Et{r:Rn}(hi:M.runs[i]?=some r):M.actsN (i+1)=M.actsN i++r.acts i:=by
 unfold En.actsN;rw[List.range_succ,List.flatMap_append];simp[hi]
theorem vz{l:List St}(E:l[k]?=some s):ll i l (k+1)=ll i l k++s.acts i k:=by
 unfold ll;rw[List.range_succ,List.flatMap_append];simp[E]
theorem lK{b a:Ac}(h:a.lt b):pick (some b) a=some a:=if_pos h
def kh{b a:Ac}(h:¬a.lt b):pick (some b) a=some b:=if_neg h
end FR
namespace Go.Y
open Go.Proofs Tryz
open Go Go.RowKit Go.SL
abbrev rF(o:Option FR.Ac):List (Nat×Value):=[(11,aA (FR.oSeq o)),(10,cd (FR.MG o)),(9,.bool (FR.Me o)),(8,aA (FR.Mf o)),(7,aA (FR.oRun o))]
abbrev bestV(o:Option FR.Ac):Value:=.tuple #[aA (FR.oRun o),aA (FR.Mf o),.bool (FR.Me o),cd (FR.MG o),aA (FR.oSeq o)]
theorem Bd(h:M.runs.length<=100)(NU:∀u∈M.runs,u.NN.length<=100):dz G 79 [aY e] [aZ e a ns M] λv m=>v=bestV M.first/\m=[aZ e a ns M]:=by
 refine bz func79 Z λE fr hE=>ae<|sS<|sA Z<|sA Z<|sA Z<|sA Z<|sB Z<|sS<|sB Z<|sS<|sB Z<|sS<|sB Z<|sS<|sB Z<|sS<|sB Z<|sQ<|sS<|sA Z<|ap<|sT<|ai<|aO (X:=Nat×Option FR.Ac) (λx=>(12,aA x.1)::(0,aY e)::rF x.2) (λ_=>aZ e a ns M::fr) (λx=>x.1<=M.runs.length/\x.2=(M.actsN x.1).foldl FR.pick none) (λx=>M.runs.length-x.1) (0,none) ⟨Nat.zero_le _,rfl⟩ bW aQ ?_
 rintro⟨i,o⟩ ⟨hi,ho⟩;replace hi:i<=M.runs.length:=hi;replace ho:o=(M.actsN i).foldl FR.pick none:=ho;refine sQ<|bp Z<|cE 2 Z Z<|bF (au (v:=kv a M) Z) (ck Z)<|sP (bh Z Z)<|sP (bq Z Z Z)<|sN ?_
 refine aC Z (λt6=>?_) λt6=>?_
 ·have f9:i<M.runs.length:=by have:(i:Int)<(M.runs.length:Int):=t6;omega
  obtain⟨u,hu⟩:∃u,M.runs[i]?=some u:=⟨M.runs[i],by simp[f9]⟩;have N2:=NU u (cg hu);have LT:=FR.Et hu;refine bA (p:=∃g,a.rg=some g) (λw hw=>iJ hu hw) λ⟨gr,hg⟩=>?_;refine aa<|sT<|sQ<|ai<|sS<|cE 2 Z Z<|bF (au (v:=dQ gr M.runs.length a.rc) Z) (dY hg)<|bY Z (aV (z:=8) Z Z Z Z f9)<|bF (bR (vs:=iD (a.ra u.id) u) Z) (lW hu hg)<|sO (cO (z:=.agg #[cd 0,aA 0,cB,aA 0,cd 0,aA 0,cB,aA 0]) Z λI=>?_)
  refine sO<|bk (vs:=iD (a.ra u.id) u) Z (m:=8) Z Z Z Z eG (by show 0+8<=8;omega) ?_
  refine aB I (iD (a.ra u.id) u).toArray Z<|sN<|sQ<|sS<|bm 3 Z<|bF (au (v:=aA u.state) Z) (ah Z)<|sP (cy Z Z Z)<|sN<|aC Z (λt7=>?_) λt7=>?_
  ·have f7:u.state≠1:=t7;refine aM<|aw<|aq<|sT<|sG<|bY Z (dM Z Z)<|sA Z<|ap ?_
   have NT:u.acts i=[]:=if_neg f7;exact aH (i+1,o) ⟨f9,by show o=_;rw[LT,List.foldl_append,<-ho,NT];rfl⟩ (by show M.runs.length-(i+1)<M.runs.length-i;omega) bW Ent.drop
  ·have f7:u.state=1:=Decidable.not_not.1 t7;obtain⟨hd,d7⟩:∃hd:FR.Ac,hd=⟨i,-1,false,u.till,u.tillAt⟩:=⟨_,rfl⟩;refine aa<|sT<|sQ<|cu (X:=FR.Ac) (λc=>(13,aY I)::(12,aA i)::(0,aY e)::rF (some c)) (λ_=>blk I 77 (iD (a.ra u.id) u).toArray::aZ e a ns M::fr) (λc=>FR.pick o hd=some c) ?_ ?_
   ·refine sQ<|cu (X:=Bool) (λb=>(54,.bool b)::(13,aY I)::(12,aA i)::(0,aY e)::rF o) (λ_=>blk I 77 (iD (a.ra u.id) u).toArray::aZ e a ns M::fr) (λb=>FR.pick o hd=if b=true then some hd else o) ?_ ?_
    ·by_cases hO:o=none
     ·subst hO;refine sG<|bY Z (bq (r:=true) Z Z Z)<|sM Z<|aR Z<|aR Z<|aR Z<|aR Z<|sP (aF Z Z Z)<|sM Z<|aR Z<|aR Z<|aR Z<|aR Z<|aR Z<|fj Z<|fj Z<|fj Z<|fj Z<|aR Z<|sP (aF Z Z Z)<|ap<|aT true (by rfl) bW aQ
     ·obtain⟨T,rfl⟩:∃T,o=some T:=Option.ne_none_iff_exists'.1 hO
      by_cases h1:u.till<T.due
      ·refine sG<|bY Z (cK Z Z (by show ¬((T.run:Nat):Int)<0;omega))<|sM Z<|bO (bd 4 Z)<|fM (au (v:=aU u.till) Z) (ah Z)<|cN Z<|bO (g8 Z Z (by show(u.till:Int)<(T.due:Int);omega))<|sP (aF Z Z Z)<|sM Z<|aR Z<|aR Z<|aR Z<|aR Z<|aR Z<|fj Z<|fj Z<|fj Z<|fj Z<|aR Z<|sP (aF Z Z Z)<|ap<|aT true (by rw[if_pos rfl];exact FR.lK (by rw[d7];exact .inl h1)) bW aQ
      ·by_cases h2:u.till=T.due
       ·by_cases h3:u.tillAt<T.seq
        ·refine sG<|bY Z (cK Z Z (by show ¬((T.run:Nat):Int)<0;omega))<|sM Z<|bO (bd 4 Z)<|fM (au (v:=aU u.till) Z) (ah Z)<|cN Z<|bO (cK Z Z (by show ¬(u.till:Int)<(T.due:Int);omega))<|sP (aF Z Z Z)<|sM Z<|bO (bd 4 Z)<|fM (au (v:=aU u.till) Z) (ah Z)<|cN Z<|bO (dg Z Z (by show(u.till:Int)=(T.due:Int);omega))<|cN Z<|bO (bd 5 Z)<|fM (au (v:=aA (u.tillAt:Int)) Z) (ah Z)<|cN Z<|bO (g8 Z Z (by show(u.tillAt:Int)<(T.seq:Int);omega))<|bO (aF Z Z Z)<|sP (aF Z Z Z)<|ap<|aT true (by rw[if_pos rfl];exact FR.lK (by rw[d7];exact .inr ⟨h2,h3⟩)) bW aQ
        ·refine sG<|bY Z (cK Z Z (by show ¬((T.run:Nat):Int)<0;omega))<|sM Z<|bO (bd 4 Z)<|fM (au (v:=aU u.till) Z) (ah Z)<|cN Z<|bO (cK Z Z (by show ¬(u.till:Int)<(T.due:Int);omega))<|sP (aF Z Z Z)<|sM Z<|bO (bd 4 Z)<|fM (au (v:=aU u.till) Z) (ah Z)<|cN Z<|bO (dg Z Z (by show(u.till:Int)=(T.due:Int);omega))<|cN Z<|bO (bd 5 Z)<|fM (au (v:=aA (u.tillAt:Int)) Z) (ah Z)<|cN Z<|bO (cK Z Z (by show ¬(u.tillAt:Int)<(T.seq:Int);omega))<|bO (aF Z Z Z)<|sP (aF Z Z Z)<|ap<|aT false (by rw[if_neg fh];exact FR.kh (by rw[d7];rintro(h|h);exact h1 h;exact h3 h.2)) bW aQ
       ·refine sG<|bY Z (cK Z Z (by show ¬((T.run:Nat):Int)<0;omega))<|sM Z<|bO (bd 4 Z)<|fM (au (v:=aU u.till) Z) (ah Z)<|cN Z<|bO (cK Z Z (by show ¬(u.till:Int)<(T.due:Int);omega))<|sP (aF Z Z Z)<|sM Z<|bO (bd 4 Z)<|fM (au (v:=aU u.till) Z) (ah Z)<|cN Z<|bO (eE Z Z (by show ¬(u.till:Int)=(T.due:Int);omega))<|cN Z<|aR Z<|aR Z<|aR Z<|aR Z<|bO (aF Z Z Z)<|sP (aF Z Z Z)<|ap<|aT false (by rw[if_neg fh];exact FR.kh (by rw[d7];rintro(h|h);exact h1 h;exact h2 h.1)) bW aQ
    intro b hb;refine cf Z (λt8=>?_) λt8=>?_
    ·refine sZ Z<|ea Z Z<|bB Z (bd 4 Z)<|bN Z (au (v:=aU u.till) Z) (ah Z)<|bB Z (bd 5 Z)<|bN Z (au (v:=aA (u.tillAt:Int)) Z) (ah Z)<|bB Z (aX Z)<|bB Z (aX Z)<|bB Z (aX Z)<|bB Z (aX Z)<|bB Z (aX Z)<|dE<|aT hd (by rw[hb,if_pos t8]) (by rw[d7];exact bW) aQ
    ·rw[if_neg (by rw[t8];decide)]at hb;obtain⟨c1,rfl⟩:∃c1,o=some c1:=by
      cases o with
      |none=>cases hb
      |some c1=>exact⟨c1,rfl⟩
     exact aa<|aT c1 hb bW aQ
   intro c0 NV;refine sS<|sB Z<|ai<|aO (X:=Nat×FR.Ac) (λx=>(14,aA x.1)::(13,aY I)::(12,aA i)::(0,aY e)::rF (some x.2)) (λ_=>blk I 77 (iD (a.ra u.id) u).toArray::aZ e a ns M::fr) (λx=>x.1<=u.NN.length/\some x.2=(FR.ll i u.NN x.1).foldl FR.pick (some c0)) (λx=>u.NN.length-x.1) (0,c0) ⟨Nat.zero_le _,rfl⟩ bW aQ ?_
   rintro⟨k,b⟩ ⟨hk,f8⟩;replace hk:k<=u.NN.length:=hk;replace f8:some b=(FR.ll i u.NN k).foldl FR.pick (some c0):=f8;refine sQ<|bp Z<|bm 6 Z<|bF (au (v:=jV (a.ra u.id) u) Z) (ah Z)<|sP (bh Z Z)<|sP (bq Z Z Z)<|sN<|aC Z (λwf=>?_) λwf=>?_
   ·have Fd:k<u.NN.length:=by have:(k:Int)<(u.NN.length:Int):=wf;omega
    obtain⟨s,hs⟩:∃s,u.NN[k]?=some s:=⟨u.NN[k],by simp[Fd]⟩;have NY:=FR.vz (i:=i) hs;obtain⟨a1,K⟩:∃a1:FR.Ac,a1=⟨i,(k:Int),false,s.fin,s.finAt⟩:=⟨_,rfl⟩;obtain⟨a2,d8⟩:∃a2:FR.Ac,a2=⟨i,(k:Int),true,s.sign,s.signAt⟩:=⟨_,rfl⟩;have NZ:s.acts i k=(if s.state=3\/s.state=4 then[a1] else[])++if s.state=3/\0<s.sign then[a2] else[]:=by rw[K,d8];rfl
    refine aa<|sT<|sQ<|cu (X:=FR.Ac) (λx=>(14,aA k)::(13,aY I)::(12,aA i)::(0,aY e)::rF (some x)) (λ_=>blk I 77 (iD (a.ra u.id) u).toArray::aZ e a ns M::fr) (λx=>(s.acts i k).foldl FR.pick (some b)=some x) ?_ ?_
    ·refine ai<|sS<|bm 6 Z<|bF (au (v:=jV (a.ra u.id) u) Z) (ah Z)<|bY Z (aV (z:=7) Z Z Z Z Fd)<|bF (bR (vs:=sU s) Z) (s9 hu Z hs)<|sO (cO (z:=.agg #[aA 0,aA 0,cd 0,cd 0,cd 0,aA 0,aA 0]) Z λd6=>?_)
     refine sO<|bk (vs:=sU s) Z (m:=7) Z Z Z Z eG (by show 0+7<=7;omega) ?_
     refine aB d6 (sU s).toArray Z ?_;have N3:∀x:Nat,FR.MG (some b)=x<->b.due=x:=λ_=>Iff.rfl;refine sN<|sQ<|cu (X:=FR.Ac) (λx=>(15,aY d6)::(14,aA k)::(13,aY I)::(12,aA i)::(0,aY e)::rF (some x)) (λ_=>blk d6 125 (sU s).toArray::blk I 77 (iD (a.ra u.id) u).toArray::aZ e a ns M::fr) (λx=>(if s.state=3\/s.state=4 then FR.pick (some b) a1 else some b)=some x) ?_ ?_
     ·refine sQ<|cu (X:=Bool) (λx=>(97,.bool x)::(15,aY d6)::(14,aA k)::(13,aY I)::(12,aA i)::(0,aY e)::rF (some b)) (λ_=>blk d6 125 (sU s).toArray::blk I 77 (iD (a.ra u.id) u).toArray::aZ e a ns M::fr) (λx=>(if s.state=3\/s.state=4 then FR.pick (some b) a1 else some b)=if x=true then some a1 else some b) ?_ ?_
      ·by_cases J:s.state=3
       ·by_cases h1:s.fin<b.due
        ·refine sG<|bm 0 Z<|bF (au (v:=aA s.state) Z) (ah Z)<|sP (dg Z Z J)<|sM Z<|aR Z<|aR Z<|aR Z<|sP (aF Z Z Z)<|sM Z<|bO (bd 3 Z)<|fM (au (v:=aU s.fin) Z) (ah Z)<|cN Z<|bO (g8 Z Z (by show(s.fin:Int)<(b.due:Int);omega))<|cN Z<|aR Z<|aR Z<|aR Z<|aR Z<|aR Z<|fj Z<|fj Z<|fj Z<|fj Z<|aR Z<|bO (aF Z Z Z)<|sP (aF Z Z Z)<|ap<|aT true (by rw[if_pos (.inl J),if_pos rfl];exact FR.lK (by rw[K];exact .inl h1)) bW aQ
        ·by_cases h2:s.fin=b.due
         ·by_cases h3:s.finAt<b.seq
          ·refine sG<|bm 0 Z<|bF (au (v:=aA s.state) Z) (ah Z)<|sP (dg Z Z J)<|sM Z<|aR Z<|aR Z<|aR Z<|sP (aF Z Z Z)<|sM Z<|bO (bd 3 Z)<|fM (au (v:=aU s.fin) Z) (ah Z)<|cN Z<|bO (cK Z Z (by show ¬(s.fin:Int)<(b.due:Int);omega))<|cN Z<|bO (bd 3 Z)<|fM (au (v:=aU s.fin) Z) (ah Z)<|cN Z<|bO (dg Z Z (by show(s.fin:Int)=(b.due:Int);omega))<|cN Z<|bO (bd 5 Z)<|fM (au (v:=aA (s.finAt:Int)) Z) (ah Z)<|cN Z<|bO (g8 Z Z (by show(s.finAt:Int)<(b.seq:Int);omega))<|bO (aF Z Z Z)<|bO (aF Z Z Z)<|sP (aF Z Z Z)<|ap<|aT true (by rw[if_pos (.inl J),if_pos rfl];exact FR.lK (by rw[K];exact .inr ⟨h2,h3⟩)) bW aQ
          ·refine sG<|bm 0 Z<|bF (au (v:=aA s.state) Z) (ah Z)<|sP (dg Z Z J)<|sM Z<|aR Z<|aR Z<|aR Z<|sP (aF Z Z Z)<|sM Z<|bO (bd 3 Z)<|fM (au (v:=aU s.fin) Z) (ah Z)<|cN Z<|bO (cK Z Z (by show ¬(s.fin:Int)<(b.due:Int);omega))<|cN Z<|bO (bd 3 Z)<|fM (au (v:=aU s.fin) Z) (ah Z)<|cN Z<|bO (dg Z Z (by show(s.fin:Int)=(b.due:Int);omega))<|cN Z<|bO (bd 5 Z)<|fM (au (v:=aA (s.finAt:Int)) Z) (ah Z)<|cN Z<|bO (cK Z Z (by show ¬(s.finAt:Int)<(b.seq:Int);omega))<|bO (aF Z Z Z)<|bO (aF Z Z Z)<|sP (aF Z Z Z)<|ap<|aT false (by rw[if_pos (.inl J),if_neg fh];exact FR.kh (by rw[K];rintro(h|h);exact h1 h;exact h3 h.2)) bW aQ
         ·refine sG<|bm 0 Z<|bF (au (v:=aA s.state) Z) (ah Z)<|sP (dg Z Z J)<|sM Z<|aR Z<|aR Z<|aR Z<|sP (aF Z Z Z)<|sM Z<|bO (bd 3 Z)<|fM (au (v:=aU s.fin) Z) (ah Z)<|cN Z<|bO (cK Z Z (by show ¬(s.fin:Int)<(b.due:Int);omega))<|cN Z<|bO (bd 3 Z)<|fM (au (v:=aU s.fin) Z) (ah Z)<|cN Z<|bO (eE Z Z (by show ¬(s.fin:Int)=(b.due:Int);omega))<|cN Z<|aR Z<|aR Z<|aR Z<|aR Z<|bO (aF Z Z Z)<|bO (aF Z Z Z)<|sP (aF Z Z Z)<|ap<|aT false (by rw[if_pos (.inl J),if_neg fh];exact FR.kh (by rw[K];rintro(h|h);exact h1 h;exact h2 h.1)) bW aQ
       ·by_cases Y:s.state=4
        ·by_cases h1:s.fin<b.due
         ·refine sG<|bm 0 Z<|bF (au (v:=aA s.state) Z) (ah Z)<|sP (eE Z Z J)<|sM Z<|bO (bd 0 Z)<|fM (au (v:=aA s.state) Z) (ah Z)<|bO (dg Z Z Y)<|sP (aF Z Z Z)<|sM Z<|bO (bd 3 Z)<|fM (au (v:=aU s.fin) Z) (ah Z)<|cN Z<|bO (g8 Z Z (by show(s.fin:Int)<(b.due:Int);omega))<|cN Z<|aR Z<|aR Z<|aR Z<|aR Z<|aR Z<|fj Z<|fj Z<|fj Z<|fj Z<|aR Z<|bO (aF Z Z Z)<|sP (aF Z Z Z)<|ap<|aT true (by rw[if_pos (.inr Y),if_pos rfl];exact FR.lK (by rw[K];exact .inl h1)) bW aQ
         ·by_cases h2:s.fin=b.due
          ·by_cases h3:s.finAt<b.seq
           ·refine sG<|bm 0 Z<|bF (au (v:=aA s.state) Z) (ah Z)<|sP (eE Z Z J)<|sM Z<|bO (bd 0 Z)<|fM (au (v:=aA s.state) Z) (ah Z)<|bO (dg Z Z Y)<|sP (aF Z Z Z)<|sM Z<|bO (bd 3 Z)<|fM (au (v:=aU s.fin) Z) (ah Z)<|cN Z<|bO (cK Z Z (by show ¬(s.fin:Int)<(b.due:Int);omega))<|cN Z<|bO (bd 3 Z)<|fM (au (v:=aU s.fin) Z) (ah Z)<|cN Z<|bO (dg Z Z (by show(s.fin:Int)=(b.due:Int);omega))<|cN Z<|bO (bd 5 Z)<|fM (au (v:=aA (s.finAt:Int)) Z) (ah Z)<|cN Z<|bO (g8 Z Z (by show(s.finAt:Int)<(b.seq:Int);omega))<|bO (aF Z Z Z)<|bO (aF Z Z Z)<|sP (aF Z Z Z)<|ap<|aT true (by rw[if_pos (.inr Y),if_pos rfl];exact FR.lK (by rw[K];exact .inr ⟨h2,h3⟩)) bW aQ
           ·refine sG<|bm 0 Z<|bF (au (v:=aA s.state) Z) (ah Z)<|sP (eE Z Z J)<|sM Z<|bO (bd 0 Z)<|fM (au (v:=aA s.state) Z) (ah Z)<|bO (dg Z Z Y)<|sP (aF Z Z Z)<|sM Z<|bO (bd 3 Z)<|fM (au (v:=aU s.fin) Z) (ah Z)<|cN Z<|bO (cK Z Z (by show ¬(s.fin:Int)<(b.due:Int);omega))<|cN Z<|bO (bd 3 Z)<|fM (au (v:=aU s.fin) Z) (ah Z)<|cN Z<|bO (dg Z Z (by show(s.fin:Int)=(b.due:Int);omega))<|cN Z<|bO (bd 5 Z)<|fM (au (v:=aA (s.finAt:Int)) Z) (ah Z)<|cN Z<|bO (cK Z Z (by show ¬(s.finAt:Int)<(b.seq:Int);omega))<|bO (aF Z Z Z)<|bO (aF Z Z Z)<|sP (aF Z Z Z)<|ap<|aT false (by rw[if_pos (.inr Y),if_neg fh];exact FR.kh (by rw[K];rintro(h|h);exact h1 h;exact h3 h.2)) bW aQ
          ·refine sG<|bm 0 Z<|bF (au (v:=aA s.state) Z) (ah Z)<|sP (eE Z Z J)<|sM Z<|bO (bd 0 Z)<|fM (au (v:=aA s.state) Z) (ah Z)<|bO (dg Z Z Y)<|sP (aF Z Z Z)<|sM Z<|bO (bd 3 Z)<|fM (au (v:=aU s.fin) Z) (ah Z)<|cN Z<|bO (cK Z Z (by show ¬(s.fin:Int)<(b.due:Int);omega))<|cN Z<|bO (bd 3 Z)<|fM (au (v:=aU s.fin) Z) (ah Z)<|cN Z<|bO (eE Z Z (by show ¬(s.fin:Int)=(b.due:Int);omega))<|cN Z<|aR Z<|aR Z<|aR Z<|aR Z<|bO (aF Z Z Z)<|bO (aF Z Z Z)<|sP (aF Z Z Z)<|ap<|aT false (by rw[if_pos (.inr Y),if_neg fh];exact FR.kh (by rw[K];rintro(h|h);exact h1 h;exact h2 h.1)) bW aQ
        ·refine sG<|bm 0 Z<|bF (au (v:=aA s.state) Z) (ah Z)<|sP (eE Z Z J)<|sM Z<|bO (bd 0 Z)<|fM (au (v:=aA s.state) Z) (ah Z)<|bO (eE Z Z Y)<|sP (aF Z Z Z)<|sM Z<|aR Z<|aR Z<|aR Z<|aR Z<|aR Z<|fj Z<|fj Z<|fj Z<|fj Z<|fj Z<|fj Z<|fj Z<|fj Z<|fj Z<|fj Z<|aR Z<|sP (aF Z Z Z)<|ap<|aT false (by rw[if_neg (by rintro(h|h);exact J h;exact Y h)];rfl) bW aQ
      intro x1 In;refine cf Z (λBT=>?_) λBT=>?_
      ·refine sZ Z<|ea Z Z<|cC Z Z<|bB Z (bd 3 Z)<|bN Z (au (v:=aU s.fin) Z) (ah Z)<|bB Z (bd 5 Z)<|bN Z (au (v:=aA (s.finAt:Int)) Z) (ah Z)<|bB Z (aX Z)<|bB Z (aX Z)<|bB Z (aX Z)<|bB Z (aX Z)<|bB Z (aX Z)<|dE<|aT a1 (by rw[In,if_pos BT]) (by rw[K];exact bW) aQ
      ·refine aa<|aT b (by rw[In,if_neg (by rw[BT];decide)]) bW aQ
     intro O NW;refine sQ<|cu (X:=Bool) (λx=>(129,.bool x)::(15,aY d6)::(14,aA k)::(13,aY I)::(12,aA i)::(0,aY e)::rF (some O)) (λ_=>blk d6 125 (sU s).toArray::blk I 77 (iD (a.ra u.id) u).toArray::aZ e a ns M::fr) (λx=>(if s.state=3/\0<s.sign then FR.pick (some O) a2 else some O)=if x=true then some a2 else some O) ?_ ?_
     ·by_cases J:s.state=3
      ·by_cases Y:0<s.sign
       ·by_cases h1:s.sign<O.due
        ·refine sG<|bm 0 Z<|bF (au (v:=aA s.state) Z) (ah Z)<|sP (dg Z Z J)<|sM Z<|bO (bd 4 Z)<|fM (au (v:=aU s.sign) Z) (ah Z)<|bO (iT Z Z am)<|sP (aF Z Z Z)<|sM Z<|bO (bd 4 Z)<|fM (au (v:=aU s.sign) Z) (ah Z)<|cN Z<|bO (g8 Z Z (by show(s.sign:Int)<(O.due:Int);omega))<|cN Z<|aR Z<|aR Z<|aR Z<|aR Z<|aR Z<|fj Z<|fj Z<|fj Z<|fj Z<|aR Z<|bO (aF Z Z Z)<|sP (aF Z Z Z)<|ap<|aT true (by rw[if_pos ⟨J,Y⟩,if_pos rfl];exact FR.lK (by rw[d8];exact .inl h1)) bW aQ
        ·by_cases h2:s.sign=O.due
         ·by_cases h3:s.signAt<O.seq
          ·refine sG<|bm 0 Z<|bF (au (v:=aA s.state) Z) (ah Z)<|sP (dg Z Z J)<|sM Z<|bO (bd 4 Z)<|fM (au (v:=aU s.sign) Z) (ah Z)<|bO (iT Z Z am)<|sP (aF Z Z Z)<|sM Z<|bO (bd 4 Z)<|fM (au (v:=aU s.sign) Z) (ah Z)<|cN Z<|bO (cK Z Z (by show ¬(s.sign:Int)<(O.due:Int);omega))<|cN Z<|bO (bd 4 Z)<|fM (au (v:=aU s.sign) Z) (ah Z)<|cN Z<|bO (dg Z Z (by show(s.sign:Int)=(O.due:Int);omega))<|cN Z<|bO (bd 6 Z)<|fM (au (v:=aA (s.signAt:Int)) Z) (ah Z)<|cN Z<|bO (g8 Z Z (by show(s.signAt:Int)<(O.seq:Int);omega))<|bO (aF Z Z Z)<|bO (aF Z Z Z)<|sP (aF Z Z Z)<|ap<|aT true (by rw[if_pos ⟨J,Y⟩,if_pos rfl];exact FR.lK (by rw[d8];exact .inr ⟨h2,h3⟩)) bW aQ
          ·refine sG<|bm 0 Z<|bF (au (v:=aA s.state) Z) (ah Z)<|sP (dg Z Z J)<|sM Z<|bO (bd 4 Z)<|fM (au (v:=aU s.sign) Z) (ah Z)<|bO (iT Z Z am)<|sP (aF Z Z Z)<|sM Z<|bO (bd 4 Z)<|fM (au (v:=aU s.sign) Z) (ah Z)<|cN Z<|bO (cK Z Z (by show ¬(s.sign:Int)<(O.due:Int);omega))<|cN Z<|bO (bd 4 Z)<|fM (au (v:=aU s.sign) Z) (ah Z)<|cN Z<|bO (dg Z Z (by show(s.sign:Int)=(O.due:Int);omega))<|cN Z<|bO (bd 6 Z)<|fM (au (v:=aA (s.signAt:Int)) Z) (ah Z)<|cN Z<|bO (cK Z Z (by show ¬(s.signAt:Int)<(O.seq:Int);omega))<|bO (aF Z Z Z)<|bO (aF Z Z Z)<|sP (aF Z Z Z)<|ap<|aT false (by rw[if_pos ⟨J,Y⟩,if_neg fh];exact FR.kh (by rw[d8];rintro(h|h);exact h1 h;exact h3 h.2)) bW aQ
         ·refine sG<|bm 0 Z<|bF (au (v:=aA s.state) Z) (ah Z)<|sP (dg Z Z J)<|sM Z<|bO (bd 4 Z)<|fM (au (v:=aU s.sign) Z) (ah Z)<|bO (iT Z Z am)<|sP (aF Z Z Z)<|sM Z<|bO (bd 4 Z)<|fM (au (v:=aU s.sign) Z) (ah Z)<|cN Z<|bO (cK Z Z (by show ¬(s.sign:Int)<(O.due:Int);omega))<|cN Z<|bO (bd 4 Z)<|fM (au (v:=aU s.sign) Z) (ah Z)<|cN Z<|bO (eE Z Z (by show ¬(s.sign:Int)=(O.due:Int);omega))<|cN Z<|aR Z<|aR Z<|aR Z<|aR Z<|bO (aF Z Z Z)<|bO (aF Z Z Z)<|sP (aF Z Z Z)<|ap<|aT false (by rw[if_pos ⟨J,Y⟩,if_neg fh];exact FR.kh (by rw[d8];rintro(h|h);exact h1 h;exact h2 h.1)) bW aQ
       ·refine sG<|bm 0 Z<|bF (au (v:=aA s.state) Z) (ah Z)<|sP (dg Z Z J)<|sM Z<|bO (bd 4 Z)<|fM (au (v:=aU s.sign) Z) (ah Z)<|bO (mN Z Z am)<|sP (aF Z Z Z)<|sM Z<|aR Z<|aR Z<|aR Z<|aR Z<|aR Z<|fj Z<|fj Z<|fj Z<|fj Z<|fj Z<|fj Z<|fj Z<|fj Z<|fj Z<|fj Z<|aR Z<|sP (aF Z Z Z)<|ap<|aT false (by rw[if_neg λh=>Y h.2];rfl) bW aQ
      ·refine sG<|bm 0 Z<|bF (au (v:=aA s.state) Z) (ah Z)<|sP (eE Z Z J)<|sM Z<|aR Z<|aR Z<|aR Z<|sP (aF Z Z Z)<|sM Z<|aR Z<|aR Z<|aR Z<|aR Z<|aR Z<|fj Z<|fj Z<|fj Z<|fj Z<|fj Z<|fj Z<|fj Z<|fj Z<|fj Z<|fj Z<|aR Z<|sP (aF Z Z Z)<|ap<|aT false (by rw[if_neg λh=>J h.1];rfl) bW aQ
     intro x2 LE;have mt:(s.acts i k).foldl FR.pick (some b)=if s.state=3/\0<s.sign then FR.pick (some O) a2 else some O:=by
      rw[NZ,List.foldl_append];have e1:(if s.state=3\/s.state=4 then[a1] else[]).foldl FR.pick (some b)=some O:=by rw[<-NW];split<;>rfl
      rw[e1]
      split<;>rfl
     refine cf Z (λd9=>?_) λd9=>?_
     ·refine sZ Z<|ea Z Z<|cC Z Z<|bB Z (bd 4 Z)<|bN Z (au (v:=aU s.sign) Z) (ah Z)<|bB Z (bd 6 Z)<|bN Z (au (v:=aA (s.signAt:Int)) Z) (ah Z)<|bB Z (aX Z)<|bB Z (aX Z)<|bB Z (aX Z)<|bB Z (aX Z)<|bB Z (aX Z)<|dE<|al<|aT a2 (by rw[mt,LE,if_pos d9]) (by rw[d8];exact bW) Ent.drop
     ·refine aa<|al<|aT O (by rw[mt,LE,if_neg (by rw[d9];decide)]) bW Ent.drop
    intro b2 NX;refine sG<|bY Z (dM Z Z)<|sA Z<|ap<|aH (k+1,b2) ⟨Fd,by
     show some b2=_;rw[NY,List.foldl_append,<-f8,NX]⟩ (by show u.NN.length-(k+1)<u.NN.length-k;omega) ⟨rfl,rfl,rfl,rfl,rfl,rfl,rfl,rfl,rfl,trivial⟩ aQ
   ·have N0:k=u.NN.length:=by have:¬(k:Int)<(u.NN.length:Int):=wf;omega
    refine aM<|aw<|az<|aq<|al<|sT<|sG<|bY Z (dM Z Z)<|sA Z<|ap<|aH (i+1,some b) ⟨f9,by
     show some b=_;have e1:u.acts i=hd::FR.ll i u.NN u.NN.length:=by rw[d7];exact if_pos f7
     rw[LT,List.foldl_append,<-ho,e1,List.foldl_cons,NV,<-N0];exact f8⟩ (by show M.runs.length-(i+1)<M.runs.length-i;omega) ⟨rfl,rfl,rfl,rfl,rfl,rfl,rfl,trivial⟩ Ent.drop
 ·have N1:i=M.runs.length:=by have:¬(i:Int)<(M.runs.length:Int):=t6;omega
  refine aM<|aw<|az<|aq<|sT<|bp Z<|sM Z<|sM Z<|sM Z<|sM Z<|sA Z<|sA Z<|sA Z<|sA Z<|sB Z<|an<|D0 [aZ e a ns M] rfl Z Z Z Z Z ⟨by rw[ho,N1];rfl,rfl⟩ aQ
section
variable{M':FR.En}
def yd{f:FK.Flow}(h:FK.Fit f):vK f:=λnd hnd x E=>by
 obtain⟨i,hi⟩:=List.getElem?_of_mem hnd;have I:=(h.NO i nd (gfGet.1 hi).1 hi).2;have:∀(l:List Int) (p:Int),-1<=p->FK.EdgesOk f.NO.length p l->∀x∈l,0<=x/\x<f.NO.length:=by
  intro l
  induction l with
  |nil=>intro _ _ _ x E;cases E
  |cons y l J=>
   intro p T h x E;obtain⟨K,O,h3⟩:=h;rcases List.mem_cons.1 E with rfl|E
   ·omega
   ·exact J y am h3 x E
 exact this _ _ am I x E
def fv(h:FR.Fine M):∀u∈M.runs,u.NN.length<=100:=λu E=>by
 have I:=(h.fit u E).2;have J:=(h.fit u E).1.head.2.2;omega
def rN{nd:FK.Node}(h:FR.Fine M)(hi:M.runs[i]?=some u)(J:u.NN[k]?=some s)(hnd:u.fl.NO[k]?=some nd):dz G 77 [aY e,aA i,aA k] [aZ e a ns M,bx ns] λv m=>v=.tuple #[]/\∃g c,m=[aZ e (a.q g c) ns (M.fails i k u s nd),bx ns]:=by
 have K:=cg hi;obtain⟨E,T⟩:=h.fit u K;have ho:=(E.NO k nd (gfGet.1 hnd).1 hnd).1;obtain⟨h1,h2,h3,h4,Y,h6,h7⟩:=ho;have O:=Y;have hc:=h6;have I:=h7;unfold FK.span at O hc I;have d6:=h.NM u K s (cg J);exact Be hi J hnd T (yd E) E.head.2.2 O.1 hc.1 hc.2 I.1 I.2 ⟨am,am⟩ h.seed h.time (by have:=h.timers;omega) (by have:=h.ends;omega) (by have:=h.NP;omega)
def uS(h:FR.Ticks i n M M')(E:∀b,M.first=some b->i<b.due):M'={M with time:=i}:=by
 cases h with
 |done _ _=>rfl
 |step _ I J _ _ _=>have:=E _ I;omega
def CI{b:FR.Ac}(h:FR.Ticks i n M M')(I:M.first=some b)(J:¬i<b.due):∃m,n=m+1/\b.due<=i/\M.time<=b.due/\FR.Ticks i m ({M with time:=b.due}.due b) M':=by
 cases h with
 |done _ h=>exact absurd (h b I) J
 |step _ E K h3 _ O=>
  rw[I]at E;injection E with E;subst E;exact⟨_,rfl,K,h3,O⟩
def CJ(h:FR.Ticks i n M M'):FR.Fine M:=by
 cases h with
 |done h _=>exact h
 |step h _ _ _ _ _=>exact h
def De(ticks:Nat)(hn:ticks<18446744073709551616)(ht:M.time<=4611686018427387904)(hT:FR.Ticks (min (M.time+ticks) 4611686018427387904) n M M'):dz G 42 [aY e,aU ticks] [aZ e a ns M,bx ns] λv m=>v=.tuple #[]/\∃g c,m=[aZ e (a.q g c) ns M',bx ns]:=by
 obtain⟨up,Y⟩:∃up,up=min (M.time+ticks) 4611686018427387904:=⟨_,rfl⟩;rw[<-Y]at hT;refine bz func42 Z λE fr hE=>aE<|sS<|cE 0 Z Z<|bF (au (v:=aU M.time) Z) (ck Z)<|bY Z (bH (r:=(((M.time+ticks)%18446744073709551616:Nat):Int)) Z Z (by rw[li];omega))<|sB Z<|sQ<|cu (X:=Unit) (λ_=>[(4,aU up),(0,aY e)]) (λ_=>aZ e a ns M::bx ns::fr) (λ_=>True) ?_ ?_
 ·refine sQ ?_
  by_cases hw:(M.time+ticks)%18446744073709551616<M.time
  ·refine sG<|sM Z<|cE 0 Z Z<|bF (au (v:=aU M.time) Z) (ck Z)<|sP (g8 Z Z am)<|sM Z<|aR Z<|aR Z<|sP (aF Z Z Z)<|sN<|aK Z<|sG<|sA Z<|ap ?_
   have e1:up=4611686018427387904:=by rw[Y];omega
   exact aT () trivial (by rw[e1];exact bW) aQ
  ·by_cases hm:4611686018427387904<(M.time+ticks)%18446744073709551616
   ·refine sG<|sM Z<|cE 0 Z Z<|bF (au (v:=aU M.time) Z) (ck Z)<|sP (cK Z Z am)<|sM Z<|cN Z<|bO (iT Z Z am)<|sP (aF Z Z Z)<|sN<|aK Z<|sG<|sA Z<|ap ?_
    have e1:up=4611686018427387904:=by rw[Y];omega
    exact aT () trivial (by rw[e1];exact bW) aQ
   ·refine sG<|sM Z<|cE 0 Z Z<|bF (au (v:=aU M.time) Z) (ck Z)<|sP (cK Z Z am)<|sM Z<|cN Z<|bO (mN Z Z am)<|sP (aF Z Z Z)<|sN<|ag Z<|aa ?_
    have e1:up=(M.time+ticks)%18446744073709551616:=by rw[Y];omega
    exact aT () trivial (by rw[e1];exact bW) aQ
 intro _ _;refine sQ<|cu (X:=Option Nat×Nat×FR.En) (λ_=>[(4,aU up),(0,aY e)]) (λx=>aZ e (a.q x.1 x.2.1) ns x.2.2::bx ns::fr) (λx=>M'={x.2.2 with time:=up}) ?_ ?_
 ·refine ai<|aO (X:=Option Nat×Nat×FR.En×Nat) (λ_=>[(4,aU up),(0,aY e)]) (λx=>aZ e (a.q x.1 x.2.1) ns x.2.2.1::bx ns::fr) (λx=>FR.Ticks up x.2.2.2 x.2.2.1 M') (λx=>x.2.2.2) (a.qg,a.qc,M,n) hT bW aQ ?_
  rintro⟨g,c,J,n1⟩ O;replace O:FR.Ticks up n1 J M':=O;have hF:=CJ O;refine ai<|bp Z<|bV Z (Bd hF.runs (fv hF)) aQ<|ae<|sM Z<|bG Z Z<|bG Z Z<|bG Z Z<|bG Z Z<|bG Z Z<|sA Z<|sA Z<|sA Z<|sA Z<|sB Z<|sQ<|sQ ?_
  by_cases hO:J.first=none
  ·rw[hO];refine sG<|bY Z (bq (r:=true) Z Z Z)<|sM Z<|aR Z<|aR Z<|aR Z<|sP (aF Z Z Z)<|sN<|aK Z<|aM<|aw<|er Z<|az<|aq<|aT (g,c,J) (uS O λb h=>by rw[hO]at h;cases h) bW aQ
  ·obtain⟨b,hb⟩:∃b,J.first=some b:=Option.ne_none_iff_exists'.1 hO
   rw[hb]
   by_cases hu:up<b.due
   ·refine sG<|bY Z (cK Z Z (by show ¬((b.run:Nat):Int)<0;omega))<|sM Z<|cN Z<|cN Z<|bO (iT Z Z (by show(up:Int)<(b.due:Int);omega))<|sP (aF Z Z Z)<|sN<|aK Z<|aM<|aw<|er Z<|az<|aq<|aT (g,c,J) (uS O λb' h=>by rw[hb]at h;injection h with h;rw[<-h];exact hu) bW aQ
   ·obtain⟨m,rfl,wf,In,d6⟩:=CI O hb hu;obtain⟨u,hi,BT⟩:=FR.JS hb;refine sG<|bY Z (cK Z Z (by show ¬((b.run:Nat):Int)<0;omega))<|sM Z<|cN Z<|cN Z<|bO (mN Z Z (by show ¬(up:Int)<(b.due:Int);omega))<|sP (aF Z Z Z)<|sN<|ag Z<|aa<|sT<|sQ<|cu (X:=Unit) (λ_=>[(6,aA b.node),(5,aA (b.run:Int)),(4,aU up),(0,aY e)]) (λ_=>aZ e (a.q g c) ns {J with time:=b.due}::bx ns::fr) (λ_=>True) ?_ ?_
    ·refine bp Z<|cE 0 Z Z<|bF (au (v:=aU J.time) Z) (ck Z)<|sP (dX Z Z Z)<|sN<|aC Z (λt6=>?_) λt6=>?_
     ·refine sG<|sM Z<|cE 0 Z Z<|sO<|tO (a:=a.q g c) (M:=J) (M':={J with time:=b.due}) Z Z Z am Z Z Z Z<|ap<|aT () trivial bW aQ
     ·refine aa ?_;have e1:J.time=b.due:=by have h:¬(J.time:Int)<(b.due:Int):=t6;omega
      exact aT () trivial bW (by rw[<-e1];exact aQ)
    intro _ _;obtain⟨K,f7⟩:∃K:FR.En,K={J with time:=b.due}:=⟨_,rfl⟩;rw[<-f7]at d6 ⊢;have I:K.runs[b.run]?=some u:=by rw[f7];exact hi
    have t7:up<=4611686018427387904:=by rw[Y];omega
    have T:FR.Fine K:=by rw[f7];exact⟨hF.runs,hF.fit,hF.NM,hF.NP,hF.seed,Nat.le_trans wf t7,hF.timers,hF.ends⟩
    have Fd:=fv T u (cg I);refine ai<|bp Z<|sP (bq Z Z Z)<|sB Z<|aC Z (λd8=>?_) λd8=>?_
    ·have f9:b.node<0:=d8;refine sG<|sM Z<|sM Z<|bQ Z (oG 5 I (by have:=T.ends;omega) Fd (by have:=T.NP;omega)) aQ ?_
     rintro v m ⟨rfl,g1,c1,rfl⟩;refine ae<|ap<|al<|al ?_
     have e1:K.due b=K.endr b.run u 5:=by unfold FR.En.due;rw[I];exact if_pos f9
     exact aH (g1,c1,K.due b,m) d6 (Nat.lt_succ_self _) bW (by rw[e1];exact aQ)
    ·have f9:¬b.node<0:=d8;obtain⟨s,hs⟩:=BT.resolve_left f9;obtain⟨k,hk⟩:∃k:Nat,b.node=(k:Int):=⟨b.node.toNat,am⟩;rw[hk,Int.toNat_natCast]at hs;have t8:=(gfGet.1 hs).1;obtain⟨nd,hnd⟩:∃nd,u.fl.NO[k]?=some nd:=⟨u.fl.NO[k]'(by rw[<-(T.fit u (cg I)).2];exact t8),by simp⟩;have d7:K.due b=if s.state=4 then K.ready b.run k u s else K.fails b.run k u s nd:=by
      unfold FR.En.due;rw[I];simp only[hk,Int.toNat_natCast,hs,hnd];exact if_neg am
     rw[hk];refine bA (p:=∃g,a.rg=some g) (λw hw=>iJ (a:=a.q g c) I hw) λ⟨gr,hg⟩=>sS<|cE 2 Z Z<|bF (au (v:=dQ gr K.runs.length a.rc) Z) (dY (a:=a.q g c) hg)<|sM Z<|sP (aV (z:=8) Z Z Z Z ((gfGet.1 I).1))<|bm 6 Z<|bF (au (v:=jV (a.ra u.id) u) Z) (cR (a:=a.q g c) (j:=6) I hg Z)<|bY Z (aV (z:=7) Z Z Z Z t8)<|bm 0 Z<|bF (au (v:=aA s.state) Z) (ee (a:=a.q g c) (j:=0) I Z hs Z)<|sP (bc Z Z Z)<|sB Z<|aC Z (λd9=>?_) λd9=>?_
     ·have mt:s.state=4:=d9;refine sG<|sM Z<|sM Z<|sM Z<|bQ Z (rL I hs (by have:=T.NP;omega)) aQ ?_
      rintro v m ⟨rfl,g1,c1,rfl⟩;refine ae<|ap<|al<|al<|aH (g1,c1,K.due b,m) d6 (Nat.lt_succ_self _) bW (by rw[d7,if_pos mt];exact aQ)
     ·have mt:¬s.state=4:=d9;refine sG<|sM Z<|sM Z<|sM Z<|bQ Z (rN T I hs hnd) aQ ?_
      rintro v m ⟨rfl,g1,c1,rfl⟩;refine aE<|ap<|al<|al<|aH (g1,c1,K.due b,m) d6 (Nat.lt_succ_self _) bW (by rw[d7,if_neg mt];exact aQ)
 rintro⟨g,c,J⟩ f8;replace f8:M'={J with time:=up}:=f8;refine sG<|sM Z<|cE 0 Z Z<|sO<|tO (a:=a.q g c) (M:=J) (M':={J with time:=up}) Z Z Z am Z Z Z Z<|ap<|bt [aZ e (a.q g c) ns M',bx ns] rfl ⟨rfl,g,c,rfl⟩ (by rw[f8];exact aQ)
end
end Go.Y
namespace FR
def En.tryOf(M:En)(p:Nat×Int):Int:=match M.getR p.1 with
 |some u=>match u.NN[p.2.toNat]? with
  |some s=>s.NM+1
  |none=>0
 |none=>0
end FR
namespace Go.Y
open Go.Proofs Tryz
open Go Go.RowKit Go.SL
def yw{R:FR.Rn}(h:M.runs.length<=100)(hnd:(M.runs.map (·.id)).Nodup)(hi:M.runs[i]?=some R)(hn:R.NN.length<=100):dz G 21 [aY e,aU R.id] [aZ e a ns M] λv m=>∃K I,v=.tuple #[.agg (cv R.id R.state K I).toArray,aA 0]/\m=[aZ e a ns M,bL K (R.NN.map (·.state)),bL I (R.NN.map (·.NM))]:=by
 have f7:=(gfGet.1 hi).1;refine bz func21 Z λE fr hE=>ae ?_;refine bA (p:=∃g,a.rg=some g) (λw hw=>iJ hi hw) λ⟨gr,hg⟩=>?_;refine sS<|sO (cO (z:=.agg #[cd 0,aA 0,cB,cB]) Z λb4=>(sB Z (sS (sM Z (sM Z ?_)))))
 refine bV Z (tQ h hnd hi) gfE1 ?_;refine ae<|sB Z<|sQ<|bp Z<|sP (cK Z Z am)<|sN<|ag Z<|aa<|sT<|sS<|cE 2 Z Z<|bF (au (v:=dQ gr M.runs.length a.rc) Z) (dY hg) ?_
 refine bY Z (aV (z:=8) Z Z Z Z f7)<|bF (bR (vs:=iD (a.ra R.id) R) Z) (lW hi hg)<|sO (cO (z:=.agg #[cd 0,aA 0,cB,aA 0,cd 0,aA 0,cB,aA 0]) Z λb7=>?_)
 refine sO<|bk (vs:=iD (a.ra R.id) R) Z (m:=8) Z Z Z Z eG (by show 0+8<=8;omega) ?_
 refine aB b7 (iD (a.ra R.id) R).toArray Z<|sN<|bp Z<|bm 3 Z<|bF (au (v:=aA R.state) Z) (ah Z)<|sP (bI (cs:=(cv R.id R.state cB cB).toArray) Z Z Z Z Z)<|sO (cO (z:=.agg #[cd 0,aA 0,cB,cB]) Z λb8=>?_)
 refine sO<|bk (vs:=cv R.id R.state cB cB) Z (m:=4) Z Z Z Z eG (by show 0+4<=4;omega) ?_
 refine aB b8 (cv R.id R.state cB cB).toArray Z<|sN<|sQ<|sS<|sB Z<|ai ?_
 refine aO (X:=Nat×Value×Value) (λx=>[(9,aA x.1),(8,aY b8),(7,aY b7),(4,aY b4),(0,aY e)]) (λx=>blk b8 72 (cv R.id R.state x.2.1 x.2.2).toArray::row 3 1 x.2.1 x.1 (eO ((R.NN.take x.1).map (·.state)))::row 3 1 x.2.2 x.1 (eO ((R.NN.take x.1).map (·.NM)))::blk b7 77 (iD (a.ra R.id) R).toArray::aZ e a ns M::blk b4 72 (cv 0 0 cB cB).toArray::fr) (λx=>x.1<=R.NN.length) (λx=>R.NN.length-x.1) (0,cB,cB) (Nat.zero_le _) bW (Ent.cons (Ent.row0.trans (Ent.cons Ent.row0))) ?_;rintro⟨k,K,I⟩ hk;replace hk:k<=R.NN.length:=hk;refine ao (l':=blk b8 72 (cv R.id R.state K I).toArray::row 3 1 K k (eO ((R.NN.take k).map (·.state)))::row 3 1 I k (eO ((R.NN.take k).map (·.NM)))::blk b7 77 (iD (a.ra R.id) R).toArray::aZ e a ns M::blk b4 72 (cv 0 0 cB cB).toArray::fr) aQ ?_;refine sQ<|bp Z<|bm 6 Z<|bF (au (v:=jV (a.ra R.id) R) Z) (ah Z)<|sP (bh Z Z)<|sP (bq Z Z Z)<|sN ?_
 refine aC Z (λO=>?_) λO=>?_
 ·have J:k<R.NN.length:=by have:(k:Int)<(R.NN.length:Int):=O;omega
  obtain⟨s,hs⟩:∃s,R.NN[k]?=some s:=⟨R.NN[k],by simp[J]⟩;have f8:eO ((R.NN.take k).map (·.state))++[aA s.state]=eO ((R.NN.take (k+1)).map (·.state)):=by rw[List.take_add_one,hs];simp[eO]
  have f9:eO ((R.NN.take k).map (·.NM))++[aA s.NM]=eO ((R.NN.take (k+1)).map (·.NM)):=by rw[List.take_add_one,hs];simp[eO]
  refine aa<|sT<|sQ<|ai<|sQ<|sZ Z<|dx 0 Z (bd 2 Z)<|bN Z (au (v:=K) Z) (ah Z)<|bB Z (bd 6 Z)<|bN Z (au (v:=jV (a.ra R.id) R) Z) (ah Z)<|cC Z Z<|bB Z (aV (z:=7) Z Z Z Z J)<|bB Z (bd 0 Z)<|bN Z (au (v:=aA s.state) Z) (ee (j:=0) hi Z hs Z)<|xx Z (fd Z Z Z Z Z Z λt8=>(dK [false,true,true] (aj (ah Z) (aj (ah Z) ak)) ?_))
  refine dR 9 rfl rfl (ce rfl rfl j5 rfl am rfl rfl (HasVal.sel (v:=K)) (news:=[aA s.state]) rfl fX iy eG gk am λd8 t6=>?_);refine aN (HasVal.sel (v:=d8)) ?_;rintro T Y rfl - - - - -
  refine dK [true,false] (aj (ah Z) ak)<|dx 10 Z (bd 2 Z) ?_
  refine dI 11 Z<|cq Z Z Z Z Z fW ?_
  refine dK [false] ak<|dE<|sT<|aB b8 (cv R.id R.state (.slice T (k+1) Y) I).toArray Z<|sZ Z<|dx 0 Z (bd 3 Z)<|bN Z (au (v:=I) Z) (ah Z)<|bB Z (bd 6 Z)<|bN Z (au (v:=jV (a.ra R.id) R) Z) (ah Z)<|cC Z Z<|bB Z (aV (z:=7) Z Z Z Z J)<|bB Z (bd 1 Z)<|bN Z (au (v:=aA s.NM) Z) (ee (j:=1) hi Z hs Z)<|xx Z (fd Z Z Z Z Z Z λwf=>(dK [false,true,true] (aj (ah Z) (aj (ah Z) ak)) ?_))
  refine dR 9 rfl rfl (ce rfl rfl j5 rfl am rfl rfl (HasVal.sel (v:=I)) (news:=[aA s.NM]) rfl fX iy eG gk am λd9 t7=>?_);refine aN (HasVal.sel (v:=d9)) ?_;rintro d6 d7 rfl - - - - -
  refine dK [true,false] (aj (ah Z) ak)<|dx 10 Z (bd 3 Z) ?_
  refine dI 11 Z<|cq Z Z Z Z Z fW ?_
  refine dK [false] ak<|dE<|al<|sT<|aB b8 (cv R.id R.state (.slice T (k+1) Y) (.slice d6 (k+1) d7)).toArray Z<|sG<|bY Z (dM Z Z)<|sA Z<|ap ?_
  exact aH (k+1,.slice T (k+1) Y,.slice d6 (k+1) d7) J (by show R.NN.length-(k+1)<R.NN.length-k;omega) bW (by rw[f8,f9];exact aG)
 ·have mt:k=R.NN.length:=by have:¬(k:Int)<(R.NN.length:Int):=O;omega
  refine aM<|aw<|az<|aq<|sT<|sQ<|aN (HasVal.sel (v:=K)) ?_
  rintro A2 c2 rfl - - - - -
  refine aN (HasVal.sel (v:=I)) ?_;rintro A3 c3 rfl - - - - -
  refine sG<|bF (bR (vs:=cv R.id R.state (.slice A2 k c2) (.slice A3 k c3)) Z) (bl Z) ?_
  refine sO<|bk (vs:=cv R.id R.state (.slice A2 k c2) (.slice A3 k c3)) Z (m:=4) Z Z Z Z eG (by show 0+4<=4;omega) ?_
  refine sB Z<|an ?_
  refine de [aZ e a ns M,bL (.slice A2 k c2) (R.NN.map (·.state)),bL (.slice A3 k c3) (R.NN.map (·.NM))] rfl (bU (vs:=cv R.id R.state (.slice A2 k c2) (.slice A3 k c3)) Z Z Z Z (bl Z)) (bS Z) ⟨_,_,rfl,rfl⟩ ?_;rw[List.take_of_length_le am];show Ent _ (aZ e a ns M::row 3 1 _ (R.NN.map (·.state)).length _::row 3 1 _ (R.NN.map (·.NM)).length _::fr);rw[List.length_map,List.length_map,<-mt];exact aG
def yv(h:M.runs.length<=100)(hnd:(M.runs.map (·.id)).Nodup)(mt:∀p∈M.NP,∃(i k:Nat) (u:FR.Rn) (s:FR.St),M.runs[i]?=some u/\u.id=p.1/\p.2=(k:Int)/\u.NN[k]?=some s/\0<=s.NM/\s.NM<9223372036854775807)(hq:M.NP.length<=1000):dz G 26 [aY e] [aZ e a ns M] λv m=>m=[aZ e a ns M,row 95 4 v M.NP.length (M.NP.flatMap λp=>ci p.1 p.2 (M.tryOf p) 0)]:=by
 obtain⟨ql,Y⟩:∃ql:List (Nat×Int)->List Value,ql=λl=>l.flatMap λp=>ci p.1 p.2 (M.tryOf p) 0:=⟨_,rfl⟩;refine bz func26 Z λE fr hE=>ae<|sS<|sB Z<|sS<|sB Z<|sQ<|sS<|sB Z<|ai ?_
 refine aO (X:=Nat×Value) (λx=>[(4,aA x.1),(3,x.2),(0,aY e)]) (λx=>row 95 4 x.2 x.1 (ql (M.NP.take x.1))::aZ e a ns M::fr) (λx=>x.1<=M.NP.length) (λx=>M.NP.length-x.1) (0,cB) (Nat.zero_le _) bW (by rw[Y];exact Ent.row0) ?_;rintro⟨k,v3⟩ hk;replace hk:k<=M.NP.length:=hk;refine ao (l':=row 95 4 v3 k (ql (M.NP.take k))::aZ e a ns M::fr) aQ ?_;refine sQ<|bp Z<|cE 3 Z Z<|bF (au (v:=lT a M) Z) (ck Z)<|sP (bh Z Z)<|sP (bq Z Z Z)<|sN ?_
 refine aC Z (λO=>?_) λO=>?_
 ·have I:k<M.NP.length:=by have:(k:Int)<(M.NP.length:Int):=O;omega
  obtain⟨p,hp⟩:∃p,M.NP[k]?=some p:=⟨M.NP[k],by simp[I]⟩;obtain⟨i,j,u,s,hi,d8,hj,K,t8,hs1⟩:=mt p (cg hp);have d9:=(gfGet.1 hi).1;have f7:=(gfGet.1 K).1;obtain⟨wf,pn⟩:=p;simp only at d8 hj;subst d8;subst hj;have f8:M.tryOf (u.id,(j:Int))=s.NM+1:=by
   unfold FR.En.tryOf;rw[FR.kN hnd hi];simp only[Int.toNat_natCast,K]
  have f9:ql (M.NP.take k)++ci u.id (j:Int) (s.NM+1) 0=ql (M.NP.take (k+1)):=by
   rw[Y,List.take_add_one,hp];simp only[List.flatMap_append,<-f8]
   rfl
  refine bA (p:=∃g,a.qg=some g) (λw hw=>Ez hp hw) λ⟨gq,d6⟩=>?_;refine bA (p:=∃g,a.rg=some g) (λw hw=>iJ hi hw) λ⟨gr,J⟩=>?_;refine aa<|sT<|sQ<|ai<|sS<|cE 3 Z Z<|bF (au (v:=dQ gq M.NP.length a.qc) Z) (we d6)<|bY Z (aV (z:=2) Z Z Z Z I)<|bF (bR (vs:=kw (u.id,(j:Int))) Z) (Kz hp d6)<|sO (cO (z:=.agg #[cd 0,aA 0]) Z λb5=>?_)
  refine sO<|bk (vs:=kw (u.id,(j:Int))) Z (m:=2) Z Z Z Z eG (by show 0+2<=2;omega) ?_
  refine aB b5 (kw (u.id,(j:Int))).toArray Z<|sN<|sQ<|sZ Z<|ea Z Z<|dy 2 Z Z Z<|bN Z (au (v:=dQ gr M.runs.length a.rc) Z) (dY J)<|cC Z Z<|bB Z (bd 0 Z)<|bN Z (au (v:=aU u.id) Z) (ah Z) ?_
  refine i7 7 10 Z Z Z Z eS (dP Z (tQ h hnd hi) gfE2 ?_) (cO (z:=.agg #[cd 0,aA 0,cB,aA 0,cd 0,aA 0,cB,aA 0]) Z λb6=>?_)
  ·rintro v m ⟨rfl,rfl⟩;refine ae<|dK [false,true] (aj (dY J) ak)<|dx 8 Z (aV (z:=8) Z Z Z Z d9)<|bN Z (bR (vs:=iD (a.ra u.id) u) Z) (lW hi J)<|xx Z (cO (z:=.agg #[cd 0,aA 0,cB,aA 0,cd 0,aA 0,cB,aA 0]) Z λb6=>(dK [true,true] (aj (lW hi J) (aj (dY J) ak)) ?_))
   refine dI 11 Z<|bk (vs:=iD (a.ra u.id) u) Z (m:=8) Z Z Z Z eG (by show 0+8<=8;omega) ?_
   refine aB b6 (iD (a.ra u.id) u).toArray Z<|dK [false,false] ak<|dE<|sT<|sZ Z<|ea Z Z<|bB Z (bd 0 Z)<|bN Z (au (v:=aU u.id) Z) (ah Z)<|bB Z (bd 1 Z)<|bN Z (au (v:=aA (j:Int)) Z) (ah Z)<|bB Z (bd 6 Z)<|bN Z (au (v:=jV (a.ra u.id) u) Z) (ah Z)<|bB Z (bd 1 Z)<|bN Z (au (v:=aA (j:Int)) Z) (ah Z)<|bB Z (aV (z:=7) Z Z Z Z f7)<|bB Z (bd 1 Z)<|bN Z (au (v:=aA s.NM) Z) (ee (j:=1) hi Z K Z)<|bB Z (bH (r:=s.NM+1) Z Z (by rw[iP am]))<|bB Z (bI (cs:=(ci u.id j (s.NM+1) 0).toArray) Z Z Z Z Z) ?_
   refine dI 14 Z (dw (m:=1) (z:=gA 0 0 0 0) (size:=4) (ps:=[(0,.tmp 46)]) (vs:=[gA u.id j (s.NM+1) 0]) (cs:=(ci u.id j (s.NM+1) 0).toArray) Z Z Z Z am am Z (rj _ _ _ _) λt6=>?_);refine dK [true,true,true,true,true] (aj (ee (j:=1) hi Z K Z) (aj (ah Z) (aj (ah Z) (aj (ah Z) (aj (ah Z) ak))))) ?_;refine dR 15 rfl rfl (ce rfl rfl uv rfl am rfl rfl (HasVal.sel (v:=v3)) (news:=ci u.id j (s.NM+1) 0) rfl fX iy eG gk am λT d7=>?_);refine dK [true,true,true,true,true] (aj (ee (j:=1) hi Z K Z) (aj (ah Z) (aj (ah Z) (aj (ah Z) (aj (ah Z) ak)))))<|dx 16 Z (aX Z)<|dE<|al<|sT<|sG<|bY Z (dM Z Z)<|sA Z<|ap ?_
   exact aH (k+1,T) I (by show M.NP.length-(k+1)<M.NP.length-k;omega) bW (by rw[f9];exact aG)
  ·refine dK [true,true] (aj (ah Z) (aj (dY J) ak)) ?_;refine dI 7 Z<|dP Z (tQ h hnd hi) gfE3 ?_
   rintro v m ⟨rfl,rfl⟩;refine ae<|dK [false,true] (aj (dY J) ak)<|dx 8 Z (aV (z:=8) Z Z Z Z d9)<|bN Z (bR (vs:=iD (a.ra u.id) u) Z) (lW hi J) ?_
   refine dI 11 Z<|bk (vs:=iD (a.ra u.id) u) Z (m:=8) Z Z Z Z eG (by show 0+8<=8;omega) ?_
   refine aB b6 (iD (a.ra u.id) u).toArray Z<|dK [false,false] ak<|dE<|sT<|sZ Z<|ea Z Z<|bB Z (bd 0 Z)<|bN Z (au (v:=aU u.id) Z) (ah Z)<|bB Z (bd 1 Z)<|bN Z (au (v:=aA (j:Int)) Z) (ah Z)<|bB Z (bd 6 Z)<|bN Z (au (v:=jV (a.ra u.id) u) Z) (ah Z)<|bB Z (bd 1 Z)<|bN Z (au (v:=aA (j:Int)) Z) (ah Z)<|bB Z (aV (z:=7) Z Z Z Z f7)<|bB Z (bd 1 Z)<|bN Z (au (v:=aA s.NM) Z) (ee (j:=1) hi Z K Z)<|bB Z (bH (r:=s.NM+1) Z Z (by rw[iP am]))<|bB Z (bI (cs:=(ci u.id j (s.NM+1) 0).toArray) Z Z Z Z Z) ?_
   refine dI 14 Z (dw (m:=1) (z:=gA 0 0 0 0) (size:=4) (ps:=[(0,.tmp 46)]) (vs:=[gA u.id j (s.NM+1) 0]) (cs:=(ci u.id j (s.NM+1) 0).toArray) Z Z Z Z am am Z (rj _ _ _ _) λt6=>?_);refine dK [true,true,true,true,true] (aj (ee (j:=1) hi Z K Z) (aj (ah Z) (aj (ah Z) (aj (ah Z) (aj (ah Z) ak))))) ?_;refine dR 15 rfl rfl (ce rfl rfl uv rfl am rfl rfl (HasVal.sel (v:=v3)) (news:=ci u.id j (s.NM+1) 0) rfl fX iy eG gk am λT d7=>?_);refine dK [true,true,true,true,true] (aj (ee (j:=1) hi Z K Z) (aj (ah Z) (aj (ah Z) (aj (ah Z) (aj (ah Z) ak)))))<|dx 16 Z (aX Z)<|dE<|al<|sT<|sG<|bY Z (dM Z Z)<|sA Z<|ap ?_
   exact aH (k+1,T) I (by show M.NP.length-(k+1)<M.NP.length-k;omega) bW (by rw[f9];exact aG)
 ·have t7:k=M.NP.length:=by have:¬(k:Int)<(M.NP.length:Int):=O;omega
  rw[t7,List.take_length,Y];refine aM<|aw<|az<|aq<|sT<|bp Z<|sB Z<|an ?_
  exact ar [aZ e a ns M,row 95 4 v3 M.NP.length (M.NP.flatMap λp=>ci p.1 p.2 (M.tryOf p) 0)] rfl Z Z aG
end Go.Y
namespace FR
section
variable{α β:Type}
def xY{f:α->β}{a b:List α}(h:a.length=b.length)(hk:∀i,i<k->(a[i]?).map f=(b[i]?).map f)(I:a.length<=k):a.map f=b.map f:=by
 apply List.ext_getElem?;intro i;rw[List.getElem?_map,List.getElem?_map];rcases Nat.lt_or_ge i k with E|E
 ·exact hk i E
 ·rw[List.getElem?_eq_none am,List.getElem?_eq_none am]
theorem xX{f:α->β}{a b:List α}{x y:α}(I:a[k]?=some x)(J:b[k]?=some y)(e:f x=f y)(hk:∀i,i<k->(a[i]?).map f=(b[i]?).map f):∀i,i<k+1->(a[i]?).map f=(b[i]?).map f:=λi hi=>by
 rcases Nat.lt_or_ge i k with E|E
 ·exact hk i E
 ·obtain rfl:i=k:=am
  rw[I,J,Option.map_some,Option.map_some,e]
theorem ui{f:α->β}{a b:List α}{x y:α}(E:a[k]?=some x)(I:b[k]?=some y)(e:f x≠f y):a.map f≠b.map f:=λh=>by
 have:=congrArg (λl=>l[k]?) h;simp only[List.getElem?_map,E,I,Option.map_some,Option.some.injEq]at this;exact e this
end
abbrev Tmd.key(t:Tmd):Nat×Int×Nat:=(t.run,t.node,t.due)
end FR
namespace Go.Y
open Go.Proofs Tryz
open Go Go.RowKit Go.SL
abbrev jc(q:Nat×Int×Int×Nat):List Value:=ci q.1 q.2.1 q.2.2.1 q.2.2.2
section
variable{A B:Option Addr}{c c':Nat}
def Fu(x y:Nat×Int×Int×Nat):kA prog (jc x).toArray (jc y).toArray (prog.fieldsOf 95).toList=some (decide (x=y)):=by
 have:∀(a E:Nat) (b I c c':Int) (t J:Nat),kA prog (ci a b c t).toArray (ci E I c' J).toArray (prog.fieldsOf 95).toList=some (((a:Int)==E)&&((b==I)&&((c==c')&&(((t:Int)==J)&&true)))):=λ_ _ _ _ _ _ _ _=>rfl;obtain⟨a,b,c,t⟩:=x;obtain⟨E,I,c',J⟩:=y;rw[this]
 congr 1
 rw[Bool.eq_iff_iff];simp[Prod.ext_iff,Int.ofNat_inj]
theorem NA(x y:FR.Tmd):kA prog (dW x).toArray (dW y).toArray (prog.fieldsOf 129).toList=some (decide (x.key=y.key)):=by
 have:kA prog (dW x).toArray (dW y).toArray (prog.fieldsOf 129).toList=some (((x.run:Int)==y.run)&&((x.node==y.node)&&(((x.due:Int)==y.due)&&true))):=rfl;rw[this]
 congr 1
 rw[Bool.eq_iff_iff];simp[FR.Tmd.key,Prod.ext_iff,Int.ofNat_inj]
theorem sInts_does{a b:List Int}:dz G 58 [.slice A a.length c,.slice B b.length c'] [bL (.slice A a.length c) a,bL (.slice B b.length c') b] λv m=>∃r,v=.bool r/\(r=true<->a.map id=b.map id)/\m=[bL (.slice A a.length c) a,bL (.slice B b.length c') b]:=by
 refine bz func58 Z λE fr hE=>aE<|aN .head ?_
 intro A' z' e1 d7 d8 t6 d9 _;injection e1 with e1 _ e2;subst e1;subst e2;refine aN bJ ?_;intro B' w' e1 f7 f8 t7 t8 _;injection e1 with e1 _ e2;subst e1;subst e2;have wf:a.length<=9223372036854775807:=by unfold maxLen at d9;omega
 refine sS<|sB Z<|sQ<|bp Z<|sP (bh Z Z)<|bY Z (bh Z Z)<|sP (cy Z Z Z)<|sN<|aC Z (λT=>?_) λT=>?_
 ·have K:a.length≠b.length:=λe=>T (by rw[e]);refine sS<|sB Z<|an<|aD<|ar [_,_] rfl rfl ⟨false,rfl,⟨λh=>(by cases h),λh=>absurd (by have:=congrArg List.length h;simpa using this) K⟩,rfl⟩ aQ
 ·have Y:a.length=b.length:=am;refine aa<|sT<|sQ<|sS<|sB Z<|ai<|aO (X:=Nat) (λk=>[(5,aA k),(0,.slice A a.length c),(1,.slice B b.length c')]) (λ_=>bL (.slice A a.length c) a::bL (.slice B b.length c') b::fr) (λk=>k<=a.length/\∀i,i<k->(a[i]?).map id=(b[i]?).map id) (λk=>a.length-k) 0 ⟨Nat.zero_le _,λi h=>by omega⟩ bW aQ ?_
  rintro k ⟨hk,J⟩;replace hk:k<=a.length:=hk;refine sQ<|bp Z<|bY Z (bh Z Z)<|sP (bq Z Z Z)<|sN<|aC Z (λd6=>?_) λd6=>?_
  ·have O:k<a.length:=am;obtain⟨g,rfl⟩:∃g,A=some ⟨g,0,none⟩:=by
    cases A with
    |none=>have:=(d7 rfl).1;omega
    |some ad=>obtain⟨g,rfl⟩:=d8 ad rfl;exact⟨g,rfl⟩
   obtain⟨g',rfl⟩:∃g,B=some ⟨g,0,none⟩:=by
    cases B with
    |none=>have:=(f7 rfl).1;omega
    |some ad=>obtain⟨g,rfl⟩:=f8 ad rfl;exact⟨g,rfl⟩
   obtain⟨x,hx⟩:∃x,a[k]?=some x:=⟨a[k],by simp[O]⟩;obtain⟨y,hy⟩:∃y,b[k]?=some y:=⟨b[k]'am,by simp⟩;refine aa<|sT<|sQ<|ai<|sQ<|sZ Z<|ea Z Z<|cC Z Z<|bB Z (aV (z:=1) Z Z Z Z O)<|bN Z (au (v:=aA x) Z) (ii .head (by simp[eO,hx]))<|cC Z Z<|cC Z Z<|bB Z (aV (z:=1) Z Z Z Z am)<|bN Z (au (v:=aA y) Z) (ii bJ (by simp[eO,hy]))<|bB Z (cy Z Z Z)<|dE<|sT<|cf Z (λI=>?_) λI=>?_
   ·have K:id x≠id y:=λe=>by first|(simp at I;done)|exact absurd e (by simpa using I)
    refine sS<|sB Z<|an<|aJ<|aD<|bM<|aJ<|aD<|ar [_,_] rfl rfl ⟨false,rfl,⟨λh=>(by cases h),λh=>absurd h (FR.ui hx hy K)⟩,rfl⟩ aQ
   ·have f9:id x=id y:=by first|exact Decidable.not_not.1 (by simpa only[decide_not,Bool.not_eq_true',Bool.not_eq_false',Bool.not_eq_false,decide_eq_false_iff_not,decide_eq_true_eq]using I)|simpa using I
    refine aa<|al<|sT<|sG<|bY Z (dM Z Z)<|sA Z<|ap<|aH (k+1) ⟨O,FR.xX hx hy f9 J⟩ (by show a.length-(k+1)<a.length-k;omega) bW aQ
  ·have mt:a.length<=k:=am;refine aM<|aw<|az<|aq<|sT<|sS<|sB Z<|an<|ar [_,_] rfl Z ⟨true,rfl,⟨λ_=>FR.xY Y J mt,λ_=>rfl⟩,rfl⟩ aQ
def AW{a b:List (Nat×Int×Int×Nat)}:dz G 28 [.slice A a.length c,.slice B b.length c'] [row 95 4 (.slice A a.length c) a.length (a.flatMap jc),row 95 4 (.slice B b.length c') b.length (b.flatMap jc)] λv m=>∃r,v=.bool r/\(r=true<->a.map id=b.map id)/\m=[row 95 4 (.slice A a.length c) a.length (a.flatMap jc),row 95 4 (.slice B b.length c') b.length (b.flatMap jc)]:=by
 refine bz func28 Z λE fr hE=>aE<|aN .head ?_
 intro A' z' e1 d7 d8 t6 d9 _;injection e1 with e1 _ e2;subst e1;subst e2;refine aN bJ ?_;intro B' w' e1 f7 f8 t7 t8 _;injection e1 with e1 _ e2;subst e1;subst e2;have wf:a.length<=9223372036854775807:=by unfold maxLen at d9;omega
 refine sS<|sB Z<|sQ<|bp Z<|sP (bh Z Z)<|bY Z (bh Z Z)<|sP (cy Z Z Z)<|sN<|aC Z (λT=>?_) λT=>?_
 ·have K:a.length≠b.length:=λe=>T (by rw[e]);refine sS<|sB Z<|an<|aD<|ar [_,_] rfl rfl ⟨false,rfl,⟨λh=>(by cases h),λh=>absurd (by have:=congrArg List.length h;simpa using this) K⟩,rfl⟩ aQ
 ·have Y:a.length=b.length:=am;refine aa<|sT<|sQ<|sS<|sB Z<|ai<|aO (X:=Nat) (λk=>[(5,aA k),(0,.slice A a.length c),(1,.slice B b.length c')]) (λ_=>row 95 4 (.slice A a.length c) a.length (a.flatMap jc)::row 95 4 (.slice B b.length c') b.length (b.flatMap jc)::fr) (λk=>k<=a.length/\∀i,i<k->(a[i]?).map id=(b[i]?).map id) (λk=>a.length-k) 0 ⟨Nat.zero_le _,λi h=>by omega⟩ bW aQ ?_
  rintro k ⟨hk,J⟩;replace hk:k<=a.length:=hk;refine sQ<|bp Z<|bY Z (bh Z Z)<|sP (bq Z Z Z)<|sN<|aC Z (λd6=>?_) λd6=>?_
  ·have O:k<a.length:=am;obtain⟨g,rfl⟩:∃g,A=some ⟨g,0,none⟩:=by
    cases A with
    |none=>have:=(d7 rfl).1;omega
    |some ad=>obtain⟨g,rfl⟩:=d8 ad rfl;exact⟨g,rfl⟩
   obtain⟨g',rfl⟩:∃g,B=some ⟨g,0,none⟩:=by
    cases B with
    |none=>have:=(f7 rfl).1;omega
    |some ad=>obtain⟨g,rfl⟩:=f8 ad rfl;exact⟨g,rfl⟩
   obtain⟨x,hx⟩:∃x,a[k]?=some x:=⟨a[k],by simp[O]⟩;obtain⟨y,hy⟩:∃y,b[k]?=some y:=⟨b[k]'am,by simp⟩;refine aa<|sT<|sQ<|ai<|sQ<|sZ Z<|ea Z Z<|cC Z Z<|bB Z (aV (z:=4) Z Z Z Z O)<|jW 3 Z (bR (vs:=jc x) Z) (ne .head (λj u h=>by rw[Nat.zero_add];exact fe (f:=jc) (k:=4) (λ_=>rfl) j hx h))<|dx 4 Z (bg Z)<|cC Z Z<|bB Z (aV (z:=4) Z Z Z Z am)<|jW 7 Z (bR (vs:=jc y) Z) (ne bJ (λj u h=>by rw[Nat.zero_add];exact fe (f:=jc) (k:=4) (λ_=>rfl) j hy h))<|dx 8 Z (qq Z eS eS Z Z (Fu x y) Z)<|dE<|sT<|cf Z (λI=>?_) λI=>?_
   ·have K:id x≠id y:=λe=>by first|(simp at I;done)|exact absurd e (by simpa using I)
    refine sS<|sB Z<|an<|aJ<|aD<|bM<|aJ<|aD<|ar [_,_] rfl rfl ⟨false,rfl,⟨λh=>(by cases h),λh=>absurd h (FR.ui hx hy K)⟩,rfl⟩ aQ
   ·have f9:id x=id y:=by first|exact Decidable.not_not.1 (by simpa only[decide_not,Bool.not_eq_true',Bool.not_eq_false',Bool.not_eq_false,decide_eq_false_iff_not,decide_eq_true_eq]using I)|simpa using I
    refine aa<|al<|sT<|sG<|bY Z (dM Z Z)<|sA Z<|ap<|aH (k+1) ⟨O,FR.xX hx hy f9 J⟩ (by show a.length-(k+1)<a.length-k;omega) bW aQ
  ·have mt:a.length<=k:=am;refine aM<|aw<|az<|aq<|sT<|sS<|sB Z<|an<|ar [_,_] rfl Z ⟨true,rfl,⟨λ_=>FR.xY Y J mt,λ_=>rfl⟩,rfl⟩ aQ
def C8{a b:List FR.Tmd}:dz G 27 [.slice A a.length c,.slice B b.length c'] [row 129 3 (.slice A a.length c) a.length (a.flatMap dW),row 129 3 (.slice B b.length c') b.length (b.flatMap dW)] λv m=>∃r,v=.bool r/\(r=true<->a.map FR.Tmd.key=b.map FR.Tmd.key)/\m=[row 129 3 (.slice A a.length c) a.length (a.flatMap dW),row 129 3 (.slice B b.length c') b.length (b.flatMap dW)]:=by
 refine bz func27 Z λE fr hE=>aE<|aN .head ?_
 intro A' z' e1 d7 d8 t6 d9 _;injection e1 with e1 _ e2;subst e1;subst e2;refine aN bJ ?_;intro B' w' e1 f7 f8 t7 t8 _;injection e1 with e1 _ e2;subst e1;subst e2;have wf:a.length<=9223372036854775807:=by unfold maxLen at d9;omega
 refine sS<|sB Z<|sQ<|bp Z<|sP (bh Z Z)<|bY Z (bh Z Z)<|sP (cy Z Z Z)<|sN<|aC Z (λT=>?_) λT=>?_
 ·have K:a.length≠b.length:=λe=>T (by rw[e]);refine sS<|sB Z<|an<|aD<|ar [_,_] rfl rfl ⟨false,rfl,⟨λh=>(by cases h),λh=>absurd (by have:=congrArg List.length h;simpa using this) K⟩,rfl⟩ aQ
 ·have Y:a.length=b.length:=am;refine aa<|sT<|sQ<|sS<|sB Z<|ai<|aO (X:=Nat) (λk=>[(5,aA k),(0,.slice A a.length c),(1,.slice B b.length c')]) (λ_=>row 129 3 (.slice A a.length c) a.length (a.flatMap dW)::row 129 3 (.slice B b.length c') b.length (b.flatMap dW)::fr) (λk=>k<=a.length/\∀i,i<k->(a[i]?).map FR.Tmd.key=(b[i]?).map FR.Tmd.key) (λk=>a.length-k) 0 ⟨Nat.zero_le _,λi h=>by omega⟩ bW aQ ?_
  rintro k ⟨hk,J⟩;replace hk:k<=a.length:=hk;refine sQ<|bp Z<|bY Z (bh Z Z)<|sP (bq Z Z Z)<|sN<|aC Z (λd6=>?_) λd6=>?_
  ·have O:k<a.length:=am;obtain⟨g,rfl⟩:∃g,A=some ⟨g,0,none⟩:=by
    cases A with
    |none=>have:=(d7 rfl).1;omega
    |some ad=>obtain⟨g,rfl⟩:=d8 ad rfl;exact⟨g,rfl⟩
   obtain⟨g',rfl⟩:∃g,B=some ⟨g,0,none⟩:=by
    cases B with
    |none=>have:=(f7 rfl).1;omega
    |some ad=>obtain⟨g,rfl⟩:=f8 ad rfl;exact⟨g,rfl⟩
   obtain⟨x,hx⟩:∃x,a[k]?=some x:=⟨a[k],by simp[O]⟩;obtain⟨y,hy⟩:∃y,b[k]?=some y:=⟨b[k]'am,by simp⟩;refine aa<|sT<|sQ<|ai<|sQ<|sZ Z<|ea Z Z<|cC Z Z<|bB Z (aV (z:=3) Z Z Z Z O)<|jW 3 Z (bR (vs:=dW x) Z) (ne .head (λj u h=>by rw[Nat.zero_add];exact fe (f:=dW) (k:=3) (λ_=>rfl) j hx h))<|dx 4 Z (bg Z)<|cC Z Z<|bB Z (aV (z:=3) Z Z Z Z am)<|jW 7 Z (bR (vs:=dW y) Z) (ne bJ (λj u h=>by rw[Nat.zero_add];exact fe (f:=dW) (k:=3) (λ_=>rfl) j hy h))<|dx 8 Z (qq Z eS eS Z Z (NA x y) Z)<|dE<|sT<|cf Z (λI=>?_) λI=>?_
   ·have K:FR.Tmd.key x≠FR.Tmd.key y:=λe=>by first|(simp[e]at I;done)|exact absurd e (by simpa using I)
    refine sS<|sB Z<|an<|aJ<|aD<|bM<|aJ<|aD<|ar [_,_] rfl rfl ⟨false,rfl,⟨λh=>(by cases h),λh=>absurd h (FR.ui hx hy K)⟩,rfl⟩ aQ
   ·have f9:FR.Tmd.key x=FR.Tmd.key y:=by first|exact Decidable.not_not.1 (by simpa only[decide_not,Bool.not_eq_true',Bool.not_eq_false',Bool.not_eq_false,decide_eq_false_iff_not,decide_eq_true_eq]using I)|simpa using I
    refine aa<|al<|sT<|sG<|bY Z (dM Z Z)<|sA Z<|ap<|aH (k+1) ⟨O,FR.xX hx hy f9 J⟩ (by show a.length-(k+1)<a.length-k;omega) bW aQ
  ·have mt:a.length<=k:=am;refine aM<|aw<|az<|aq<|sT<|sS<|sB Z<|an<|ar [_,_] rfl Z ⟨true,rfl,⟨λ_=>FR.xY Y J mt,λ_=>rfl⟩,rfl⟩ aQ
end
def If{w:Value}{a b:List Int}:dz G 58 [v,w] [bL v a,bL w b] λu m=>∃r,u=.bool r/\(r=true<->a=b)/\m=[bL v a,bL w b]:=by
 intro E W fr K hw;obtain⟨A,c,rfl⟩:∃A c,v=.slice A a.length c:=by
  rcases(hw.row .head).2 with⟨rfl,h⟩|⟨g,cap,I,rfl,_⟩
  ·exact⟨none,0,by rw[h]⟩
  ·exact⟨_,_,rfl⟩
 obtain⟨B,J,rfl⟩:∃B J,w=.slice B b.length J:=by
  rcases(hw.row bJ).2 with⟨rfl,h⟩|⟨g,cap,I,rfl,_⟩
  ·exact⟨none,0,by rw[h]⟩
  ·exact⟨_,_,rfl⟩
 refine(sInts_does.mono ?_) E W fr K hw;rintro u m ⟨r,O,T,rfl⟩;exact⟨_,⟨r,O,by simpa using T,rfl⟩,aQ⟩
def AX{id:Nat}{st K:Int}{O T Y w3:Value}{p2 p3 q2 q3:List Int}:dz G 22 [.agg (cv id st O T).toArray,.agg (cv i K Y w3).toArray] [bL O p2,bL T p3,bL Y q2,bL w3 q3] λv m=>∃r,v=.bool r/\(r=true<->id=i/\st=K/\p2=q2/\p3=q3)/\m=[bL O p2,bL T p3,bL Y q2,bL w3 q3]:=by
 refine bz func22 Z λE fr hE=>bT<|sS<|sO (cP Z Z λb2=>(sO (cP Z Z λb3=>(sA Z (aB b2 (cv id st O T).toArray Z (aB b3 (cv i K Y w3).toArray Z (sN (sS (bm 2 Z (bF (au (v:=O) Z) (ah Z) (bm 2 Z (bF (au (v:=Y) Z) (ah Z) (bQ Z (If (a:=p2) (b:=q2)) (bo dm gP) ?_)))))))))))))
 rintro v m ⟨r2,rfl,mt,rfl⟩;refine aE<|sB Z<|sS<|bm 3 Z<|bF (au (v:=T) Z) (ah Z)<|bm 3 Z<|bF (au (v:=w3) Z) (ah Z)<|bQ Z (If (a:=p3) (b:=q3)) (bo kK kK) ?_
 rintro v m ⟨r3,rfl,t6,rfl⟩;refine aE<|sB Z<|sS<|bm 0 Z<|aL Z Z Z Z<|bm 0 Z<|aL Z Z Z Z (cj Z (bc Z Z Z) dp λI d6=>(sM Z ?_))
 refine bK I (by rfl)<|cz Z Z (λ_=>rfl) (bd 1 Z) dp<|bK I (by rfl) ?_
 refine cz Z Z (λ_=>rfl) (au Z) (ah Z) ?_;refine bK I (by rfl)<|cz Z Z (λ_=>rfl) (bd 1 Z) dp<|bK I (by rfl)<|cz Z Z (λ_=>rfl) (au Z) (ah Z) ?_
 refine bK I (by rfl) ?_;refine cz Z Z (λ_=>rfl) (bc Z Z Z) dp ?_;refine cj Z (dV Z Z Z) dp λd7 d8=>sM Z ?_;refine bK d7 (by rfl)<|cz Z Z (λ_=>rfl) (bg Z) dp ?_
 refine cj Z (dV Z Z Z) dp λd9 f7=>sM Z ?_;refine bK d9 (by rfl)<|cz Z Z (λ_=>rfl) (bg Z) dp<|cj Z (dV Z Z Z) dp λf8 f9=>sB Z<|an<|ar [bL O p2,bL T p3,bL Y q2,bL w3 q3] rfl Z ⟨f8,rfl,?_,rfl⟩ ?_
 ·rw[f9,f7,d8,d6]
  simp[mt,t6,and_assoc,Int.ofNat_inj]
 ·show Ent _ (_::_::_::_::fr)
  exact aG
end Go.Y
namespace Go.SL
open Go.RowKit
abbrev wF(ro:Option Nat):Fence:={Fence.wide with round:=ro}
def Holds.putO{o:Obj}{r:List HP}(h:Holds E w (SL.ob b o::r))(o':Obj):Holds E (w.putObj b o') (SL.ob b o'::r):=
 h.set (w':=w.putObj b o') rfl rfl rfl (by simp[World.putObj]) (World.putObj_heap_same (h.ob .head).2) λ_ hk=>World.putObj_heap_other hk
section
variable{ops:Array Oper}{rest:List Oper}{ro:Option Nat}
section
variable{ty:TypeId}
def opIn{o:Oper}{a:Act}(hd:∀c,o.op≠.defer c)(h:o.wp P a w K Q):o.wpIn (wF ro) m P a w K Q:=by
 refine⟨λ_ _=>trivial,?_⟩;rw[Oper.semAt_eq _ _ _ hd];unfold Oper.wp at h
 generalize (execOp a.eval o).run P w=r at h ⊢
 match r,h with
 |.ok (.value v) w',h=>exact h
 |.ok .skip w',h=>exact h
 |.ok (.defer d) w',h=>exact h
 |.ok (.enter f args) w',h=>exact⟨λhh=>by simp[Fence.wide]at hh,(callsIn_wide (n:=m-1)).2 h⟩
 |.ok (.row row args) w',h=>exact⟨λhh=>by simp[Fence.wide]at hh,λc cs _=>let⟨v,w1,r,s⟩:=h c cs;⟨v,w1,r,stepsIn_wide.2 s⟩⟩
 |.halt (.panic v) w',h=>exact h
def LI.nil(h:At E n D ts l (Q .normal)):At E n D ts l (wpListIn (wF ro) m P ops Q []):=h
def LI.op{o:Oper}(hg:o.guard=none)(h:At E n D ts l (λa w=>o.wp P a w (wpListIn (wF ro) m P ops Q rest) Q))(hd:∀c,o.op≠.defer c:=by intro c h;cases h):At E n D ts l (wpListIn (wF ro) m P ops Q (o::rest)):=λa w f hw=>by
 unfold wpListIn;rw[if_pos (by simp[Region.wanted,hg])];exact opIn hd<|h a w f hw
def LI.val{op:Op}{φ:World->Prop}{pos:String}(hi:Nat.blt i n=true)(hev:Ev P ts op v φ)(hφ:∀w,Holds E w l->φ w)(h:At E n D ((i,v)::ts) l (wpListIn (wF ro) m P ops Q rest))(hd:∀c,op≠.defer c:=by intro c h;cases h) :
 At E n D ts l (wpListIn (wF ro) m P ops Q (⟨some i,op,ty,pos,af,none⟩::rest)):=LI.op rfl (kW hi hev hφ h) hd
def LI.pure{op:Op}{pos:String}(hi:Nat.blt i n=true)(hev:Ev P ts op v Any)(h:At E n D ((i,v)::ts) l (wpListIn (wF ro) m P ops Q rest))(hd:∀c,op≠.defer c:=by intro c h;cases h) :
 At E n D ts l (wpListIn (wF ro) m P ops Q (⟨some i,op,ty,pos,af,none⟩::rest)):=LI.val hi hev dp h hd
def AI.region{id:Nat}{os:List Oper}(h:At E n D ts l (wpListIn (wF ro) m P os.toArray Q os)):At E n D ts l ((Code.region id os.toArray false).wpIn (wF ro) m P Q):=λa w f hw=>wpIn_region_lit (h a w f hw)
def AI.seq{x y:Code}(h:At E n D ts l (x.wpIn (wF ro) m P (Exit.then (y.wpIn (wF ro) m P Q) Q))):At E n D ts l ((Code.seq x y).wpIn (wF ro) m P Q):=λa w f hw=>wpIn_seq (h a w f hw)
def AI.skip(h:At E n D ts l (Q .normal)):At E n D ts l (Code.skip.wpIn (wF ro) m P Q):=λa w f hw=>wpIn_skip (h a w f hw)
def AI.block{id:Nat}{c:Code}(h:At E n D ts l (c.wpIn (wF ro) m P (Exit.inBlock id Q))):At E n D ts l ((Code.block id c).wpIn (wF ro) m P Q):=λa w f hw=>wpIn_block (h a w f hw)
def Kt{c:Operand}{x y:Code}(hc:ev ts c=some (.bool false))(h:At E n D ts l (y.wpIn (wF ro) m P Q)):At E n D ts l ((Code.cond c x y).wpIn (wF ro) m P Q):=λa w f hw=>wpIn_cond_false (f.eval hc) (h a w f hw)
def pc{id:Nat}{os:List Oper}(h:At E n D ts l (wpListIn (wF none) 1 P os.toArray Q os)):At E n D ts l ((Code.region id os.toArray false).wp P Q):=λa w f hw=>wpIn_wide.1 (wpIn_region_lit (h a w f hw))
def Yields(P:Program)(lo:Nat)(args:Array Value)(pre post:List HP):Prop:=
 ∀(E:Env) (w:World) (fr:List HP),Holds E w (pre++fr)->YieldAt Fence.wide 0 P lo args w λe w'=>e=.returned (.bool true)/\Holds E w' (post++fr)
def LI.yield{i:Nat}{pos:String}{x:Operand}{xs:List Operand}{at_:Array TypeId}{lo:Nat}{args:List Value}{pre post fr:List HP}(hi:Nat.blt i n=true)
(hv:ev ts x=some (.func (.yield lo) #[] #[]))(hx:rE ts xs=some args)(hs:Yields P lo args.toArray pre post)(hl:Ent l (pre++fr))(h:At E n D ((i,.bool true)::ts) (post++fr) (wpListIn (wF none) 1 P ops Q rest)) :
 At E n D ts l (wpListIn (wF none) 1 P ops Q (⟨some i,.call {callee:=.value x,args:=xs.toArray,argTypes:=at_},ty,pos,af,none⟩::rest)):=λa w ft hw=>by
 obtain⟨fn,tmps,assign,body,hy,hr⟩:=hs E w fr (hw.ent hl);have he:=eU ft.knows hx;have hrun:(execOp a.eval ⟨some i,.call {callee:=.value x,args:=xs.toArray,argTypes:=at_},ty,pos,af,none⟩).run P w=.ok (.round lo fn tmps assign body) w:=by
  simp[execOp,resolve,invoke,Deferred.ofValue,ft.eval hv,he,hy]
 unfold wpListIn;rw[if_pos (by simp[Region.wanted])];refine⟨λ_ _=>trivial,?_⟩;rw[Oper.semAt_none,hrun];refine⟨λ_=>cx 1,?_⟩;refine RoundIn.mono (F:=Fence.wide) hr ?_;rintro e w' ⟨rfl,hH⟩;exact h _ w' (ft.put i (Nat.le_of_ble_eq_true hi) _) hH
def Seqs{α:Type}(P:Program)(G:Env->Prop)(f:FuncId)(cap:Array Value)(enc:α->Value)(S:List α->Prop)(N:Nat)(pre:List HP):Prop:=
 ∀(lo:Nat) (J:List α->List HP),(∀done x,done.length<N->Yields P lo #[enc x] (J done) (J (done++[x])))->Does P G f (#[.func (.yield lo) #[] #[]]++cap) (pre++J []) λ_ m=>∃ss,S ss/\m=pre++J ss
def AG(E:Env)(m:List HP):Exit->Act->World->Prop
 |.normal,_,w=>Holds E w m
 |_,_,_=>False
def og{k:List HP}(h:Ent l k):At E n D ts l (AG E k .normal):=λ_ _ _ hw=>hw.ent h
end
abbrev zk(b:Nat):Deferred:={target:=.collected b,args:=#[]}
abbrev pj(b:Nat):HP:=ob b (.deferred (some []))
section
variable{fr pre r:List HP}{fn:Func}
def qp{α:Type}{g:Operand}{assign body:Code}{cap:Array Value}{enc:α->Value}{S:List α->Prop}(J:List α->List HP)
(hg:ev ts g=some (.func (.func f) #[] cap))(hb:eT P f=true)(hE:G E)(hi:Nat.blt i n=true)(hit:Seqs P G f cap enc S N pre)(he:Ent l (pre++(J []++fr)))
(hassign:∀(lo:Nat) (E':Env) (L:List HP) (x:α) (K:Act->World->Prop),At E' n [] ((j,enc x)::(i,enc x)::ts) L K->At E' n [] ((i,enc x)::ts) L (assign.wpIn (wF (some lo)) 0 P (Exit.then K λ_ _ _=>False)))
(hbody:∀(lo:Nat) (E':Env) (fr':List HP) (done:List α) (x:α),done.length<N->At E' n [] ((j,enc x)::(i,enc x)::ts) (J done++fr') (body.wpIn (wF (some lo)) 0 P (AG E' (J (done++[x])++fr'))))
(hdone:∀(b:Nat) (ss:List α),S ss->At E n (zk b::D) ts (pj b::(pre++(J ss++fr))) (Q .normal)) :
 At E n D ts l ((Code.rangeFunc g #[i] assign body).wp P Q):=λa w ft hw=>by
 refine(wpIn_wide (n:=1)).1 (wpIn_rangeFunc (F:=Fence.wide) λfn _=>?_);obtain⟨rec,hrec⟩:∃rec:LoopState->Option Code->Loop,rec=λst pe=>{state:=st,pending:=pe,fn,tmps:=a.tmps,params:=#[i],assign,body,defers:=w.heap.size}:=⟨_,rfl⟩;obtain⟨w1,hw1⟩:∃w1,(w.alloc (.deferred (some []))).alloc (.loop (rec .ready none))=w1:=⟨_,rfl⟩;have hH1:Holds E w1 (ob (w.heap.size+1) (.loop (rec .ready none))::pj w.heap.size::l):=by
  rw[<-hw1];have:=(hw.alloc (.deferred (some []))).alloc (.loop (rec .ready none))
  rwa [World.size_alloc]at this
 obtain⟨J',hJ'⟩:∃J':List α->List HP,J'=λdone=>ob (w.heap.size+1) (.loop (rec .ready none))::J done:=⟨_,rfl⟩;have hY:∀done x,done.length<N->Yields P (w.heap.size+1) #[enc x] (J' done) (J' (done++[x])):=λdone x hlt E' W fr' hW=>by
  rw[hJ']at hW;have hL:=(hW.ob .head).1;refine⟨_,_,_,_,run_yield hL (by rw[hrec];rfl),roundIn_of_wpIn trivial ?_⟩;have hfit:Fits n [] ((i,enc x)::ts) {tmps:=((rec .ready none).params.zip #[enc x]).foldl (λtmps (t,a)=>tmps.setIfInBounds t a) (rec .ready none).tmps,defers:=[]}:=by
   have h0:Fits n [] ts {tmps:=a.tmps,defers:=[]}:=⟨ft.size,rfl,ft.get⟩;have:=h0.put i (Nat.le_of_ble_eq_true hi) (enc x);rw[hrec];simpa[Act.put]using this
  rw[hrec];rw[hrec]at hfit hW hL;refine hassign (w.heap.size+1) E' _ x _ (λa1 W1 f1 hW1=>?_) _ W hfit hW;have hL1:=(hW1.ob .head).1;refine⟨_,run_beginRound hL1 Z,?_⟩;have hW2:Holds E' (W1.putObj (w.heap.size+1) (.loop {(rec .ready none)with state:=.busy})) (ob (w.heap.size+1) (.loop {(rec .ready none)with state:=.busy})::(J done++fr')):=hW1.putO _;rw[hrec]at hW2;have hW3:=hW2.ent (m:=J done++(ob (w.heap.size+1) (.loop {(rec .ready none)with state:=.busy})::fr')) (Ent.perm (by rw[hrec];exact(List.perm_middle (l₁:=J done)).symm));rw[hrec]at hW3;refine wpIn_mono (hbody (w.heap.size+1) E' _ done x hlt a1 _ f1 hW3) λe a2 W3 hq=>?_;cases e with
  |normal=>
   have hq':Holds E' W3 _:=hq;have hq2:=hq'.ent (m:=ob (w.heap.size+1) (.loop {(rec .ready none)with state:=.busy})::(J (done++[x])++fr')) (Ent.perm (by rw[hrec];exact List.perm_middle));have hL3:=(hq2.ob .head).1;refine⟨_,_,run_endRound none hL3,rfl,?_⟩;rw[hJ'];have:=hq2.putO (.loop (rec .ready none));rw[hrec]at this ⊢;exact this
  |_=>exact hq.elim
 refine⟨w.heap.size+1,[zk w.heap.size],w1,{target:=.fn (.func f) cap,args:=#[.func (.yield (w.heap.size+1)) #[] #[]]},w1,f,#[.func (.yield (w.heap.size+1)) #[] #[]]++cap,w1,?_,?_,λ_ _=>trivial,?_,λ_=>cx 1,?_⟩
 ·rw[<-hw1,hrec];exact run_enterLoop_outer _ _ _ _ _
 ·simp only[resolve,ft.eval hg]
  simp[go_sem]
 ·simp[invoke,go_sem,eZ hb]
 ·refine callsIn_wide.2 ((hit (w.heap.size+1) J' hY E w1 (pj w.heap.size::fr) hE ?_).mono ?_)
  ·refine hH1.ent ?_
   rw[hJ'];refine(Ent.cons (Ent.cons he)).trans (Ent.perm ?_);have h1:(pj w.heap.size::(pre++(J []++fr))).Perm (pre++(J []++(pj w.heap.size::fr))):=by
    rw[<-List.append_assoc,<-List.append_assoc];exact(List.perm_middle (l₁:=pre++J [])).symm
   refine(List.Perm.cons _ h1).trans ?_;rw[List.append_assoc];exact(List.perm_middle (l₁:=pre)).symm
  ·rintro e w3 ⟨v,k,rfl,⟨ss,hS,rfl⟩,hH⟩
   rw[hJ']at hH;have hH2:Holds E w3 (ob (w.heap.size+1) (.loop (rec .ready none))::pj w.heap.size::(pre++(J ss++fr))):=by
    refine hH.ent<|Ent.perm ?_
    rw[List.append_assoc];refine(List.perm_middle (l₁:=pre)).trans (List.Perm.cons _ ?_);show(pre++(J ss++(pj w.heap.size::fr))).Perm (pj w.heap.size::(pre++(J ss++fr)));rw[<-List.append_assoc,<-List.append_assoc];exact List.perm_middle (l₁:=pre++J ss)
   have hL3:=(hH2.ob .head).1;refine⟨none,w3.putObj (w.heap.size+1) (.loop {(rec .ready none)with state:=.exhausted}),by have:=run_endLoop (P:=P) hL3 (by rw[hrec];simp);rw[hrec]at this ⊢;exact this,?_⟩;refine hdone w.heap.size ss hS _ _ ⟨ft.size,by show _::a.defers=_;rw[ft.defers],ft.get⟩ ?_;exact(hH2.putO _).ent Ent.drop
def EM(P:Program)(fn:Func)(E:Env)(fr:List HP)(R:Value->List HP->Prop):Exit->Act->World->Prop:=
 bodyPostM Fence.wide 0 P fn λe w'=>∃v m,e=.returned v/\R v m/\Holds E w' (m++fr)
def vB{c:Code}{args:List Value}(hf:P.funcs[f]?=some fn)(hb:fn.body=some c)(hn:Nat.ble args.length fn.ntmps=true)
(h:∀E fr,G E->At E fn.ntmps [] (fU 0 args) (pre++fr) (c.wp P (EM P fn E fr R))):Does P G f args.toArray pre R:=by
 intro E w fr hE hw;refine callsIn_wide.1<|callsIn_of_wp_marks (n:=0) hf hb trivial (wpIn_wide.2 (h E fr hE _ _ ⟨?_,rfl,?_⟩ hw)) Z
 ·have:=Nat.le_of_ble_eq_true hn
  simp;omega
 ·intro i v hi
  obtain⟨_,h2⟩:=fV args 0 i v hi;rw[Nat.sub_zero]at h2;have hlt:i<args.length:=(gfGet.1 h2).1;simp[Array.getElem?_append,hlt,(gfGet.1 h2).2]
theorem rU{a:Act}{k:List HP}(f:a.defers=[zk b])(hw:Holds E w l)(s:Sel (pj b) l r)(hv:(results fn a.tmps).run P (w.putObj b (.deferred none))=.ok v (w.putObj b (.deferred none)))(hR:R v k)(hm:Ent r (k++fr)):EM P fn E fr R .ret a w:=by
 show LeavesInM _ _ _ _ _ _ a.defers _ _;rw[f];have hb:=(hw.ob s).1;refine⟨by simp,.inl ⟨_,_,rfl,run_takeDeferred hb,_,hv,v,k,rfl,hR,?_⟩⟩;exact((hw.sel s).putO _).ent (Ent.drop.trans hm)
def BP(k:List HP)(s:Sel (pj b) l r)(hr:fn.results=#[.tmp i])(hv:look i ts=some v)(hR:R v k)(hm:Ent r (k++fr)):At E n [zk b] ts l (EM P fn E fr R .ret):=λ_ _ f hw=>
 rU f.defers hw s (by rw[results_tmp hr,fQ (f.get i v hv)]) hR hm
def BO{u:Value}(k:List HP)(s:Sel (pj b) l r)(hr:fn.results=#[.tmp i,.tmp j])(hu:look i ts=some u)(hv:look j ts=some v)(hR:R (.tuple #[u,v]) k)(hm:Ent r (k++fr)):At E n [zk b] ts l (EM P fn E fr R .ret):=λ_ _ f hw=>
 rU f.defers hw s (by rw[results_tmp2 hr,fQ (f.get i u hu),fQ (f.get j v hv)]) hR hm
end
end
end Go.SL
namespace Go.Y
open Go.Proofs Tryz Go.RowKit Go.SL
def GD(a b:Nat):dz G 256 [aU a,aU b] [] λv m=>v=.bool (decide (a<b))/\m=[]:=by
 refine bz func256 Z λE fr I=>aW<|sS<|sB Z<|bp Z<|bV Z (um a) aQ<|aW<|sM Z<|aR Z<|aR Z<|aR Z<|sP (aF Z Z Z)<|sM Z<|cN Z<|cN Z<|bO (bq (r:=decide (a<b)) Z Z di)<|sP (aF (v:=.bool (decide (a<b))) Z Z Z)<|sB Z<|an<|ar [] rfl Z ⟨rfl,rfl⟩ aQ
abbrev uV(t:FR.Tmd):Value:=aU t.due
abbrev Cs(g c n:Nat)(l:List FR.Tmd):HP:=row 36 1 (sV g c n) n (l.map uV)
section
variable{X l:List FR.Tmd}
def xF{g c:Nat}{L r:List HP}{x:FR.Tmd}(s:Sel (Cs g c n l) L r)(h:l[i]?=some x):∀w,Holds E w L->cw ⟨g,0+i*1,none⟩ (uV x) w:=ii s (by simp[h])
def L9(x:FR.Tmd):(l.map uV).set (0+i*1) (uV x)=(l.set i x).map uV:=by simp[List.map_set]
theorem yE{g c:Nat}(hn:X.length=n)(hb:n<=100000)(hs:X.Pairwise λx y=>x.seq<y.seq) :
 dz G 250 [sV g c n,aA 0,aA n] [Cs g c n X] λv m=>v=.tuple #[]/\∃Y,FR.Srt X Y/\m=[Cs g c n Y]:=by
 refine bz func250 Z λE fr hE=>ae<|bp Z<|sP (bH (r:=((1:Nat):Int)) Z Z Z)<|sB Z<|ai<|aO (X:=Nat×List FR.Tmd) (λx=>[(6,aA x.1),(0,sV g c n),(1,aA 0),(2,aA n)]) (λx=>Cs g c n x.2::fr) (λx=>(x.1<=X.length\/x.1=1)/\x.2.length=n/\FR.InsI [] X [] x.1 x.2) (λx=>X.length-x.1) (1,X) ⟨.inr Z,hn,by have:=FR.InsI.first [] X [];simpa using this⟩ bW aQ ?_
 rintro⟨k,W⟩ ⟨hk,I,hI⟩;replace hk:k<=X.length\/k=1:=hk;replace I:W.length=n:=I;replace hI:FR.InsI [] X [] k W:=hI;refine fq (ts':=[(6,aA k),(0,sV g c n),(1,aA 0),(2,aA n)]) Z<|ao (l':=Cs g c n W::fr) aQ<|sQ<|bp Z<|bY Z (bq Z Z Z)<|sN<|aC Z (λd6=>?_) λd6=>?_
 ·have K:k<X.length:=am;obtain⟨x,T⟩:∃x,X[k]?=some x:=⟨X[k],by simp[K]⟩;refine aa<|sT<|sQ<|ai<|bp Z<|sB Z<|ai<|aO (X:=Nat×List FR.Tmd) (λx=>[(7,aA x.1),(6,aA k),(0,sV g c n),(1,aA 0),(2,aA n)]) (λx=>Cs g c n x.2::fr) (λy=>y.2.length=n/\FR.InsJ [] X [] k y.1 x y.2) (λx=>x.1) (k,W) ⟨I,by have:=hI.start T;simpa using this⟩ bW aQ ?_
  rintro⟨j,W⟩ ⟨I,O⟩;replace I:W.length=n:=I;replace O:FR.InsJ [] X [] k j x W:=O;refine fq (ts':=[(7,aA j),(6,aA k),(0,sV g c n),(1,aA 0),(2,aA n)]) Z<|ao (l':=Cs g c n W::fr) aQ ?_
  obtain⟨g1,g2⟩:=O.at
  have d7:=(O.len T).2;rw[List.length_nil]at d7;refine sQ<|sQ ?_
  by_cases hA:0<j
  ·obtain⟨z,g3,g4,g5⟩:=g2 hA;refine sZ Z<|ea Z Z<|cC Z Z<|bB Z (iT Z Z am)<|cC Z Z<|dT 4 Z (bg Z)<|dT 5 Z (bg Z)<|dT 6 Z (aV (z:=1) Z Z Z Z am)<|oW 7 Z (au (v:=uV x) Z) (xF .head g1)<|dT 8 Z (bg Z)<|dT 9 Z (bg Z)<|dT 10 Z (dd (r:=((j-1:Nat):Int)) Z Z ib)<|dT 11 Z (aV (z:=1) Z Z Z Z am)<|oW 12 Z (au (v:=uV z) Z) (xF .head g3)<|vk 13 Z Z Z Z eS<|dP Z (GD x.due z.due) aQ ?_
   rintro v m ⟨rfl,rfl⟩;refine aW<|dK [false,false] ak<|dx 14 Z (aF Z Z Z)<|dE<|sT<|aC Z (λJ=>?_) λJ=>?_
   ·refine aa<|sT<|sQ<|ai<|sZ Z<|ea Z Z<|cC Z Z<|cC Z Z<|cC Z Z<|bB Z (dd (r:=((j-1:Nat):Int)) Z Z ib)<|cC Z Z<|cC Z Z<|bB Z (dd (r:=((j-1:Nat):Int)) Z Z ib)<|bB Z (aV (z:=1) Z Z Z Z am)<|bN Z (au (v:=uV z) Z) (xF .head g3)<|cC Z Z<|cC Z Z<|bB Z (aV (z:=1) Z Z Z Z am)<|bN Z (au (v:=uV x) Z) (xF .head g1)<|bB Z (aV (z:=1) Z Z Z Z am)<|dI 15 Z<|gc .head Z Z Z Z am ?_
    rw[L9];refine dK [false,false] ak<|dx 16 Z (aV (z:=1) Z Z Z Z am)<|dI 17 Z<|gc .head Z Z Z Z am ?_
    rw[L9];refine dK [] ak<|dE<|al<|sT<|sG<|bY Z (dd (r:=((j-1:Nat):Int)) Z Z ib)<|sA Z<|ap<|aH (j-1,(W.set j z).set (j-1) x) ⟨by simp[I],g5 J⟩ (by show j-1<j;omega) bW aQ
   ·refine aM<|aw<|az<|aq<|al<|sT<|sG<|bY Z (dM Z Z)<|sA Z<|ap<|aH (k+1,W) ⟨.inl K,I,O.fin T hs λ_ z' e=>by rw[g3]at e;injection e with e;subst e;exact J⟩ (by show X.length-(k+1)<X.length-k;omega) bW aQ
  ·refine sZ Z<|ea Z Z<|cC Z Z<|bB Z (mN Z Z am)<|cC Z Z<|dZ 4 Z Z<|dZ 5 Z Z<|dZ 6 Z Z<|dZ 7 Z Z<|dZ 8 Z Z<|dZ 9 Z Z<|dZ 10 Z Z<|dZ 11 Z Z<|dZ 12 Z Z<|dZ 13 Z Z<|bB Z (aF Z Z Z)<|dE<|sT<|ag Z<|aM<|aw<|az<|aq<|al<|sT<|sG<|bY Z (dM Z Z)<|sA Z<|ap<|aH (k+1,W) ⟨.inl K,I,O.fin T hs λh=>absurd h hA⟩ (by show X.length-(k+1)<X.length-k;omega) bW aQ
 ·obtain⟨Y,e,s⟩:=hI.fin am;refine aM<|aw<|az<|aq<|dt [_] rfl ⟨rfl,Y,s,rfl⟩ (by rw[e];simp;exact aQ)
def insertU0_does:dz G 250 [eC,aA 0,aA 0] [] λv m=>v=.tuple #[]/\m=[]:=by
 refine bz func250 Z λE fr I=>aW<|bp Z<|sP (bH (r:=1) Z Z Z)<|sB Z<|ai<|aO (X:=Unit) (λ_=>[(6,aA 1),(2,aA 0)]) (λ_=>fr) (λ_=>True) (λ_=>0) () trivial bW aQ ?_
 intro _ _;exact sQ<|bp Z<|bY Z (bq Z Z Z)<|sN<|ag Z<|aM<|aw<|az<|aq<|dt [] rfl ec aQ
def vT(O:X.length<=100000)(T:FR.Seqs X):dz G 250 [v,aA 0,aA X.length] [row 36 1 v X.length (X.map uV)] λu m=>u=.tuple #[]/\∃Y,FR.Srt X Y/\m=[row 36 1 v Y.length (Y.map uV)]:=by
 intro E w fr J hw;rcases(hw.row .head).2 with⟨h0,I⟩|⟨g,cap,d6,hv,_⟩
 ·obtain rfl:X=[]:=List.eq_nil_of_length_eq_zero I
  subst h0;exact((insertU0_does.frame [row 36 1 eC 0 []]).mono λu m ⟨m',⟨I,h2⟩,hm⟩=>⟨_,⟨I,[],FR.Srt.nil,rfl⟩,by rw[hm,h2];exact aQ⟩) E w fr J hw
 ·subst hv
  refine((yE (g:=g) (c:=cap) Z O T).mono ?_) E w fr J hw;rintro u m ⟨rfl,Y,K,rfl⟩;exact⟨_,⟨rfl,Y,K,rfl⟩,by rw[K.len];exact aQ⟩
def yX(n:Nat)(h:n<9223372036854775808):dz G 206 [aU n] [] λv m=>(∃k:Int,v=aA k)/\m=[]:=λE w fr _ hw=>
 (Any.bits_Len (SlLaysF0.n15.bits (P:=prog) (ρ:=iC) {na with}) (n:Int) w am am).mono λ_ _ ⟨I,J⟩=>⟨_,_,I,⟨⟨_,rfl⟩,rfl⟩,J▸hw⟩
def Gq{I:Int}(O:X.length<=12)(J:FR.Seqs X):dz G 229 [v,aA 0,aA X.length,aA I] [row 36 1 v X.length (X.map uV)] λu m=>u=.tuple #[]/\∃Y,FR.Srt X Y/\m=[row 36 1 v Y.length (Y.map uV)]:=by
 refine bz func229 Z λE fr T=>ae<|sS<|sB Z<|sS<|sB Z<|ai<|aO (X:=Unit) (λ_=>[(0,v),(1,aA 0),(2,aA X.length)]) (λ_=>row 36 1 v X.length (X.map uV)::fr) (λ_=>True) (λ_=>0) () trivial bW aQ ?_
 intro _ _;refine ai<|bp Z<|sM Z<|sP (dd (r:=(X.length:Int)) Z Z (by rw[Int.sub_zero];exact iP am))<|sB Z<|sQ<|bp Z<|sP (nG (r:=true) Z Z (xC am))<|sN<|aK Z<|bp Z<|sM Z<|sM Z<|bQ Z (vT am J) aQ ?_
 rintro v m ⟨rfl,Y,K,rfl⟩;exact ae<|sN<|an<|aD<|aJ<|bM<|aJ<|dt [_] rfl ⟨rfl,Y,K,rfl⟩ aQ
def CZ(I:X.length<=12)(J:FR.Seqs X):dz G 203 [v] [row 36 1 v X.length (X.map uV)] λu m=>u=.tuple #[]/\∃Y,FR.Srt X Y/\m=[row 36 1 v Y.length (Y.map uV)]:=by
 refine bz func203 Z λE fr O=>ae<|aN .head ?_
 rintro A c rfl - - - - -
 refine bp Z<|sP (bh Z Z)<|sB Z<|sG<|sM Z<|sM Z<|bY Z (cD (r:=(X.length:Int)) Z Z Z (wu64 am))<|bQ Z (yX X.length am) aQ ?_
 rintro v m ⟨⟨k,rfl⟩,rfl⟩;refine aW<|bQ Z (Gq I J) aQ ?_
 rintro v m ⟨rfl,Y,K,rfl⟩;exact ae<|ap<|dt [_] rfl ⟨rfl,Y,K,rfl⟩ aQ
end
end Go.Y
namespace FR
def iL:Nat->List Nat->List Tmd
 |_,[]=>[]
 |i,k::l=>⟨0,0,k,i⟩::iL (i+1) l
def zv:∀(i:Nat) (l:List Nat),(iL i l).map Tmd.due=l
 |_,[]=>rfl
 |i,k::l=>by simp[iL,zv]
theorem wA:∀(i:Nat) (l:List Nat),(∀t∈iL i l,i<=t.seq)/\Seqs (iL i l)
 |_,[]=>⟨λ_ h=>(by cases h),List.Pairwise.nil⟩
 |i,k::l=>by
  obtain⟨I,J⟩:=wA (i+1) l;refine⟨λt E=>?_,List.pairwise_cons.2 ⟨λt E=>?_,J⟩⟩
  ·rcases List.mem_cons.1 E with rfl|E
   ·exact cx _
   ·have:=I t E;omega
  ·have:=I t E
   show i<t.seq;omega
end FR
namespace Go.SL
def eJ{p:HP}:∀{l r:List HP},Ent (p::(l++r)) (l++p::r):=Ent.perm List.perm_middle.symm
def Ent.back{p:HP}:∀{l r:List HP},Ent (l++p::r) (p::(l++r)):=Ent.perm List.perm_middle
end Go.SL
namespace Go.Y
open Go.Proofs Tryz
open Go Go.RowKit Go.SL
abbrev xB(c b:Nat):HP:=blk c 152 #[.map (some b)]
theorem DO{c:Nat}{mm:List (Nat×Value)}:Seqs prog G 204 #[aY c] aU (λss=>ss.Perm (mm.map (·.1))) mm.length [xB c b,dh aU b mm]:=by
 intro lo J hY;have e:(#[.func (.yield lo) #[] #[]]++#[aY c]:Array Value)=[.func (.yield lo) #[] #[],aY c].toArray:=by simp
 rw[e];refine bz func204 Z λE fr hE=>ao (l':=xB c b::dh aU b mm::(J []++fr)) aQ<|sS<|bF (au (v:=.map (some b)) Z) (ah Z)<|sO (ol (b:=b) Z Z Z bJ λO=>(sN (ai (aO (X:=List (Nat×Value)×Option (Nat×Value)×List Nat) (λ_=>[(5,aY O),(0,.func (.yield lo) #[] #[])]) (λx=>eh aU O b mm x.1 x.2.1::xB c b::(J x.2.2++fr)) (λx=>(mm.map (·.1)).Perm (x.2.2++x.1.map (·.1))) (λx=>x.1.length) (mm,none,[]) (List.Perm.refl _) bW aQ ?_))))
 rintro⟨left,T,done⟩ I;replace I:(mm.map (·.1)).Perm (done++left.map (·.1)):=I;have K:=I.length_eq;rw[List.length_append,List.length_map,List.length_map]at K;refine ao (l':=eh aU O b mm left T::xB c b::(J done++fr)) aQ<|sQ ?_
 by_cases HL:left=[]
 ·subst HL;refine sG<|sO<|lp Z Z .head (λ_=>?_) (λj q hj=>by simp at hj)
  refine bG Z Z<|sN<|sQ<|ag Z<|aM<|aw<|az<|aq ?_
  rw[List.map_nil,List.append_nil]at I;exact dt ([xB c b,dh aU b mm]++J done) Z ⟨done,I.symm,rfl⟩<|Ent.ranged.trans<|Ent.perm<|List.Perm.swap _ _ _
 ·refine sG<|sO<|lp Z Z .head (λh=>absurd h HL) λj x hx=>?_
  have Y:=(gfGet.1 hx).1;have d6:(mm.map (·.1)).Perm ((done++[x.1])++(left.eraseIdx j).map (·.1)):=by
   rw[List.append_assoc];exact I.trans<|List.Perm.append_left done ((lC hx).map (·.1))
  refine bG Z Z<|sN<|sQ<|aK Z<|aa<|sT<|ai<|sS<|bF (nQ (p:=x) Z) (mL .head)<|bG Z Z<|sB Z<|sQ<|pc<|LI.pure Z (bg Z)<|LI.pure Z (bg Z)<|LI.yield Z Z Z (hY done x.1 am) ((Ent.cons eJ).trans eJ)<|LI.pure Z (cA (r:=false) Z Z)<|LI.nil<|sT<|ag Z<|aa<|al<|aH (left.eraseIdx j,some x,done++[x.1]) d6 (by show(left.eraseIdx j).length<left.length;rw[List.length_eraseIdx_of_lt Y];omega) bW<|Ent.back.trans<|Ent.cons Ent.back
def toldU(b:Nat)(l:List Nat):HP:=HP.ex λv:Value=>HP.all [blk b 68 #[v],row 36 1 v l.length (l.map aU)]
theorem Ent.toldU{b:Nat}{l:List Nat}{v:Value}{r:List HP}:Ent (blk b 68 #[v]::row 36 1 v l.length (l.map aU)::r) (toldU b l::r):=
 (Ent.all (m:=[blk b 68 #[v],row 36 1 v l.length (l.map aU)])).trans (Ent.ex (f:=λv:Value=>HP.all [blk b 68 #[v],row 36 1 v l.length (l.map aU)]) v)
def Mj:fm prog 36 (aU 0) 1 8:=by unfold fm;kernel_rfl
def IA(b:Nat)(x:Operand):Instr.fill (λi=>some (i*1,1)) (Array.map (λx=>(aU 0).cells[x%(aU 0).cells.size]!) (Array.range (1*1))) ((List.map (λx=>x.fst) [((0:Nat),x)]).zip [aU b])=some #[aU b]:=by
 have e1:Array.range (1*1)=#[0]:=rfl;rw[e1];simp[Instr.fill,Value.cells]
theorem vI{cap:Array Value}{pre:List HP}(hN:N<=100000)(hb:eT prog f=true)(Y:Seqs prog G f cap aU S N pre) :
 dz G 228 [eC,.func (.func f) #[] cap] pre λv m=>∃ss,S ss/\m=row 36 1 v ss.length (ss.map aU)::pre:=by
 refine vB func228 Z Z λE fr hE=>aW<|sS<|sO (cP Z Z λO=>(sB Z (sQ (sS (sM Z (sN (ai (qp (pre:=pre) (fr:=fr) (j:=5) (λdone=>[toldU O done]) Z hb hE Z Y ((Ent.row0 (e:=36) (size:=1)).trans (gfE1.trans ((Ent.toldU (l:=[])).trans eJ))) (λlo E' L x K h=>AI.region (LI.pure Z (aX Z) (LI.nil (vl h)))) (λlo E' T done x d8=>?_) λbb ss hS=>?_))))))))
 ·refine AI.block<|AI.region ?_
  refine df .head λy=>bC<|ao (l':=blk O 68 #[y]::row 36 1 y done.length (done.map aU)::T) aQ<|LI.val Z (au (v:=y) Z) (ah Z)<|LI.pure Z (bg Z)<|LI.op Z (dw (m:=1) (z:=aU 0) (size:=1) (ps:=[(0,.tmp 9)]) (vs:=[aU x]) (cs:=#[aU x]) Z Z Z Z am am Z (IA _ _) λd9=>LI.op rfl (ce rfl rfl Mj rfl am rfl rfl (HasVal.sel (v:=y)) (news:=[aU x]) rfl fX iy eG gk am λd6 d7=>aN (HasVal.sel (v:=d6)) ?_))
  rintro I J rfl - - - - -
  refine LI.op Z<|cq Z Z Z Z Z di ?_
  refine aB O #[.slice I (done.length+1) J] rfl<|LI.nil<|al<|og<|Ent.trans (Ent.trans ?_ (Ent.toldU (v:=.slice I (done.length+1) J) (l:=done++[x]))) aQ
  rw[List.length_append,List.map_append];show Ent _ (blk O 68 #[.slice I (done.length+1) J]::row 36 1 (.slice I (done.length+1) J) (done.length+1) (done.map aU++[aU x])::T);exact aG
 refine ao (l':=toldU O ss::pj bb::(pre++fr)) ((Ent.cons Ent.back).trans (Ent.perm (List.Perm.swap _ _ _)))<|df .head λy=>bC<|ao (l':=blk O 68 #[y]::row 36 1 y ss.length (ss.map aU)::pj bb::(pre++fr)) aQ<|al<|sT<|sS<|bF (au (v:=y) Z) (ah Z)<|sB Z<|an<|BP (row 36 1 y ss.length (ss.map aU)::pre) dm Z Z ⟨ss,hS,rfl⟩ Ent.drop
section
variable{cap:Array Value}{pre:List HP}
def yW(J:N<=100000)(K:eT prog f=true)(I:Seqs prog G f cap aU S N pre) :
 dz G 202 [.func (.func f) #[] cap] pre λv m=>∃ss,S ss/\m=row 36 1 v ss.length (ss.map aU)::pre:=by
 refine bz func202 Z λE fr T=>aW<|sS<|sB Z<|bp Z<|bQ Z (vI J K I) aQ ?_
 rintro v m ⟨ss,O,rfl⟩;exact aW<|sB Z<|an<|ar (row 36 1 v ss.length (ss.map aU)::pre) Z Z ⟨ss,O,rfl⟩ aQ
def AT(hN:N<=100000)(hb:eT prog f=true)(K:Seqs prog G f cap aU S N pre)(I:∀ss,S ss->ss.length<=12) :
 dz G 156 [.func (.func f) #[] cap] pre λv m=>∃(ss J:List Nat),S ss/\J.Perm ss/\J.Pairwise (·<=·)/\m=row 36 1 v J.length (J.map aU)::pre:=by
 refine bz func156 Z λE fr hE=>aW<|sS<|sB Z<|bp Z<|bQ Z (yW hN hb K) aQ ?_
 rintro v m ⟨ss,hS,rfl⟩;refine aW ?_;have O:=FR.zv 0 ss;have hX:(FR.iL 0 ss).map uV=ss.map aU:=by
  have:=congrArg (List.map aU) O
  rwa [List.map_map]at this
 have T:(FR.iL 0 ss).length=ss.length:=by have:=congrArg List.length O;rwa [List.length_map]at this
 refine ao (l':=row 36 1 v (FR.iL 0 ss).length ((FR.iL 0 ss).map uV)::(pre++fr)) (by rw[hX,T];exact aQ) ?_;have d6:=I ss hS;refine sB Z<|bp Z<|bQ Z (CZ (X:=FR.iL 0 ss) am (FR.wA 0 ss).2) aQ ?_
 rintro v m ⟨rfl,Y,hY,rfl⟩;refine ae<|sN<|bp Z<|sB Z<|an<|ar (row 36 1 v (Y.map FR.Tmd.due).length ((Y.map FR.Tmd.due).map aU)::pre) Z Z ⟨ss,Y.map FR.Tmd.due,hS,by rw[<-O];exact hY.perm.map _,?_,rfl⟩ ?_
 ·rw[List.pairwise_map]
  refine hY.srt.imp λh=>FR.It h
 ·rw[List.map_map,List.length_map]
  exact aQ
end
def GG(b:Nat):dz G 157 [.map (some b)] [] λv m=>∃c,v=.func (.func 204) #[] #[aY c]/\m=[xB c b]:=by
 refine bz func157 Z λE fr J=>aW<|sS<|sO (cP Z Z λI=>(sB Z (sS (sP (gj Z Z) (sB Z<|an<|ar [xB I b] rfl Z ⟨I,rfl,rfl⟩ aQ)))))
def JI{p:EA}{S:FK.En}(h:S.runs.length<=12):dz G 104 [aY e] [aP e p S] λv m=>∃I:List Nat,I.Perm (S.runs.map (·.1))/\I.Pairwise (·<=·)/\m=[aP e p S,row 36 1 v I.length (I.map aU)]:=by
 have hk:(fF S p).map (·.1)=S.runs.map (·.1):=by unfold fF;rw[List.map_map];rfl
 have Y:(fF S p).length=S.runs.length:=by unfold fF;rw[List.length_map]
 refine bz func104 Z λE fr hE=>ae<|sS<|sB Z<|sS<|cE 1 Z Z<|bF (au (v:=.map (some p.rm)) Z) eN<|bQ Z (GG p.rm) aQ ?_
 rintro v m ⟨c,rfl,rfl⟩;refine ae<|ao (l':=xB c p.rm::HP.pure (fy S)::fa e (lI S p) S.NP::dh aU p.rm (fF S p)::gZ p S.runs::dh aU p.tm (ep S)::ew p.w S.now S.sets S.tms::fr) (Ent.cons (Ent.unall (m:=kL e p S)))<|bQ Z (AT (by rw[Y];omega) Z (DO (b:=p.rm) (c:=c) (mm:=fF S p)) λss O=>by have:=O.length_eq;rw[List.length_map]at this;omega) (Ent.cons gfE2) ?_
 rintro v m ⟨ss,I,T,K,J,rfl⟩;refine aW<|sB Z<|an<|ar [aP e p S,row 36 1 v I.length (I.map aU)] rfl Z ⟨I,K.trans (hk▸T),J,rfl⟩<|Ent.trans ?_<|Ent.all (m:=kL e p S)
 show Ent (row 36 1 v I.length (I.map aU)::xB c p.rm::dh aU p.rm (fF S p)::HP.pure (fy S)::fa e (lI S p) S.NP::gZ p S.runs::dh aU p.tm (ep S)::ew p.w S.now S.sets S.tms::fr) (HP.pure (fy S)::fa e (lI S p) S.NP::dh aU p.rm (fF S p)::gZ p S.runs::dh aU p.tm (ep S)::ew p.w S.now S.sets S.tms::row 36 1 v I.length (I.map aU)::fr);exact aG
end Go.Y
