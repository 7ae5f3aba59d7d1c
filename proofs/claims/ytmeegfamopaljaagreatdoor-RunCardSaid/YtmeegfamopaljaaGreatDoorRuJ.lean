/- The document's engine: calls of tasks. -/
import Derived.Test.YtmeegfamopaljaaGreatDoorRuI
import Derived.Test.YtmeegfamopaljaaGreatDoorRuH
import Derived.Test.YtmeegfamopaljaaGreatDoorRuG
import Derived.Test.YtmeegfamopaljaaGreatDoorRuE
import Derived.RangeFuncLeaves
import Derived.RangeFuncSeq
import Derived.Test.YtmeegfamopaljaaGreatDoorRuD
import Derived.Test.YtmeegfamopaljaaGreatDoorRuF
set_option maxHeartbeats 4000000
set_option maxRecDepth 20000
variable {G:Go.SL.Env->Prop} {R:Go.Value->List Go.SL.HP->Prop} {ns:List Go.Y.ND} {M:FR.En} {a:Go.Y.RfA} {v:Go.Value} {s:FR.St} {N b e i id j k m n:Nat} {Q:Go.Exit->Go.Act->Go.World->Prop} {E:Go.SL.Env} {I:List (Nat×Go.Value)} {K:Go.Act->Go.World->Prop} {u:FR.Rn} {w:Go.World} {P:Go.Program} {D:List Go.Deferred} {af:Array Go.Edge} {l:List Go.SL.HP} {f:Go.FuncId}
namespace FR
theorem setS_at {r:Rn} (E:r.KV[k]?=some s) (s':St):(r.setS k s').KV[k]?=some s':=by
 have:=(gfGet.1 E).1;simp[Rn.setS,this]
theorem setS_setS (r:Rn) (k:Nat) (a b:St):(r.setS k a).setS k b=r.setS k b:=by
 unfold Rn.setS;simp
theorem setS_len (r:Rn) (k:Nat) (s:St):(r.setS k s).KV.length=r.KV.length:=by simp[Rn.setS]
structure Wk (M:En) (tok i k:Nat) (u:Rn) (s:St):Prop where
 run:M.runs[i]?=some u
 step:u.KV[k]?=some s
 st:s.state=3
 tok:s.token=tok
end FR
namespace Go.Y
open Go.Proofs
open Go Go.RowKit Go.SL
theorem te (tok:Nat) (h:M.runs.length<=100) (Fd:∀u∈M.runs,u.KV.length<=100):dx G 121 [aX e,aQ tok] [aV e a ns M] λv m=>((∃(i k:Nat) (u:FR.Rn) (s:FR.St),FR.Wk M tok i k u s/\v=.tuple #[aw i,aw k])\/(∀i k u s,¬FR.Wk M tok i k u s)/\v=.tuple #[aw (-1),aw (-1)])/\m=[aV e a ns M]:=by
 refine bA Tryz.func121 Z λE fr hE=>aa<|sS<|sA Z<|sB Z<|sQ<|sS<|sB Z<|ag ?_
 refine aO (X:=Nat) (λi=>[(6,aw i),(0,aX e),(1,aQ tok)]) (λ_=>aV e a ns M::fr) (λi=>i<=M.runs.length/\∀j k u s,j<i->¬FR.Wk M tok j k u s) (λi=>M.runs.length-i) 0 ⟨Nat.zero_le _,λj k u s h=>by omega⟩ bV aT ?_;rintro i ⟨hi,hno⟩;refine sQ<|bq Z<|cG 2 Z Z<|bF (au (v:=iP a M) Z) (cg Z)<|sP (bp Z Z)<|sP (bz Z Z Z)<|sN ?_
 refine aB Z (λY=>?_) λY=>?_
 ·
  have K:i<M.runs.length:=by have:(i:Int)<(M.runs.length:Int):=Y;omega
  obtain⟨u,O⟩:∃u,M.runs[i]?=some u:=⟨M.runs[i],by simp[K]⟩;have K6:=Fd u (bY O);refine bt (p:=∃g,a.rg=some g) (λw hw=>gY O hw) λ⟨gr,hg⟩=>?_;refine ae<|sT<|sQ<|ag<|sS<|sB Z<|ag ?_
  refine aO (X:=Nat) (λk=>[(7,aw k),(6,aw i),(0,aX e),(1,aQ tok)]) (λ_=>aV e a ns M::fr) (λk=>k<=u.KV.length/\∀j v s,j<k->¬FR.Wk M tok i j v s) (λk=>u.KV.length-k) 0 ⟨Nat.zero_le _,λj v s h=>by omega⟩ bV aT ?_;rintro k ⟨hk,T⟩;refine sQ<|bq Z<|cG 2 Z Z<|bF (au (v:=dp gr M.runs.length a.rc) Z) (dF hg)<|ch Z (aS (z:=8) Z Z Z Z K)<|bn 6 Z<|bF (au (v:=jg (a.ra u.id) u) Z) (cE (j:=6) O hg Z)<|sP (bp Z Z)<|sP (bz Z Z Z)<|sN ?_
  refine aB Z (λmt=>?_) λmt=>?_
  ·
   have wf:k<u.KV.length:=by have:(k:Int)<(u.KV.length:Int):=mt;omega
   obtain⟨s,hs⟩:∃s,u.KV[k]?=some s:=⟨u.KV[k],by simp[wf]⟩;refine ae<|sT<|sQ<|ag<|sS<|cG 2 Z Z<|bF (au (v:=dp gr M.runs.length a.rc) Z) (dF hg)<|ch Z (aS (z:=8) Z Z Z Z K)<|bn 6 Z<|bF (au (v:=jg (a.ra u.id) u) Z) (cE (j:=6) O hg Z)<|ch Z (aS (z:=7) Z Z Z Z wf)<|bF (bO (vs:=qQ s) Z) (qW O Z hs)<|sO (cH (z:=.agg #[aw 0,aw 0,.int .u64 0,.int .u64 0,.int .u64 0,aw 0,aw 0]) Z λb8=>?_)
   refine sO<|bh (vs:=qQ s) Z (m:=7) Z Z Z Z er (by show 0+7<=7;omega) ?_
   refine aG b8 (qQ s).toArray Z<|sN<|sS<|bn 0 Z<|bF (au (v:=aw s.state) Z) (ah Z) (ck Z (aY Z Z Z) (λ_ _=>trivial) λI K4=>(sM Z ?_))
   refine bN I (by rfl) ?_;refine cB Z Z (λ_=>rfl) (bl 2 Z) (λ_ _=>trivial) ?_;refine bN I (by rfl) ?_;refine cB Z Z (λ_=>rfl) (au (v:=aQ s.token) Z) (ah Z) ?_;refine bN I (by rfl) ?_;refine cB Z Z (λ_=>rfl) (bd Z) (λ_ _=>trivial) ?_;refine bN I (by rfl) ?_;refine cB Z Z (λ_=>rfl) (aY Z Z Z) (λ_ _=>trivial) ?_;refine ck Z (dJ Z Z Z) (λ_ _=>trivial) λBT K5=>sN ?_;refine ce Z (λBT=>?_) λBT=>?_
   ·
    have hw:FR.Wk M tok i k u s:=⟨O,hs,by simp_all,by simp_all;omega⟩;exact bq Z<|sM Z<|sA Z<|sB Z<|an<|aH<|aC<|bP<|aH<|aH<|aC<|bP<|aH<|aC<|dr [aV e a ns M] rfl (bL Z) (bL Z) ⟨.inl ⟨i,k,u,s,hw,rfl⟩,rfl⟩ Ent.drop
   ·
    have hw:∀v s,¬FR.Wk M tok i k v s:=λv s' h=>by
     have J:=h.run;rw[O] at J;injection J with J;subst J;have h2:=h.step;rw[hs] at h2;injection h2 with h2;subst h2;have h3:=h.st;have h4:=h.tok
     simp_all
    refine ae<|al<|sT<|sG<|ch Z (bc (r:=((k+1:Nat):Int)) Z Z dP)<|sA Z<|ao ?_
    exact aE (k+1) ⟨wf,λj v s' hj=>(by
     rcases Nat.lt_succ_iff_lt_or_eq.1 hj with hj|rfl
     · exact T j v s' hj
     · exact hw v s')⟩ am ⟨rfl,rfl,rfl,rfl,trivial⟩ Ent.drop
  ·
   have In:k=u.KV.length:=by have:¬(k:Int)<(u.KV.length:Int):=mt;omega
   refine aL<|aA<|az<|ap<|al<|sT<|sG<|ch Z (bc (r:=((i+1:Nat):Int)) Z Z dP)<|sA Z<|ao ?_
   exact aE (i+1) ⟨K,λj k' v s' hj=>(by
    rcases Nat.lt_succ_iff_lt_or_eq.1 hj with hj|rfl
    · exact hno j k' v s' hj
    · intro h
      have J:=h.run;rw[O] at J;injection J with J;exact T k' v s' (by rw[In,J];exact(gfGet.1 h.step).1) h)⟩ am ⟨rfl,rfl,rfl,trivial⟩ aT
 ·
  have K3:i=M.runs.length:=by have:¬(i:Int)<(M.runs.length:Int):=Y;omega
  refine aL<|aA<|az<|ap<|sT<|sS<|sA Z<|sB Z<|an ?_
  exact dr [aV e a ns M] rfl (bL Z) (bL Z) ⟨.inr ⟨λj k u s h=>hno j k u s (by rw[K3];exact(gfGet.1 h.run).1) h,rfl⟩,rfl⟩ aT
abbrev EV (M:FR.En) (tok i k:Nat):Prop:=∀j l u s,FR.Wk M tok j l u s->j=i/\l=k
section
variable {tok:Nat}
theorem Aj (h:M.runs.length<=100) (I:∀u∈M.runs,u.KV.length<=100) (hw:FR.Wk M tok i k u s) (J:EV M tok i k):dx G 121 [aX e,aQ tok] [aV e a ns M] λv m=>v=.tuple #[aw i,aw k]/\m=[aV e a ns M]:=
 (te tok h I).mono λv m ⟨E,K⟩=>⟨m,⟨by
  rcases E with⟨j,l,u',s',E,h3⟩|⟨E,_⟩
  · obtain⟨rfl,rfl⟩:=J _ _ _ _ E
    exact h3
  · exact absurd hw (E _ _ _ _),K⟩,aT⟩
theorem Ak (h:M.runs.length<=100) (I:∀u∈M.runs,u.KV.length<=100) (hw:∀i k u s,¬FR.Wk M tok i k u s):dx G 121 [aX e,aQ tok] [aV e a ns M] λv m=>v=.tuple #[aw (-1),aw (-1)]/\m=[aV e a ns M]:=
 (te tok h I).mono λv m ⟨E,J⟩=>⟨m,⟨by
  rcases E with⟨j,l,u',s',E,h3⟩|⟨_,E⟩
  · exact absurd E<|hw _ _ _ _
  · exact E,J⟩,aT⟩
theorem yW (h:M.runs.length<=100) (I:∀u∈M.runs,u.KV.length<=100) (hw:∀i k u s,¬FR.Wk M tok i k u s):dx G 68 [aX e,aQ tok] [aV e a ns M] λv m=>v=aw 7/\m=[aV e a ns M]:=by
 refine bA Tryz.func68 Z λE fr J=>aa<|sS<|sB Z<|bq Z<|sM Z ?_
 refine bW Z (Ak h I hw) aT ?_;refine aa<|sM Z<|bT Z Z<|bT Z Z<|sA Z<|sB Z<|sQ<|bq Z<|sP (bz (r:=true) Z Z Z)<|sN<|aM Z<|sS<|sA Z<|ao ?_
 exact sT<|an<|aC<|ar [aV e a ns M] rfl Z ⟨rfl,rfl⟩ aT
theorem qJ (h:M.runs.length<=100) (I:∀u∈M.runs,u.KV.length<=100) (hw:∀i k u s,¬FR.Wk M tok i k u s):dx G 69 [aX e,aQ tok] [aV e a ns M] λv m=>v=aw 7/\m=[aV e a ns M]:=by
 refine bA Tryz.func69 Z λE fr J=>aa<|sS<|sB Z<|bq Z<|sM Z ?_
 refine bW Z (Ak h I hw) aT ?_;refine aa<|sM Z<|bT Z Z<|bT Z Z<|sA Z<|sB Z<|sQ<|bq Z<|sP (bz (r:=true) Z Z Z)<|sN<|aM Z<|sS<|sA Z<|ao ?_
 exact sT<|an<|aC<|ar [aV e a ns M] rfl Z ⟨rfl,rfl⟩ aT
theorem yO (h:M.runs.length<=100) (I:∀u∈M.runs,u.KV.length<=100) (hw:∀i k u s,¬FR.Wk M tok i k u s):dx G 70 [aX e,aQ tok] [aV e a ns M] λv m=>v=aw 7/\m=[aV e a ns M]:=by
 refine bA Tryz.func70 Z λE fr J=>aa<|sS<|sB Z<|bq Z<|sM Z ?_
 refine bW Z (Ak h I hw) aT ?_;refine aa<|sM Z<|bT Z Z<|bT Z Z<|sA Z<|sB Z<|sQ<|bq Z<|sP (bz (r:=true) Z Z Z)<|sN<|aM Z<|sS<|sA Z<|ao ?_
 exact sT<|an<|aC<|ar [aV e a ns M] rfl Z ⟨rfl,rfl⟩ aT
theorem qI (h:M.runs.length<=100) (In:∀u∈M.runs,u.KV.length<=100) (hw:FR.Wk M tok i k u s) (ho:EV M tok i k) (Y:u.KV.length=u.fl.KW.length) (mt:tU u.fl) (hn:u.fl.KW.length<=12) (hq:M.KX.length<=500) (he:M.ends<9223372036854775807):dx G 69 [aX e,aQ tok] [aV e a ns M,bx ns] λv m=>v=aw 0/\∃g c,m=[aV e (a.q g c) ns (M.complete i k u s),bx ns]:=by
 have K5:=(gfGet.1 hw.run).1;have K6:=(gfGet.1 hw.step).1;refine bA Tryz.func69 Z λE fr hE=>aD ?_;refine bt (p:=∃g,a.rg=some g) (λw hv=>gY hw.run hv) λ⟨gr,hg⟩=>?_;refine sS<|sB Z<|bq Z<|sM Z ?_
 refine bW Z (Aj h In hw ho) aT ?_;refine aa<|sM Z<|bT Z Z<|bT Z Z<|sA Z<|sB Z<|sQ<|bq Z<|sP (cS Z Z am)<|sN<|aj Z<|ae<|sT<|sS ?_
 refine cG 2 Z Z<|bF (au (v:=dp gr M.runs.length a.rc) Z) (dF hg)<|ch Z (aS (z:=8) Z Z Z Z K5)<|bn 6 Z<|bF (au (v:=jg (a.ra u.id) u) Z) (cE (j:=6) hw.run hg Z)<|ch Z (aS (z:=7) Z Z Z Z K6)<|bn 0 Z ?_
 refine sO<|iC (j:=0) (s':={s with state:=5}) hw.run Z hw.step Z Z Z Z am Z Z ?_
 refine sN<|sQ ?_
 obtain⟨J,K⟩:∃J,J=u.setS k {s with state:=5}:=⟨_,rfl⟩;obtain⟨T,I⟩:∃T,T=M.setR i J:=⟨_,rfl⟩;rw[<-K,<-I];have wf:T.runs[i]?=some J:=by rw[I];exact FR.ic hw.run _
 have O:J.fl=u.fl:=by rw[K];rfl
 have BT:J.KV.length=u.KV.length:=by rw[K];exact FR.setS_len _ _ _
 obtain⟨u2,K3,_,_,K8,K4⟩:=FR.wakeN_on wf J.KV.length;have Fd:T.KX=M.KX:=by rw[I];rfl
 have K7:(T.wakeN i J.KV.length).ends=M.ends:=by rw[FR.kD,I];rfl
 refine sG<|sM Z<|sM Z ?_
 refine bU Z (s9 wf (by rw[BT,O];exact Y) (by rw[O];exact mt) (by rw[O];exact hn) (by rw[Fd];exact hq)) aT ?_;rintro v m ⟨rfl,g1,c1,rfl⟩;refine aD<|sN<|bq Z<|sM Z ?_
 refine bU Z (oO K3 (by rw[K7];exact he) am (by rw[Fd] at K4;omega)) aT ?_;rintro v m ⟨rfl,g2,c2,rfl⟩;refine aa<|sN<|sS<|sB Z<|an<|ar [aV e (a.q g2 c2) ns (M.complete i k u s),bx ns] rfl Z ⟨rfl,g2,c2,rfl⟩ ?_
 have:M.complete i k u s=(T.wakeN i J.KV.length).settle i:=by rw[BT,I,K];rfl
 rw[this];exact aT
theorem yV {nd:FK.Node} (h:M.runs.length<=100) (K6:∀u∈M.runs,u.KV.length<=100) (hw:FR.Wk M tok i k u s) (ho:EV M tok i k) (hnd:u.fl.KW[k]?=some nd) (ht:M.time<=4611686018427387904) (hb:nd.beat<=4611686018427387904) (K7:M.timers<9223372036854775807):dx G 68 [aX e,aQ tok] [aV e a ns M,bx ns] λv m=>v=aw 0/\m=[aV e a ns (M.beat i k u s nd),bx ns]:=by
 have BT:=(gfGet.1 hw.run).1;have K3:=(gfGet.1 hw.step).1;refine bA Tryz.func68 Z λE fr hE=>aD ?_;refine bt (p:=∃g,a.rg=some g) (λw hv=>gY hw.run hv) λ⟨gr,O⟩=>?_;refine bt (p:=jx a ns M) (λw hw=>l8 hw) λK8=>?_;obtain⟨mt,K9⟩:=K8 u (bY hw.run);have K:(a.ra u.id).nd.ns[k]?=some nd:=by rw[K9];exact hnd
 refine bt (λw hw=>rM mt K hw) λhA=>?_;obtain⟨A,c,Lb,Ld,Le,Lg,Lh⟩:=hA;refine sS<|sB Z<|bq Z<|sM Z ?_
 refine bW Z (Aj h K6 hw ho) aT ?_;refine aa<|sM Z<|bT Z Z<|bT Z Z<|sA Z<|sB Z<|sQ<|bq Z<|sP (cS Z Z am)<|sN<|aj Z<|ae<|sT<|sS ?_
 refine cG 2 Z Z<|bF (au (v:=dp gr M.runs.length a.rc) Z) (dF O)<|ch Z (aS (z:=8) Z Z Z Z BT)<|bn 1 Z<|bn 1 Z<|bF (au (v:=(a.ra u.id).nd.nv) Z) (cE (j:=2) hw.run O Z)<|sM Z ?_
 refine sP (aS (z:=7) Z Z Z Z ((gfGet.1 K).1)) ?_;refine bF (bO (vs:=bk nd (.slice A nd.after.length c)) Z) (rL mt K Lb)<|sO (cH (z:=.agg #[aw 0,aw 0,aw 0,aw 0,aw 0,aw 0,cx]) Z λb7=>?_)
 refine sO<|bh (vs:=bk nd (.slice A nd.after.length c)) Z (m:=7) Z Z Z Z (by simp[bk,Value.oneCell']) (by show 0+7<=7;omega) ?_
 refine aG b7 (bk nd (.slice A nd.after.length c)).toArray Z<|sN<|sQ<|sS<|bn 2 Z<|bF (au (v:=aw nd.beat) Z) (ah Z)<|sP (dY Z Z Z)<|sN ?_
 refine aB Z (λwf=>?_) λwf=>?_
 ·
  have Fd:0<nd.beat:=wf;refine sQ<|sZ Z<|dT Z Z<|dt 2 Z Z Z<|bQ Z (au (v:=dp gr M.runs.length a.rc) Z) (dF O)<|cv Z Z<|bC Z (aS (z:=8) Z Z Z Z BT)<|bC Z (bl 6 Z)<|bQ Z (au (v:=jg (a.ra u.id) u) Z) (cE (j:=6) hw.run O Z)<|cv Z Z<|cv Z Z<|dt 0 Z Z Z<|bQ Z (au (v:=aQ M.time) Z) (cg Z)<|bC Z (bl 2 Z)<|bQ Z (au (v:=aw nd.beat) Z) (ah Z) ?_
  refine dA 15 Z<|ed Z (jJ M.time nd.beat ht am hb) aT ?_
  rintro v m ⟨rfl,rfl⟩;refine aZ<|dK [false,false,true,true] (ai (cE (j:=6) hw.run O Z) (ai (dF O) ak))<|dj 16 Z (aS (z:=7) Z Z Z Z K3)<|bC Z (bl 4 Z) ?_
  refine dA 18 Z<|iC (j:=4) (s':={s with sign:=M.later nd.beat.toNat}) hw.run Z hw.step Z Z Z Z am Z Z ?_
  refine dK [false,false] ak<|dE<|sT ?_
  obtain⟨T,Y⟩:∃T,T=u.setS k {s with sign:=M.later nd.beat.toNat}:=⟨_,rfl⟩;obtain⟨I,J⟩:∃I,I=M.setR i T:=⟨_,rfl⟩;rw[<-Y,<-J];have In:I.runs[i]?=some T:=by rw[J];exact FR.ic hw.run _
  have hs1:T.KV[k]?=some {s with sign:=M.later nd.beat.toNat}:=by rw[Y];exact FR.setS_at hw.step _
  have Lc:I.runs.length=M.runs.length:=by rw[J];exact FR.rZ _ _ _
  have K4:T.KV.length=u.KV.length:=by rw[Y];exact FR.setS_len _ _ _
  have K5:I.timers=M.timers:=by rw[J];rfl
  refine sZ Z<|dT Z Z<|dt 2 Z Z Z<|bQ Z (au (v:=dp gr I.runs.length a.rc) Z) (dF O)<|cv Z Z ?_
  refine dj 5 Z (aS (z:=8) Z Z Z Z (by rw[Lc];exact BT)) ?_;refine dj 6 Z (bl 6 Z)<|bQ Z (au (v:=jg (a.ra T.id) T) Z) (cE (j:=6) In O Z)<|cv Z Z<|cv Z Z ?_
  refine dA 10 Z<|ed Z (jI (M:=I) (by rw[K5];exact K7)) aT ?_
  rintro v m ⟨rfl,rfl⟩;refine aa ?_;refine dK [true,true] (ai (cE (M:={I with timers:=I.timers+1}) (j:=6) In O Z) (ai (dF (M:={I with timers:=I.timers+1}) O) ak)) ?_;refine dj 11 Z (aS (z:=7) Z Z Z Z (by rw[K4];exact K3)) ?_;refine dj 12 Z (bl 6 Z) ?_;refine dA 13 Z<|iC (M:={I with timers:=I.timers+1}) (i:=i) (j:=6) (s':={s with sign:=M.later nd.beat.toNat,signAt:=I.timers+1}) In Z hs1 Z Z Z Z am Z Z ?_
  refine dK [false,false] ak<|dE<|sT<|sS<|sB Z<|an<|ar [aV e a ns (M.beat i k u s nd),bx ns] rfl Z ⟨rfl,rfl⟩ ?_
  have:M.beat i k u s nd=FR.En.setR {I with timers:=I.timers+1} i (T.setS k {s with sign:=M.later nd.beat.toNat,signAt:=I.timers+1}):=by
   unfold FR.En.beat;rw[if_pos Fd,Y,FR.setS_setS,K5,J];unfold FR.En.setR;simp
  rw[this];exact Ent.cons Ent.drop
 ·
  have Fd:¬0<nd.beat:=wf;refine ae<|sT<|sS<|sB Z<|an<|ar [aV e a ns (M.beat i k u s nd),bx ns] rfl Z ⟨rfl,rfl⟩ ?_
  have:M.beat i k u s nd=M:=if_neg Fd;rw[this];exact Ent.drop
end
end Go.Y
namespace FR
abbrev Rn.at_ (u:Rn) (l:List St):Rn:={u with KV:=l}
theorem skipK_at {ns:List FK.Node} {l:List St} {nd:FK.Node} (E:l[j]?=some s) (I:ns[j]?=some nd):skipK ns l j=if s.state=1/\(nd.after.any λu=>FK.cO (l.map St.ab) u.toNat 6||FK.cO (l.map St.ab) u.toNat 7) then l.set j {s with state:=7} else l:=by
 unfold skipK;rw[E,I]
end FR
namespace Go.Y
open Go.Proofs
open Go Go.RowKit Go.SL
theorem AZ (nd:FK.Node) (A:Option Addr) (n c:Nat) (k:Int) (seed:Nat) (E:1<=nd.base) (I:nd.base<=nd.cap) (h3:nd.cap<=1048576) (J:0<=nd.K0) (K:nd.K0<=1048576) (hk:i64 k) (O:seed<18446744073709551616):dx G 186 [.agg (bk nd (.slice A n c)).toArray,aw k,.int .u64 seed] [] λv m=>v=aw (FK.fU nd.base nd.cap nd.K0 k seed)/\m=[]:=
 (fM (φ:=λ_=>True) λ_ w _ _ _=>tO nd.KZ nd.close nd.beat nd.base nd.cap nd.K0 A n c k seed w E I h3 J K hk am am).does
theorem yM {nd:FK.Node} (hi:M.runs[i]?=some u) (hs:u.KV[k]?=some s) (hnd:u.fl.KW[k]?=some nd) (LF:u.KV.length=u.fl.KW.length) (LG:tU u.fl) (hn:u.fl.KW.length<=12) (K:1<=nd.base) (h2:nd.base<=nd.cap) (h3:nd.cap<=1048576) (h4:0<=nd.K0) (h5:nd.K0<=1048576) (LS:i64 s.KU) (Lr:M.seed<18446744073709551616) (ht:M.time<=4611686018427387904) (LT:M.timers<9223372036854775807) (he:M.ends<9223372036854775807) (hq:M.KX.length<=1000):dx G 123 [aX e,aw i,aw k] [aV e a ns M,bx ns] λv m=>v=.tuple #[]/\∃g c,m=[aV e (a.q g c) ns (M.fails i k u s nd),bx ns]:=by
 have LZ:=(gfGet.1 hi).1;have L3:=(gfGet.1 hs).1;have K9:0<=FK.fU nd.base nd.cap nd.K0 s.KU M.seed/\FK.fU nd.base nd.cap nd.K0 s.KU M.seed<=4611686018427387904:=by
  have hm:=jy (seed:=(M.seed:Int)) h4 h5;unfold FK.fU;have LM:∀x:Int,1<=x->0<=min nd.cap x/\min nd.cap x<=1048576:=λx hx=>by omega
  split
  · omega
  · split
    · have hp:(1:Int)<=nd.base*2 ^ (s.KU.toNat-1):=by
       have h6:(1:Int)<=2 ^ (s.KU.toNat-1):=by simpa using Int.add_one_le_of_lt (Int.pow_pos (m:=s.KU.toNat-1) (show(0:Int)<2 by decide))
       have:=Int.mul_le_mul K h6 fi am;simpa using this
      have:=LM _ hp;omega
    · omega
 refine bA Tryz.func123 Z λE fr hE=>aD ?_;refine bt (p:=∃g,a.rg=some g) (λw hv=>gY hi hv) λ⟨gr,hg⟩=>?_;refine bt (p:=jx a ns M) (λw hw=>l8 hw) λLU=>?_;obtain⟨Y,LH⟩:=LU u (bY hi);have Lb:(a.ra u.id).nd.ns[k]?=some nd:=by rw[LH];exact hnd
 refine bt (λw hw=>rM Y Lb hw) λhA=>?_;obtain⟨A,c,LV,Mc,Md,Me,Mf⟩:=hA;refine sS<|cG 2 Z Z<|bF (au (v:=dp gr M.runs.length a.rc) Z) (dF hg)<|ch Z (aS (z:=8) Z Z Z Z LZ)<|bF (bO (vs:=gT (a.ra u.id) u) Z) (kX hi hg)<|sO (cH (z:=.agg #[.int .u64 0,aw 0,cx,aw 0,.int .u64 0,aw 0,cx,aw 0]) Z λb6=>?_)
 refine sO<|bh (vs:=gT (a.ra u.id) u) Z (m:=8) Z Z Z Z er (by show 0+8<=8;omega) ?_
 refine aG b6 (gT (a.ra u.id) u).toArray Z<|sN<|sS<|bn 6 Z<|bF (au (v:=jg (a.ra u.id) u) Z) (ah Z)<|ch Z (aS (z:=7) Z Z Z Z L3)<|sB Z<|sS<|bn 1 Z<|bn 1 Z<|bF (au (v:=(a.ra u.id).nd.nv) Z) (ah Z)<|sM Z ?_
 refine sP (aS (z:=7) Z Z Z Z ((gfGet.1 Lb).1)) ?_;refine bF (bO (vs:=bk nd (.slice A nd.after.length c)) Z) (rL Y Lb LV)<|sO (cH (z:=.agg #[aw 0,aw 0,aw 0,aw 0,aw 0,aw 0,cx]) Z λb8=>?_)
 refine sO<|bh (vs:=bk nd (.slice A nd.after.length c)) Z (m:=7) Z Z Z Z (by simp[bk,Value.oneCell']) (by show 0+7<=7;omega) ?_
 refine aG b8 (bk nd (.slice A nd.after.length c)).toArray Z<|sN<|sQ<|sQ<|sZ Z<|dT Z Z<|dt 1 Z Z Z<|bQ Z (au (v:=aw s.KU) Z) (dH (j:=1) hi Z hs Z)<|bC Z (bl 0 Z)<|bQ Z (au (v:=aw nd.KZ) Z) (ah Z)<|bC Z (bz Z Z Z)<|dE<|sT ?_
 refine aB Z (λLs=>?_) λLs=>?_
 ·
  have hb:s.KU<nd.KZ:=Ls;refine sS<|cG 0 Z Z ?_
  refine sO<|iC (j:=0) (s':={s with state:=4}) hi Z hs Z Z Z Z am Z Z ?_
  refine sN<|sQ ?_
  obtain⟨u1,Li⟩:∃u1,u1=u.setS k {s with state:=4}:=⟨_,rfl⟩;obtain⟨M1,K6⟩:∃M1,M1=M.setR i u1:=⟨_,rfl⟩;rw[<-Li,<-K6];have LD:M1.runs[i]?=some u1:=by rw[K6];exact FR.ic hi _
  have Lc:u1.id=u.id:=by rw[Li];rfl
  have hs1:u1.KV[k]?=some {s with state:=4}:=by rw[Li];exact FR.setS_at hs _
  have L4:M1.timers=M.timers:=by rw[K6];rfl
  have Lo:M1.time=M.time:=by rw[K6];rfl
  have K3:M1.seed=M.seed:=by rw[K6];rfl
  refine sZ Z<|dT Z Z<|cv Z Z<|dt 0 Z Z Z<|bQ Z (au (v:=aQ M1.time) Z) (cg Z)<|bQ Z (bO (vs:=bk nd (.slice A nd.after.length c)) Z) (bm Z)<|cv Z Z<|dt 1 Z Z Z<|bQ Z (au (v:=aw s.KU) Z) (dH (j:=1) LD Lc hs1 Z)<|cv Z Z<|dt 1 Z Z Z<|bQ Z (au (v:=aQ M1.seed) Z) (cg Z) ?_
  refine dA 14 Z<|ed Z (AZ nd A nd.after.length c s.KU M1.seed K h2 h3 h4 h5 LS (by rw[K3];exact Lr)) aT ?_
  rintro v m ⟨rfl,rfl⟩;refine aZ<|dK [false,false,false,true] (ai (cg Z) ak) ?_
  refine dA 15 Z<|ed Z (jJ M1.time (FK.fU nd.base nd.cap nd.K0 s.KU M1.seed) (by rw[Lo];exact ht) (by rw[K3];exact K9.1) (by rw[K3];exact K9.2)) aT ?_
  rintro v m ⟨rfl,rfl⟩;refine aZ<|dK [false] ak<|dj 16 Z (cI Z)<|bC Z (bl 3 Z) ?_
  refine dA 18 Z<|iC (j:=3) (s':={s with state:=4,fin:=M1.later (FK.fU nd.base nd.cap nd.K0 s.KU M1.seed).toNat}) LD Lc hs1 Z Z Z Z am Z Z ?_
  refine dK [] ak<|dE<|sT<|sQ ?_
  obtain⟨s2,Ln⟩:∃s2:FR.St,s2={s with state:=4,fin:=M1.later (FK.fU nd.base nd.cap nd.K0 s.KU M1.seed).toNat}:=⟨_,rfl⟩;obtain⟨u2,Lj⟩:∃u2,u2=u1.setS k s2:=⟨_,rfl⟩;obtain⟨M2,Ll⟩:∃M2,M2=M1.setR i u2:=⟨_,rfl⟩;rw[<-Ln,<-Lj,<-Ll];have L5:M2.runs[i]?=some u2:=by rw[Ll];exact FR.ic LD _
  have LN:u2.id=u.id:=by rw[Lj];exact Lc
  have K7:u2.KV[k]?=some s2:=by rw[Lj];exact FR.setS_at hs1 _
  have LO:M2.timers=M.timers:=by rw[Ll];exact L4
  refine sG<|sM Z<|sM Z ?_
  refine bW Z (jI (M:=M2) (by rw[LO];exact LT)) aT ?_;refine aa<|da Z<|bn 5 Z ?_
  refine sO<|iC (M:={M2 with timers:=M2.timers+1}) (i:=i) (j:=5) (s':={s2 with finAt:=M2.timers+1}) L5 LN K7 Z Z Z Z am Z Z ?_
  refine sN<|an<|aC<|bD [aV e (a.q a.qg a.qc) ns (M.fails i k u s nd),bx ns] rfl ⟨rfl,_,_,rfl⟩ ?_
  have:M.fails i k u s nd=FR.En.setR {M2 with timers:=M2.timers+1} i (u2.setS k {s2 with finAt:=M2.timers+1}):=by
   unfold FR.En.fails;rw[if_pos hb,Lj,FR.setS_setS,Li,FR.setS_setS,LO,Ln,K3];have hL:M1.later=M.later:=by funext x;unfold FR.En.later;rw[Lo]
   rw[hL,Ll,K6];unfold FR.En.setR;simp
  rw[this];exact Ent.cons<|Ent.drop.trans Ent.drop
 ·
  have hb:¬s.KU<nd.KZ:=Ls;refine ae<|sT<|sS<|cG 0 Z Z ?_
  refine sO<|iC (j:=0) (s':={s with state:=6}) hi Z hs Z Z Z Z am Z Z ?_
  refine sN<|sQ<|sQ ?_
  obtain⟨l0,Lx⟩:∃l0,l0=u.KV.set k {s with state:=6}:=⟨_,rfl⟩;have Ld:l0.length=u.KV.length:=by rw[Lx];simp
  have Lp:∀l l',(M.setR i (u.at_ l)).setR i (u.at_ l')=M.setR i (u.at_ l'):=λl l'=>FR.setR_setR _ _ _ _;have LP:u.setS k {s with state:=6}=u.at_ l0:=by rw[Lx];rfl
  rw[LP];have Fd:∀l,(M.setR i (u.at_ l)).runs[i]?=some (u.at_ l):=λl=>FR.ic hi _;refine sG<|sB Z<|ag ?_
  refine aO (X:=Nat) (λm=>[(9,aw m),(6,aX b6),(0,aX e),(1,aw i)]) (λm=>blk b6 150 (gT (a.ra u.id) u).toArray::aV e a ns (M.setR i (u.at_ (FR.fV u.fl.KW u.KV.length m l0)))::bx ns::fr) (λm=>m<=u.KV.length) (λm=>u.KV.length-m) 0 (Nat.zero_le _) bV ((Ent.cons Ent.drop).trans gfE1) ?_;intro m hm;refine sQ<|bq Z<|bn 6 Z<|bF (au (v:=jg (a.ra u.id) u) Z) (ah Z)<|sP (bp Z Z)<|sP (bz Z Z Z)<|sN ?_
  refine aB Z (λLt=>?_) λLt=>?_
  ·
   have LQ:m<u.KV.length:=by have:(m:Int)<(u.KV.length:Int):=Lt;omega
   obtain⟨lr,Ly⟩:∃lr,lr=FR.fV u.fl.KW u.KV.length m l0:=⟨_,rfl⟩;rw[<-Ly];have LR:lr.length=u.KV.length:=by rw[Ly,FR.ky,Ld]
   refine ae<|sT<|sQ<|ag<|sS<|sB Z<|ag ?_
   refine aO (X:=Nat) (λj=>[(10,aw j),(9,aw m),(6,aX b6),(0,aX e),(1,aw i)]) (λj=>blk b6 150 (gT (a.ra u.id) u).toArray::aV e a ns (M.setR i (u.at_ (FR.mi u.fl.KW lr j)))::bx ns::fr) (λj=>j<=u.KV.length) (λj=>u.KV.length-j) 0 (Nat.zero_le _) bV aT ?_;intro j hj;refine sQ<|bq Z<|bn 6 Z<|bF (au (v:=jg (a.ra u.id) u) Z) (ah Z)<|sP (bp Z Z)<|sP (bz Z Z Z)<|sN ?_
   refine aB Z (λLu=>?_) λLu=>?_
   ·
    have I:j<u.KV.length:=by have:(j:Int)<(u.KV.length:Int):=Lu;omega
    obtain⟨lj,Lz⟩:∃lj,lj=FR.mi u.fl.KW lr j:=⟨_,rfl⟩;rw[<-Lz];have Le:lj.length=u.KV.length:=by rw[Lz,FR.pm,LR]
    obtain⟨sj,LJ⟩:∃sj,lj[j]?=some sj:=⟨lj[j]'am,by simp[Le,I]⟩;obtain⟨J,LA⟩:∃J,u.fl.KW[j]?=some J:=⟨u.fl.KW[j]'am,by simp[<-LF,I]⟩;have mt:(a.ra u.id).nd.ns[j]?=some J:=by rw[LH];exact LA
    refine bt (λw hw=>rM Y mt hw) λhB=>?_;obtain⟨B,cb,LB,LW,LX,Mg,LK⟩:=hB;replace LK:cb<=9223372036854775807:=LK;obtain⟨T,BT⟩:∃T:Bool->List FR.St,T=λb=>if b then lj.set j {sj with state:=7} else lj:=⟨_,rfl⟩
    have K4:∀b,(T b).length=u.KV.length:=λb=>by rw[BT];cases b<;>simp[Le]
    obtain⟨up,LC⟩:∃up:Int->Bool,up=λx=>FK.cO (lj.map FR.St.ab) x.toNat 6||FK.cO (lj.map FR.St.ab) x.toNat 7:=⟨_,rfl⟩;refine ae<|sT<|sQ<|ag<|sS<|sB Z<|ag ?_
    refine aO (X:=Nat×Bool) (λx=>[(11,aw x.1),(10,aw j),(9,aw m),(6,aX b6),(0,aX e),(1,aw i)]) (λx=>blk b6 150 (gT (a.ra u.id) u).toArray::aV e a ns (M.setR i (u.at_ (T x.2)))::bx ns::fr) (λx=>x.1<=J.after.length/\(x.2=true->sj.state=1/\J.after.any up=true)/\(x.2=false->sj.state=1->(J.after.take x.1).any up=false)) (λx=>J.after.length-x.1) (0,false) ⟨Nat.zero_le _,λh=>by simp at h,λ_ _=>rfl⟩ bV (by rw[BT];exact aT) ?_;rintro⟨y,b⟩ ⟨hy,K8,Lm⟩;replace hy:y<=J.after.length:=hy;replace K8:b=true->sj.state=1/\J.after.any up=true:=K8;replace Lm:b=false->sj.state=1->(J.after.take y).any up=false:=Lm;refine sQ<|bq Z<|bn 1 Z<|bn 1 Z<|bF (au (v:=(a.ra u.id).nd.nv) Z) (ah Z)<|sM Z ?_
    refine sP (aS (z:=7) Z Z Z Z ((gfGet.1 mt).1)) ?_;refine bn 6 Z<|bF (au (v:=.slice B J.after.length cb) Z) (qZ (j:=6) Y mt LB Z)<|sP (bp Z Z)<|sP (bz Z Z Z)<|sN ?_
    refine aB Z (λLv=>?_) λLv=>?_
    ·
     have wf:y<J.after.length:=by have:(y:Int)<(J.after.length:Int):=Lv;omega
     obtain⟨g,rfl⟩:∃g,B=some ⟨g,0,none⟩:=by
      cases B with
      | none=>have:=(LW rfl).1;omega
      | some ad=>obtain⟨g,rfl⟩:=LX ad rfl;exact⟨g,rfl⟩
     obtain⟨x,hx⟩:∃x,J.after[y]?=some x:=⟨J.after[y],by simp[wf]⟩;obtain⟨Mh,Mi⟩:=LG J (bY LA) x (bY hx);obtain⟨z,rfl⟩:∃z:Nat,x=(z:Int):=⟨x.toNat,am⟩;have LE:z<u.KV.length:=am;obtain⟨s2,K7⟩:∃s2,(T b)[z]?=some s2:=⟨(T b)[z]'(by rw[K4];exact LE),by simp[K4,LE]⟩;obtain⟨sl,O⟩:∃sl,(T b)[j]?=some sl:=⟨(T b)[j]'(by rw[K4];exact I),by simp[K4,I]⟩;have L6:(J.after.take (y+1)).any up=((J.after.take y).any up||up (z:Int)):=by rw[List.take_add_one,hx,List.any_append];simp
     have LL:b=true->sl.state=7:=λh=>by
      have K:(lj.set j {sj with state:=7})[j]?=some sl:=by rw[BT,h] at O;exact O
      rw[List.getElem?_set_self (by rw[Le];exact I)] at K;injection K with K;rw[<-K]
     have K5:b=false->sl=sj:=λh=>by
      have K:lj[j]?=some sl:=by rw[BT,h] at O;exact O
      rw[LJ] at K;injection K with K;exact K.symm
     have Lg:b=false->up (z:Int)=(decide (s2.state=6)||decide (s2.state=7)):=λh=>by
      have K:lj[z]?=some s2:=by rw[BT,h] at K7;exact K7
      have h2:(lj.map FR.St.ab)[z]?=some s2.ab:=by rw[List.getElem?_map,K];rfl
      rw[LC];simp only[Int.toNat_natCast];rw[FK.fk h2,FK.fk h2]
      rfl
     refine ae<|sT<|sQ<|ag<|sQ<|sZ Z<|dj 0 Z (bl 6 Z)<|bQ Z (au (v:=jg (a.ra u.id) u) Z) (ah Z)<|bC Z (bl 1 Z)<|bC Z (bl 1 Z)<|bQ Z (au (v:=(a.ra u.id).nd.nv) Z) (ah Z)<|cv Z Z ?_
     refine dj 6 Z (aS (z:=7) Z Z Z Z ((gfGet.1 mt).1)) ?_;refine dj 7 Z (bl 6 Z)<|bQ Z (au (v:=dp g J.after.length cb) Z) (qZ (j:=6) Y mt LB Z)<|cv Z Z<|bC Z (aS (z:=1) Z Z Z Z wf)<|bQ Z (au (v:=aw (z:Int)) Z) (xC Y mt LB hx)<|bC Z (aS (z:=7) Z Z Z Z LE)<|bC Z (bl 0 Z)<|bQ Z (au (v:=aw s2.state) Z) (dH (u:=u.at_ (T b)) (j:=0) (Fd _) Z K7 Z)<|bC Z (aU Z)<|dE<|sT<|sQ ?_
     by_cases K:sl.state=1
     ·
      have In:b=false:=by cases b with|false=>rfl|true=>have:=LL rfl;omega
      have Lq:sj.state=1:=by rw[<-K5 In];exact K
      by_cases h6:s2.state=6
      ·
       refine sG<|bn 6 Z<|bF (au (v:=jg (a.ra u.id) u) Z) (ah Z)<|ch Z (aS (z:=7) Z Z Z Z I)<|bn 0 Z<|bF (au (v:=aw sl.state) Z) (dH (u:=u.at_ (T b)) (j:=0) (Fd _) Z O Z)<|sP (cT Z Z K)<|sM Z<|db Z<|ci (cT Z Z h6)<|db Z<|bg Z<|bg Z<|ci (aF Z Z Z)<|sP (aF Z Z Z)<|sN<|aM Z<|sG ?_
       refine bn 6 Z<|bF (au (v:=jg (a.ra u.id) u) Z) (ah Z)<|ch Z (aS (z:=7) Z Z Z Z I)<|bn 0 Z ?_
       refine sO<|iC (u:=u.at_ (T b)) (j:=0) (s':={sl with state:=7}) (Fd _) Z O Z Z Z Z am Z Z ?_
       refine ao<|al<|sT<|sG<|ch Z (bc (r:=((y+1:Nat):Int)) Z Z dP)<|sA Z<|ao ?_
       exact aE (y+1,true) ⟨wf,λ_=>⟨Lq,List.any_eq_true.2 ⟨_,bY hx,by rw[Lg In,h6];rfl⟩⟩,λh=>by simp at h⟩ (by show J.after.length-(y+1)<J.after.length-y;omega) bV (by
        have e:(u.at_ (T b)).setS j {sl with state:=7}=u.at_ (T true):=by rw[K5 In,In,BT];rfl
        rw[e,Lp];exact gfE1)
      ·
       by_cases h7:s2.state=7
       ·
        refine sG<|bn 6 Z<|bF (au (v:=jg (a.ra u.id) u) Z) (ah Z)<|ch Z (aS (z:=7) Z Z Z Z I)<|bn 0 Z<|bF (au (v:=aw sl.state) Z) (dH (u:=u.at_ (T b)) (j:=0) (Fd _) Z O Z)<|sP (cT Z Z K)<|sM Z<|db Z<|ci (d8 Z Z h6)<|db Z<|db Z<|ci (cT Z Z h7)<|ci (aF Z Z Z)<|sP (aF Z Z Z)<|sN<|aM Z<|sG ?_
        refine bn 6 Z<|bF (au (v:=jg (a.ra u.id) u) Z) (ah Z)<|ch Z (aS (z:=7) Z Z Z Z I)<|bn 0 Z ?_
        refine sO<|iC (u:=u.at_ (T b)) (j:=0) (s':={sl with state:=7}) (Fd _) Z O Z Z Z Z am Z Z ?_
        refine ao<|al<|sT<|sG<|ch Z (bc (r:=((y+1:Nat):Int)) Z Z dP)<|sA Z<|ao ?_
        exact aE (y+1,true) ⟨wf,λ_=>⟨Lq,List.any_eq_true.2 ⟨_,bY hx,by rw[Lg In,h7];rfl⟩⟩,λh=>by simp at h⟩ (by show J.after.length-(y+1)<J.after.length-y;omega) bV (by
         have e:(u.at_ (T b)).setS j {sl with state:=7}=u.at_ (T true):=by rw[K5 In,In,BT];rfl
         rw[e,Lp];exact gfE1)
       ·
        refine sG<|bn 6 Z<|bF (au (v:=jg (a.ra u.id) u) Z) (ah Z)<|ch Z (aS (z:=7) Z Z Z Z I)<|bn 0 Z<|bF (au (v:=aw sl.state) Z) (dH (u:=u.at_ (T b)) (j:=0) (Fd _) Z O Z)<|sP (cT Z Z K)<|sM Z<|db Z<|ci (d8 Z Z h6)<|db Z<|db Z<|ci (d8 Z Z h7)<|ci (aF Z Z Z)<|sP (aF Z Z Z)<|sN<|aj Z<|ae ?_
        refine al<|sT<|sG<|ch Z (bc (r:=((y+1:Nat):Int)) Z Z dP)<|sA Z<|ao ?_
        exact aE (y+1,b) ⟨wf,K8,λLh Lw=>(by
         show(J.after.take (y+1)).any up=false;rw[L6,Lm Lh Lw,Lg Lh];simp[h6,h7])⟩ (by show J.after.length-(y+1)<J.after.length-y;omega) ⟨rfl,rfl,rfl,rfl,rfl,rfl,trivial⟩ aT
     ·
      refine sG<|bn 6 Z<|bF (au (v:=jg (a.ra u.id) u) Z) (ah Z)<|ch Z (aS (z:=7) Z Z Z Z I)<|bn 0 Z<|bF (au (v:=aw sl.state) Z) (dH (u:=u.at_ (T b)) (j:=0) (Fd _) Z O Z)<|sP (d8 Z Z K)<|sM Z<|bg Z<|bg Z<|bg Z<|eN Z<|eN Z<|bg Z<|sP (aF Z Z Z)<|sN<|aj Z<|ae ?_
      refine al<|sT<|sG<|ch Z (bc (r:=((y+1:Nat):Int)) Z Z dP)<|sA Z<|ao ?_
      exact aE (y+1,b) ⟨wf,K8,λLh Lw=>absurd (by rw[K5 Lh];exact Lw) K⟩ (by show J.after.length-(y+1)<J.after.length-y;omega) bV aT
    ·
     have L7:y=J.after.length:=by have:¬(y:Int)<(J.after.length:Int):=Lv;omega
     have L8:FR.mi u.fl.KW lr (j+1)=T b:=by
      rw[FR.lJ,<-Lz,FR.skipK_at LJ LA,BT];cases b with
      | true=>
       have K:=K8 rfl;rw[LC] at K;exact if_pos K
      | false=>
       have K:=Lm rfl;rw[L7,List.take_length,LC] at K;exact if_neg λh=>by rw[K h.1] at h;exact absurd h.2 fi
     refine aL<|aA<|az<|ap<|al<|sT<|sG<|ch Z (bc (r:=((j+1:Nat):Int)) Z Z dP)<|sA Z<|ao ?_
     exact aE (j+1) I am bV (by rw[L8];exact aT)
   ·
    have L9:j=u.KV.length:=by have:¬(j:Int)<(u.KV.length:Int):=Lu;omega
    refine aL<|aA<|az<|ap<|al<|sT<|sG<|ch Z (bc (r:=((m+1:Nat):Int)) Z Z dP)<|sA Z<|ao ?_
    exact aE (m+1) LQ am bV (by rw[FR.kL,<-Ly,L9];exact aT)
  ·
   have Ma:m=u.KV.length:=by have:¬(m:Int)<(u.KV.length:Int):=Lt;omega
   obtain⟨uf,LY⟩:∃uf,uf=u.at_ (FR.fV u.fl.KW u.KV.length m l0):=⟨_,rfl⟩;have Mb:uf.KV.length=u.KV.length:=by rw[LY];show(FR.fV _ _ _ _).length=_;rw[FR.ky,Ld]
   refine aL<|aA<|az<|ap<|sT<|sG<|sM Z<|sM Z ?_
   refine bU Z (oO (Fd _) he (show(FR.fV u.fl.KW u.KV.length m l0).length<=100 by rw[FR.ky,Ld];omega) hq) gfE1 ?_;rintro v m ⟨rfl,g1,c1,rfl⟩;refine aa<|ao<|bD [aV e (a.q g1 c1) ns (M.fails i k u s nd),bx ns] rfl ⟨rfl,g1,c1,rfl⟩ ?_
   have:M.fails i k u s nd=(M.setR i (u.at_ (FR.fV u.fl.KW u.KV.length m l0))).settle i:=by
    unfold FR.En.fails;rw[if_neg hb,Ma,Lx]
   rw[this];exact Ent.cons Ent.drop
section
variable {r:List HP}
theorem yN {tok:Nat} {nd:FK.Node} (h:M.runs.length<=100) (I:∀u∈M.runs,u.KV.length<=100) (hw:FR.Wk M tok i k u s) (O:EV M tok i k) (T:dx G 123 [aX e,aw i,aw k] [aV e a ns M,bx ns] λv m=>v=.tuple #[]/\∃g c,m=[aV e (a.q g c) ns (M.fails i k u s nd),bx ns]):dx G 70 [aX e,aQ tok] [aV e a ns M,bx ns] λv m=>v=aw 0/\∃g c,m=[aV e (a.q g c) ns (M.fails i k u s nd),bx ns]:=by
 refine bA Tryz.func70 Z λE fr Y=>aD<|sS<|sB Z<|bq Z<|sM Z ?_
 refine bW Z (Aj h I hw O) aT ?_;refine aa<|sM Z<|bT Z Z<|bT Z Z<|sA Z<|sB Z<|sQ<|bq Z<|sP (cS Z Z am)<|sN<|aj Z<|ae<|sT<|sS ?_
 refine sM Z<|sM Z<|sM Z ?_
 refine bU Z T aT ?_;rintro v m ⟨rfl,J,K,rfl⟩;exact aD<|sN<|sS<|sB Z<|an<|ar [aV e (a.q J K) ns (M.fails i k u s nd),bx ns] rfl Z ⟨rfl,J,K,rfl⟩ aT
theorem rJ (h:M.runs.length<=100) (I:(M.runs.map (·.id)).Nodup) (hi:M.runs[i]?=some u):dx G 120 [aX e,aQ u.id] [aV e a ns M] λv m=>v=aw (i:Int)/\m=[aV e a ns M]:=
 (tg u.id h).mono λv m ⟨E,J⟩=>⟨m,⟨by
  rcases E with⟨j,u',E,h3,K⟩|⟨E,_⟩
  · have:=FR.xd I E hi h3
    subst this;exact K
  · exact absurd Z (E u (bY hi)),J⟩,aT⟩
theorem Kf (h:M.runs.length<=100) (hno:∀u∈M.runs,u.id≠id):dx G 120 [aX e,aQ id] [aV e a ns M] λv m=>v=aw (-1)/\m=[aV e a ns M]:=
 (tg id h).mono λv m ⟨E,I⟩=>⟨m,⟨by
  rcases E with⟨j,u',E,h3,J⟩|⟨_,E⟩
  · exact absurd h3<|hno u'<|bY E
  · exact E,I⟩,aT⟩
theorem t7 (h:M.runs.length<=100) (hno:∀u∈M.runs,u.id≠id):dx G 71 [aX e,aQ id] [aV e a ns M] λv m=>v=aw 6/\m=[aV e a ns M]:=by
 refine bA Tryz.func71 Z λE fr I=>aa<|sS<|sB Z<|bq Z<|sM Z ?_
 refine bW Z (Kf h hno) aT ?_;refine aa<|sB Z<|sQ<|bq Z<|sP (bz (r:=true) Z Z Z)<|sM Z<|bg Z<|bg Z<|bg Z<|bg Z<|bg Z<|bg Z<|bg Z<|bg Z<|bg Z<|sP (aF Z Z Z) ?_
 exact sN<|aM Z<|sS<|sB Z<|an<|aC<|ar [aV e a ns M] rfl Z ⟨rfl,rfl⟩ aT
theorem t6 (h:M.runs.length<=100) (hn:(M.runs.map (·.id)).Nodup) (hi:M.runs[i]?=some u) (he:M.ends<9223372036854775807) (hl:u.KV.length<=100) (hq:M.KX.length<=1000):dx G 71 [aX e,aQ u.id] [aV e a ns M] λv m=>(u.state≠1->v=aw 6/\m=[aV e a ns M])/\(u.state=1->v=aw 0/\∃g c,m=[aV e (a.q g c) ns (M.endr i u 4)]):=by
 have J:=(gfGet.1 hi).1;refine bA Tryz.func71 Z λE fr hE=>aa ?_;refine bt (p:=∃g,a.rg=some g) (λw hw=>gY hi hw) λ⟨gr,T⟩=>?_;refine sS<|sB Z<|bq Z<|sM Z ?_
 refine bW Z (rJ h hn hi) aT ?_;refine aa<|sB Z<|sQ<|bq Z<|sP (cS Z Z am)<|sM Z<|db Z<|ci (cI Z)<|ci (bl 2 Z)<|fN (au (v:=dp gr M.runs.length a.rc) Z) (dF T)<|db Z<|ci (aS (z:=8) Z Z Z Z J)<|ci (bl 3 Z)<|fN (au (v:=aw u.state) Z) (cE (j:=3) hi T Z)<|ci (dc Z Z Z)<|sP (aF Z Z Z) ?_
 refine sN ?_;refine aB Z (λI=>?_) λI=>?_
 ·
  have K:u.state≠1:=I;refine sS<|sB Z<|an<|aC ?_
  exact ar [aV e a ns M] rfl Z ⟨λ_=>⟨rfl,rfl⟩,λh=>absurd h K⟩ aT
 ·
  have O:u.state=1:=Decidable.not_not.1 I;refine ae<|sT<|bq Z<|sM Z ?_
  refine bU Z (nl 4 hi he hl hq) aT ?_;rintro v m ⟨rfl,Y,c1,rfl⟩;refine aa<|sN<|sS<|sB Z<|an ?_
  exact ar [aV e (a.q Y c1) ns (M.endr i u 4)] rfl Z ⟨λh=>absurd O h,λ_=>⟨rfl,Y,c1,rfl⟩⟩ aT
theorem yJ (h:M.KX=[]):dx G 67 [aX e] [aV e a ns M] λv m=>v=.tuple #[fR 0 0 0 0,.bool false]/\m=[aV e a ns M]:=by
 refine bA Tryz.func67 Z λE fr I=>aa<|sS<|sO (cH (z:=.agg #[.int .u64 0,aw 0,aw 0,.int .u64 0]) Z λJ=>(sB Z (sQ (sS (sM Z (da Z (bn 3 Z ?_)))))))
 refine bF (au (v:=.slice (zY a.qg) 0 a.qc) Z) (cg (by show some (kS a M)=_;unfold kS;rw[h];rfl)) ?_;refine sP (bp Z Z)<|sP (aY (r:=true) Z Z Z)<|sN<|aM Z<|sS<|sP (bI (cs:=#[.int .u64 0,aw 0,aw 0,.int .u64 0]) Z Z Z Z Z) ?_
 refine sO<|bh (vs:=cd 0 0 0 0) Z (m:=4) Z Z Z Z er (by show 0+4<=4;omega) ?_
 exact sB Z<|an<|aC<|dr [aV e a ns M] rfl (bM (vs:=cd 0 0 0 0) Z Z Z Z (bm Z)) (bL Z) ⟨rfl,rfl⟩ Ent.drop
theorem rf_qc [H:HasRef l e a ns M r] (hw:Holds E w l):M.KX.length<=a.qc:=by
 obtain⟨F,h⟩:=jk (H:=H) hw;have h:(zW a M).sat w F:=Star.mem h cY;rcases h.1.2 with⟨K,I⟩|⟨g,cap,J,I,_,_,O,_⟩
 · omega
 · injection I with _ _ I
   omega
theorem o_rfQ {r':List HP} {Y:TypeId} {pos:String} {g:Option (Nat×Bool)} {t:TypeId} {x y:Operand} [H:HasRef l e a ns M r] {q':List (Nat×Int)} (hm:m=q'.length) (s:Sel (row 197 2 v m (q'.flatMap iN)) l r') (hz:df P t 1) (hx:ev I x=some (.pointer (some ⟨e,3,none⟩))) (hy:ev I y=some v) {T:List HP} (s2:Sel (aV e a ns M) r' T)
 (hk:∀o c,At E n D I (aV e (a.q o c) ns {M with KX:=q'}::T) K):At E n D I l (λac w=>(Oper.mk none (.store t x y) Y pos af g).wp P ac w K Q):=by
 subst hm;refine bt (p:=jx a ns M) (λw hw=>l8 hw) λJ=>?_;refine aq ((Ent.sel s).trans (Ent.cons (Ent.sel s2))) ?_;refine aK .head λA c hA mt O _ _ _=>?_;obtain⟨o,rfl⟩:=nW O;subst hA;refine aq ((Ent.cons (iK (a:=a) (M:=M))).trans gfE1) ?_;refine co (b:=e) (cs:=pR a M) Z hz hx hy Z cY ?_;refine aq ?_<|hk o c
 refine Ent.trans ?_<|jd J
 exact Ent.cons<|gfE1.trans<|Ent.cons<|Ent.cons Ent.drop
theorem yI {nd:FK.Node} {q:List (Nat×Int)} (h:M.runs.length<=100) (hn:(M.runs.map (·.id)).Nodup) (Ln:M.KX=(u.id,(k:Int))::q) (hi:M.runs[i]?=some u) (hs:u.KV[k]?=some s) (hnd:u.fl.KW[k]?=some nd) (hq:M.KX.length<=1000) (ht:M.time<=4611686018427387904) (LE:0<=nd.close) (hc:nd.close<=4611686018427387904) (hb:nd.beat<=4611686018427387904) (LV:M.timers+1<9223372036854775807) (LS:M.KS<9223372036854775807) (LT:0<=s.KU) (LW:s.KU<9223372036854775807):dx G 67 [aX e] [aV e a ns M,bx ns] λv m=>v=.tuple #[fR u.id k (s.KU+1) (M.KS+1),.bool true]/\∃g c,m=[aV e (a.q g c) ns (M.hand q i k u s nd),bx ns]:=by
 have Lv:=(gfGet.1 hi).1;have LK:=(gfGet.1 hs).1;have Lw:M.KX[0]?=some (u.id,(k:Int)):=by rw[Ln];rfl
 have LL:M.KX.length=q.length+1:=by rw[Ln];rfl
 refine bA Tryz.func67 Z λE fr hE=>aD ?_;refine bt (p:=∃g,a.rg=some g) (λw hv=>gY hi hv) λ⟨gr,hg⟩=>?_;refine bt (p:=∃g,a.qg=some g) (λw hv=>Ci Lw hv) λ⟨gq,K7⟩=>?_;refine bt (p:=jx a ns M) (λw hw=>l8 hw) λLF=>?_;obtain⟨K9,LH⟩:=LF u (bY hi);have K5:(a.ra u.id).nd.ns[k]?=some nd:=by rw[LH];exact hnd
 refine bt (λw hw=>rM K9 K5 hw) λhA=>?_;obtain⟨A,c,Lu,LY,LZ,L3,L4⟩:=hA;refine bt (p:=M.KX.length<=a.qc) (λw hw=>rf_qc hw) λLG=>?_;refine sS<|sO (cH (z:=.agg #[.int .u64 0,aw 0,aw 0,.int .u64 0]) Z λb2=>(sB Z (sQ (sS (sM Z (da Z (bn 3 Z (bF (au (v:=dp gq M.KX.length a.qc) Z) (um K7) (sP (bp Z Z) (sP (d8 Z Z am) (sN (aj Z (ae (sT ?_))))))))))))))
 refine sS<|cG 3 Z Z<|bF (au (v:=dp gq M.KX.length a.qc) Z) (um K7)<|sP (aS (z:=2) (i:=0) Z Z Z Z am)<|bF (bO (vs:=iN (u.id,(k:Int))) Z) (HU Lw K7)<|sO (cH (z:=.agg #[.int .u64 0,aw 0]) Z λb4=>?_)
 refine sO<|bh (vs:=iN (u.id,(k:Int))) Z (m:=2) Z Z Z Z er (by show 0+2<=2;omega) ?_
 refine aG b4 (iN (u.id,(k:Int))).toArray Z<|sN<|bq Z<|cG 3 Z Z<|bF (au (v:=dp gq M.KX.length a.qc) Z) (um K7)<|sP (fx (a:=1) (b:=M.KX.length) (z:=2) Z Z Z ⟨_,rfl⟩ rfl am LG) ?_
 have Lx:∀w,Holds E w (row 197 2 cx 0 []::blk b4 197 (iN (u.id,(k:Int))).toArray::blk b2 55 (cd 0 0 0 0).toArray::aV e a ns M::bx ns::fr)->mr (if a.qc=1 then some ⟨gq,0,none⟩ else(some ⟨gq,0,none⟩:Option Addr).map (·.add (1*2))) (q.flatMap iN) w:=λw hw ad Lg j v hj=>by
  obtain⟨F,LJ⟩:=jk (e:=e) (a:=a) (ns:=ns) (M:=M) hw;have hr:(zW a M).sat w F:=Star.mem LJ cY;unfold zW kS at hr;rw[K7] at hr;have L5:j<q.length*2:=by have:=(gfGet.1 hj).1;rwa [cM (k:=2) λ_=>rfl] at this
  rw[if_neg am] at Lg;injection Lg with Lg;subst Lg;have:=hr.1.cells (g:=gq) rfl (2+j) v (by
   rw[Ln,List.flatMap_cons,List.getElem?_append_right cY];show(q.flatMap iN)[2+j-2]?=some v;rw[show 2+j-2=j by omega];exact hj)
  rw[add_plain] at this;show w.cell? (((⟨gq,0,none⟩:Addr).add (1*2)).add j)=some v;rw[add_plain,add_plain];simpa[Nat.add_assoc] using this
 refine aq (Ent.row0 (e:=197) (size:=2)) ?_;refine dq rfl (bZ (k:=0) (xs:=[]) rfl rfl ri rfl am rfl rfl .head (news:=q.flatMap iN) (by rw[cM (k:=2) λ_=>rfl,LL];rfl) (λh=>by split at h<;>cases h) Lx (λv hv=>by obtain⟨x,_,hx⟩:=List.mem_flatMap.1 hv;simp only[List.mem_cons,List.not_mem_nil,or_false] at hx;rcases hx with rfl|rfl<;>rfl) (by unfold maxLen;omega) am λLX LU=>?_);refine da Z<|bn 3 Z ?_
 refine sO (o_rfQ (q':=q) (m:=0+(M.KX.length-1)) am .head Z Z Z de λo4 I=>?_);refine sN<|sQ ?_
 have J:∀(T:FR.En) (s1 s2:FR.St),(T.setR i (u.setS k s1)).setR i ((u.setS k s1).setS k s2)=T.setR i (u.setS k s2):=λT s1 s2=>by rw[FR.setR_setR,FR.setS_setS]
 obtain⟨MA,mt⟩:∃MA:FR.En,MA={M with KX:=q}:=⟨_,rfl⟩;rw[<-mt];have Lj:MA.runs[i]?=some u:=by rw[mt];exact hi
 have Ls:MA.runs.length=M.runs.length:=by rw[mt]
 refine sG<|sM Z<|bn 0 Z<|bF (au (v:=aQ u.id) Z) (ah Z) ?_
 refine bW Z (rJ (M:=MA) (by rw[Ls];exact h) (by rw[mt];exact hn) Lj) aT ?_;refine aa<|sB Z<|sQ<|sZ Z<|dT Z Z<|dt 2 Z Z Z<|bQ Z (au (v:=dp gr MA.runs.length a.rc) Z) (dF (a:=a.q o4 I) hg)<|cv Z Z ?_
 refine dj 5 Z (aS (z:=8) Z Z Z Z (by rw[Ls];exact Lv)) ?_;refine dj 6 Z (bl 1 Z)<|bC Z (bl 1 Z)<|bQ Z (au (v:=(a.ra u.id).nd.nv) Z) (cE (a:=a.q o4 I) (j:=2) Lj hg Z)<|bC Z (bl 1 Z)<|bQ Z (au (v:=aw (k:Int)) Z) (ah Z) ?_
 refine dj 11 Z (aS (z:=7) Z Z Z Z ((gfGet.1 K5).1)) ?_;refine jh 12 Z (bO (vs:=bk nd (.slice A nd.after.length c)) Z) (rL K9 K5 Lu)<|vw Z (cH (z:=.agg #[aw 0,aw 0,aw 0,aw 0,aw 0,aw 0,cx]) Z λb6=>(dK [true,true,true,true] (ai (rL K9 K5 Lu) (ai (ah Z) (ai (cE (a:=a.q o4 I) (j:=2) Lj hg Z) (ai (dF (a:=a.q o4 I) hg) ak)))) ?_))
 refine dA 14 Z<|bh (vs:=bk nd (.slice A nd.after.length c)) Z (m:=7) Z Z Z Z (by simp[bk,Value.oneCell']) (by show 0+7<=7;omega) ?_
 refine dK [false,false,false,false] ak<|dE<|sT<|sQ ?_
 have Ly:MA.KS=M.KS:=by rw[mt]
 refine aG b6 (bk nd (.slice A nd.after.length c)).toArray Z<|sG<|cG 5 Z Z<|bF (au (v:=aQ MA.KS) Z) (cg Z)<|sP (bc (r:=((M.KS+1:Nat):Int)) Z Z (by rw[Ly,km];omega))<|da Z<|bn 5 Z ?_
 refine sO<|rH (a:=a.q o4 I) (M:=MA) (M':={MA with KS:=M.KS+1}) Z Z Z am Z Z Z Z ?_
 refine sN<|sQ ?_
 obtain⟨K,wf⟩:∃K:FR.En,K={MA with KS:=M.KS+1}:=⟨_,rfl⟩;rw[<-wf];have Ll:K.runs[i]?=some u:=by rw[wf];exact Lj
 have LM:K.runs.length=M.runs.length:=by rw[wf];exact Ls
 have Lz:K.time=M.time:=by rw[wf,mt]
 have Lc:K.timers=M.timers:=by rw[wf,mt]
 have LA:K.KS=M.KS+1:=by rw[wf]
 have Lm:∀s',(K.setR i (u.setS k s')).runs[i]?=some (u.setS k s'):=λs'=>FR.ic Ll _;have Y:∀s',(u.setS k s').KV[k]?=some s':=λs'=>FR.setS_at hs _;refine sZ Z<|dT Z Z<|dt 2 Z Z Z<|bQ Z (au (v:=dp gr K.runs.length a.rc) Z) (dF (a:=a.q o4 I) hg)<|cv Z Z ?_
 refine dj 5 Z (aS (z:=8) Z Z Z Z (by rw[LM];exact Lv)) ?_;refine dj 6 Z (bl 6 Z)<|bQ Z (au (v:=jg (a.ra u.id) u) Z) (cE (a:=a.q o4 I) (j:=6) Ll hg Z)<|bC Z (bl 1 Z)<|bQ Z (au (v:=aw (k:Int)) Z) (ah Z)<|bC Z (aS (z:=7) Z Z Z Z LK)<|bC Z (aU Z)<|dE<|sT<|sS<|cG 0 Z Z ?_
 refine sO<|iC (a:=a.q o4 I) (id:=u.id) (j:=0) (s':={s with state:=3}) Ll Z hs Z Z Z Z am Z Z ?_
 refine sN<|sQ ?_
 obtain⟨s1,hs1⟩:∃s1:FR.St,s1={s with state:=3}:=⟨_,rfl⟩;rw[<-hs1];have LN:s1.KU=s.KU:=by rw[hs1]
 refine sG<|cG 1 Z Z<|bF (au (v:=aw s.KU) Z) (dH (a:=a.q o4 I) (id:=u.id) (j:=1) (Lm s1) Z (Y s1) (by rw[<-LN];rfl))<|sP (bc (r:=s.KU+1) Z Z (by rw[jf am]))<|da Z<|bn 1 Z ?_
 refine sO<|iC (a:=a.q o4 I) (id:=u.id) (j:=1) (M:=K.setR i (u.setS k s1)) (s':={s1 with KU:=s.KU+1}) (Lm s1) Z (Y s1) Z Z Z Z am Z Z ?_
 refine sN<|sQ ?_
 rw[J];obtain⟨s2,Lb⟩:∃s2:FR.St,s2={s1 with KU:=s.KU+1}:=⟨_,rfl⟩;rw[<-Lb];refine sG<|sM Z<|cG 5 Z Z<|bF (au (v:=aQ (M.KS+1)) Z) (cg (a:=a.q o4 I) (M:=K.setR i (u.setS k s2)) (show some (aQ K.KS)=_ by rw[LA]))<|da Z<|bn 2 Z ?_
 refine sO<|iC (a:=a.q o4 I) (id:=u.id) (j:=2) (M:=K.setR i (u.setS k s2)) (s':={s2 with token:=M.KS+1}) (Lm s2) Z (Y s2) Z Z Z Z am Z Z ?_
 refine sN<|sQ ?_
 rw[J];obtain⟨s3,BT⟩:∃s3:FR.St,s3={s2 with token:=M.KS+1}:=⟨_,rfl⟩;rw[<-BT];refine sZ Z<|dT Z Z<|cv Z Z<|dt 0 Z Z Z<|bQ Z (au (v:=aQ M.time) Z) (cg (a:=a.q o4 I) (M:=K.setR i (u.setS k s3)) (show some (aQ K.time)=_ by rw[Lz]))<|bC Z (bl 1 Z)<|bQ Z (au (v:=aw nd.close) Z) (ah Z) ?_
 refine dA 7 Z<|ed Z (jJ M.time nd.close ht LE hc) aT ?_
 rintro v m ⟨rfl,rfl⟩;refine aZ<|dK [false,false] ak<|dj 8 Z (cI Z)<|bC Z (bl 3 Z) ?_
 refine dA 10 Z<|iC (a:=a.q o4 I) (id:=u.id) (j:=3) (M:=K.setR i (u.setS k s3)) (s':={s3 with fin:=M.later nd.close.toNat}) (Lm s3) Z (Y s3) Z Z Z Z am Z Z ?_
 refine dK [] ak<|dE<|sT<|sQ ?_
 rw[J];obtain⟨s4,Fd⟩:∃s4:FR.St,s4={s3 with fin:=M.later nd.close.toNat}:=⟨_,rfl⟩;rw[<-Fd];refine sG<|sM Z<|sM Z ?_
 refine bW Z (jI (M:=K.setR i (u.setS k s4)) (show K.timers<_ by rw[Lc];omega)) aT ?_;refine aa ?_;obtain⟨O,K6⟩:∃O:FR.En,O={K with timers:=M.timers+1}:=⟨_,rfl⟩;have LO:({K.setR i (u.setS k s4) with timers:=(K.setR i (u.setS k s4)).timers+1}:FR.En)=O.setR i (u.setS k s4):=by rw[K6,<-Lc];rfl
 rw[LO];have LP:(K.setR i (u.setS k s4)).timers=M.timers:=Lc;rw[LP];have Lt:O.runs[i]?=some u:=by rw[K6];exact Ll
 have Ld:∀s',(O.setR i (u.setS k s')).runs[i]?=some (u.setS k s'):=λs'=>FR.ic Lt _;have LB:O.time=M.time:=by rw[K6];exact Lz
 refine da Z<|bn 5 Z ?_
 refine sO<|iC (a:=a.q o4 I) (id:=u.id) (j:=5) (M:=O.setR i (u.setS k s4)) (s':={s4 with finAt:=M.timers+1}) (Ld s4) Z (Y s4) Z Z Z Z am Z Z ?_
 refine sN<|sQ ?_
 rw[J];obtain⟨s5,In⟩:∃s5:FR.St,s5={s4 with finAt:=M.timers+1}:=⟨_,rfl⟩;rw[<-In];refine sG<|cG 4 Z Z ?_
 refine sO<|iC (a:=a.q o4 I) (id:=u.id) (j:=4) (M:=O.setR i (u.setS k s5)) (s':={s5 with sign:=0}) (Ld s5) Z (Y s5) Z Z Z Z am Z Z ?_
 refine sN ?_;refine sQ<|cw (X:=FR.En×FR.St) (λ_=>[(7,.pointer (some ⟨(a.ra u.id).gs,0+k*7,none⟩)),(4,aX b4),(2,aX b2),(0,aX e)]) (λx=>aV e (a.q o4 I) ns (x.1.setR i (u.setS k x.2))::blk b6 46 (bk nd (.slice A nd.after.length c)).toArray::blk b4 197 (iN (u.id,(k:Int))).toArray::blk b2 55 (cd 0 0 0 0).toArray::bx ns::fr) (λx=>x.1.runs[i]?=some u/\x.2.KU=s.KU+1/\x.2.token=M.KS+1/\M.hand q i k u s nd=x.1.setR i (u.setS k x.2)) ?_ ?_
 ·
  refine sQ ?_;rw[J];obtain⟨s6,K3⟩:∃s6:FR.St,s6={s5 with sign:=0}:=⟨_,rfl⟩;rw[<-K3];refine sG<|bn 2 Z<|bF (au (v:=aw nd.beat) Z) (ah Z)<|sP (dY Z Z Z)<|sN ?_
  refine aB Z (λK8=>?_) λK8=>?_
  ·
   have K4:0<nd.beat:=K8;refine sQ<|sZ Z<|dT Z Z<|cv Z Z<|dt 0 Z Z Z<|bQ Z (au (v:=aQ M.time) Z) (cg (a:=a.q o4 I) (M:=O.setR i (u.setS k s6)) (show some (aQ O.time)=_ by rw[LB]))<|bC Z (bl 2 Z)<|bQ Z (au (v:=aw nd.beat) Z) (ah Z) ?_
   refine dA 7 Z<|ed Z (jJ M.time nd.beat ht am hb) aT ?_
   rintro v m ⟨rfl,rfl⟩;refine aZ<|dK [false,false] ak<|dj 8 Z (cI Z)<|bC Z (bl 4 Z) ?_
   refine dA 10 Z<|iC (a:=a.q o4 I) (id:=u.id) (j:=4) (M:=O.setR i (u.setS k s6)) (s':={s6 with sign:=M.later nd.beat.toNat}) (Ld s6) Z (Y s6) Z Z Z Z am Z Z ?_
   refine dK [] ak<|dE<|sT ?_
   rw[J];obtain⟨s7,Lh⟩:∃s7:FR.St,s7={s6 with sign:=M.later nd.beat.toNat}:=⟨_,rfl⟩;rw[<-Lh];have Le:O.timers=M.timers+1:=by rw[K6]
   refine sG<|sM Z<|sM Z ?_
   refine bW Z (jI (M:=O.setR i (u.setS k s7)) (show O.timers<_ by rw[Le];omega)) aT ?_;refine aa ?_;obtain⟨MD,Lo⟩:∃MD:FR.En,MD={O with timers:=M.timers+2}:=⟨_,rfl⟩;have LQ:({O.setR i (u.setS k s7) with timers:=(O.setR i (u.setS k s7)).timers+1}:FR.En)=MD.setR i (u.setS k s7):=by
    have:(O.setR i (u.setS k s7)).timers+1=M.timers+2:=by show O.timers+1=_;rw[Le]
    rw[Lo,this];rfl
   rw[LQ];have LR:(O.setR i (u.setS k s7)).timers=M.timers+1:=Le;rw[LR];have LC:MD.runs[i]?=some u:=by rw[Lo];exact Lt
   have LD:∀s',(MD.setR i (u.setS k s')).runs[i]?=some (u.setS k s'):=λs'=>FR.ic LC _;refine da Z<|bn 6 Z ?_
   refine sO<|iC (a:=a.q o4 I) (id:=u.id) (j:=6) (M:=MD.setR i (u.setS k s7)) (s':={s7 with signAt:=M.timers+2}) (LD s7) Z (Y s7) Z Z Z Z am Z Z ?_
   refine ao ?_;rw[J];exact aW (MD,{s7 with signAt:=M.timers+2}) ⟨LC,by rw[Lh,K3,In,Fd,BT,Lb],by rw[Lh,K3,In,Fd,BT],by
    unfold FR.En.hand FR.En.handS;rw[if_pos K4,if_pos K4,if_pos K4,Lh,K3,In,Fd,BT,Lb,hs1,Lo,K6,wf,mt]
    rfl⟩ ⟨rfl,rfl,rfl,rfl,trivial⟩ aT
  ·
   have K4:¬0<nd.beat:=K8;refine ae ?_;exact aW (O,s6) ⟨Lt,by rw[K3,In,Fd,BT,Lb],by rw[K3,In,Fd,BT],by
    unfold FR.En.hand FR.En.handS;rw[if_neg K4,if_neg K4,if_neg K4,K3,In,Fd,BT,Lb,hs1,K6,wf,mt]
    rfl⟩ ⟨rfl,rfl,rfl,rfl,trivial⟩ aT
 rintro⟨MX,sx⟩ ⟨Li,Lp,Lq,Lr⟩;replace Li:MX.runs[i]?=some u:=Li;replace Lp:sx.KU=s.KU+1:=Lp;replace Lq:sx.token=M.KS+1:=Lq;replace Lr:M.hand q i k u s nd=MX.setR i (u.setS k sx):=Lr;refine sQ<|sZ Z<|dj 0 Z (bl 0 Z)<|bQ Z (au (v:=aQ u.id) Z) (ah Z)<|bC Z (bl 1 Z)<|bQ Z (au (v:=aw (k:Int)) Z) (ah Z)<|cv Z Z<|dt 1 Z Z Z<|bQ Z (au (v:=aw (s.KU+1)) Z) (dH (a:=a.q o4 I) (id:=u.id) (j:=1) (FR.ic Li (u.setS k sx)) Z (Y sx) (by rw[<-Lp];rfl))<|cv Z Z<|dt 2 Z Z Z<|bQ Z (au (v:=aQ (M.KS+1)) Z) (dH (a:=a.q o4 I) (id:=u.id) (j:=2) (FR.ic Li (u.setS k sx)) Z (Y sx) (by rw[<-Lq];rfl))<|bC Z (bI (cs:=(cd u.id k (s.KU+1) (M.KS+1)).toArray) Z Z Z Z Z) ?_
 refine dA 13 Z<|bh (vs:=cd u.id k (s.KU+1) (M.KS+1)) Z (m:=4) Z Z Z Z er (by show 0+4<=4;omega) ?_
 refine dK [false,false,false,false] ak<|dj 14 Z (aU Z)<|dE<|sT<|an<|dr [aV e (a.q o4 I) ns (M.hand q i k u s nd),bx ns] rfl (bM (vs:=cd u.id k (s.KU+1) (M.KS+1)) Z Z Z Z (bm Z)) (bL Z) ⟨rfl,o4,I,rfl⟩ ?_
 rw[Lr];exact Ent.drop.trans<|Ent.cons<|Ent.drop.trans Ent.drop
end
end Go.Y
namespace Go.SL
open Go Go.RowKit
theorem wB {E:Func} {i j k p q:Tmp} (h:E.results=#[.tmp i,.tmp j,.tmp k,.tmp p,.tmp q]) (tmps:Array Value) (P:Program) (w:World) :
 (results E tmps).run P w=.ok (.tuple #[tmps.getD i undef,tmps.getD j undef,tmps.getD k undef,tmps.getD p undef,tmps.getD q undef]) w:=by
 simp[results,h]
theorem BO {J:Func} {fr:List HP} {p q:Nat} {u x y z:Value} (m:List HP) (K:J.results=#[.tmp i,.tmp j,.tmp k,.tmp p,.tmp q]) (O:look i I=some u) (T:look j I=some v) (Y:look k I=some x) (hy:look p I=some y) (hz:look q I=some z) (hR:R (.tuple #[u,v,x,y,z]) m) (hm:Ent l (m++fr)):At E n [] I l (mh P J E fr R .ret):=λ_ _ f hw=>
 ⟨f.defers,_,by rw[wB K,fq (f.get i u O),fq (f.get j v T),fq (f.get k x Y),fq (f.get p y hy),fq (f.get q z hz)],_,m,rfl,hR,hw.ent hm⟩
end Go.SL
namespace FR
def oRun:Option Ac->Int
 | none=>-1
 | some b=>b.run
def Jy:Option Ac->Int
 | none=>-1
 | some b=>b.node
def Jx:Option Ac->Bool
 | none=>false
 | some b=>b.sign
def JT:Option Ac->Nat
 | none=>0
 | some b=>b.due
def oSeq:Option Ac->Nat
 | none=>0
 | some b=>b.seq
theorem Ce {r:Rn} (hi:M.runs[i]?=some r):M.actsN (i+1)=M.actsN i++r.acts i:=by
 unfold En.actsN;rw[List.range_succ,List.flatMap_append];simp[hi]
theorem tI {l:List St} (E:l[k]?=some s):kp i l (k+1)=kp i l k++s.acts i k:=by
 unfold kp;rw[List.range_succ,List.flatMap_append];simp[E]
theorem kI {b a:Ac} (h:a.lt b):pick (some b) a=some a:=if_pos h
theorem jA {b a:Ac} (h:¬a.lt b):pick (some b) a=some b:=if_neg h
end FR
namespace Go.Y
open Go.Proofs
open Go Go.RowKit Go.SL
abbrev pT (o:Option FR.Ac):List (Nat×Value):=[(11,aw (FR.oSeq o)),(10,.int .u64 (FR.JT o)),(9,.bool (FR.Jx o)),(8,aw (FR.Jy o)),(7,aw (FR.oRun o))]
abbrev bestV (o:Option FR.Ac):Value:=.tuple #[aw (FR.oRun o),aw (FR.Jy o),.bool (FR.Jx o),.int .u64 (FR.JT o),aw (FR.oSeq o)]
theorem yL (h:M.runs.length<=100) (Li:∀u∈M.runs,u.KV.length<=100):dx G 125 [aX e] [aV e a ns M] λv m=>v=bestV M.first/\m=[aV e a ns M]:=by
 refine bA Tryz.func125 Z λE fr hE=>aa<|sS<|sA Z<|sA Z<|sA Z<|sA Z<|sB Z<|sS<|sB Z<|sS<|sB Z ?_
 refine sS<|sB Z<|sS<|sB Z<|sS<|sB Z<|sQ<|sS<|sA Z<|ao ?_
 refine sT<|ag ?_
 refine aO (X:=Nat×Option FR.Ac) (λx=>(12,aw x.1)::(0,aX e)::pT x.2) (λ_=>aV e a ns M::fr) (λx=>x.1<=M.runs.length/\x.2=(M.actsN x.1).foldl FR.pick none) (λx=>M.runs.length-x.1) (0,none) ⟨Nat.zero_le _,rfl⟩ bV aT ?_;rintro⟨i,o⟩ ⟨hi,ho⟩;replace hi:i<=M.runs.length:=hi;replace ho:o=(M.actsN i).foldl FR.pick none:=ho;refine sQ<|bq Z<|cG 2 Z Z<|bF (au (v:=iP a M) Z) (cg Z)<|sP (bp Z Z)<|sP (bz Z Z Z)<|sN ?_
 refine aB Z (λK6=>?_) λK6=>?_
 ·
  have K4:i<M.runs.length:=by have:(i:Int)<(M.runs.length:Int):=K6;omega
  obtain⟨u,hu⟩:∃u,M.runs[i]?=some u:=⟨M.runs[i],by simp[K4]⟩;have Lr:=Li u (bY hu);have Lg:=FR.Ce hu;refine bt (p:=∃g,a.rg=some g) (λw hw=>gY hu hw) λ⟨gr,hg⟩=>?_;refine ae<|sT<|sQ<|ag<|sS<|cG 2 Z Z<|bF (au (v:=dp gr M.runs.length a.rc) Z) (dF hg)<|ch Z (aS (z:=8) Z Z Z Z K4)<|bF (bO (vs:=gT (a.ra u.id) u) Z) (kX hu hg)<|sO (cH (z:=.agg #[.int .u64 0,aw 0,cx,aw 0,.int .u64 0,aw 0,cx,aw 0]) Z λI=>?_)
  refine sO<|bh (vs:=gT (a.ra u.id) u) Z (m:=8) Z Z Z Z er (by show 0+8<=8;omega) ?_
  refine aG I (gT (a.ra u.id) u).toArray Z<|sN<|sQ<|sS<|bn 3 Z<|bF (au (v:=aw u.state) Z) (ah Z)<|sP (dc Z Z Z)<|sN ?_
  refine aB Z (λK7=>?_) λK7=>?_
  ·
   have In:u.state≠1:=K7;refine aL<|aA<|ap<|sT<|sG<|ch Z (bc (r:=((i+1:Nat):Int)) Z Z dP)<|sA Z<|ao ?_
   have Lh:u.acts i=[]:=if_neg In;exact aE (i+1,o) ⟨K4,by show o=_;rw[Lg,List.foldl_append,<-ho,Lh];rfl⟩ (by show M.runs.length-(i+1)<M.runs.length-i;omega) bV Ent.drop
  ·
   have In:u.state=1:=Decidable.not_not.1 K7;obtain⟨hd,wf⟩:∃hd:FR.Ac,hd=⟨i,-1,false,u.till,u.tillAt⟩:=⟨_,rfl⟩;refine ae<|sT ?_
   refine sQ<|cw (X:=FR.Ac) (λc=>(13,aX I)::(12,aw i)::(0,aX e)::pT (some c)) (λ_=>blk I 150 (gT (a.ra u.id) u).toArray::aV e a ns M::fr) (λc=>FR.pick o hd=some c) ?_ ?_
   ·
    refine sQ<|cw (X:=Bool) (λb=>(54,.bool b)::(13,aX I)::(12,aw i)::(0,aX e)::pT o) (λ_=>blk I 150 (gT (a.ra u.id) u).toArray::aV e a ns M::fr) (λb=>FR.pick o hd=if b=true then some hd else o) ?_ ?_
    ·
     by_cases hO:o=none
     ·
      subst hO;refine sG<|ch Z (bz (r:=true) Z Z Z)<|sM Z<|bg Z<|bg Z<|bg Z<|bg Z<|sP (aF Z Z Z)<|sM Z<|bg Z<|bg Z<|bg Z<|bg Z<|bg Z<|eN Z<|eN Z<|eN Z<|eN Z<|bg Z ?_
      refine sP (aF Z Z Z)<|ao ?_
      exact aW true (by rfl) bV aT
     ·
      obtain⟨T,rfl⟩:∃T,o=some T:=Option.ne_none_iff_exists'.1 hO
      by_cases h1:u.till<T.due
      ·
       refine sG<|ch Z (cS Z Z (by show ¬((T.run:Nat):Int)<0;omega))<|sM Z<|ci (bl 4 Z)<|fN (au (v:=aQ u.till) Z) (ah Z)<|db Z<|ci (ie Z Z (by show(u.till:Int)<(T.due:Int);omega))<|sP (aF Z Z Z)<|sM Z<|bg Z<|bg Z<|bg Z<|bg Z<|bg Z<|eN Z<|eN Z<|eN Z<|eN Z<|bg Z ?_
       refine sP (aF Z Z Z)<|ao ?_
       exact aW true (by rw[if_pos rfl];exact FR.kI (by rw[wf];exact .inl h1)) bV aT
      ·
       by_cases h2:u.till=T.due
       ·
        by_cases h3:u.tillAt<T.seq
        ·
         refine sG<|ch Z (cS Z Z (by show ¬((T.run:Nat):Int)<0;omega))<|sM Z<|ci (bl 4 Z)<|fN (au (v:=aQ u.till) Z) (ah Z)<|db Z<|ci (cS Z Z (by show ¬(u.till:Int)<(T.due:Int);omega))<|sP (aF Z Z Z)<|sM Z<|ci (bl 4 Z)<|fN (au (v:=aQ u.till) Z) (ah Z)<|db Z<|ci (cT Z Z (by show(u.till:Int)=(T.due:Int);omega))<|db Z<|ci (bl 5 Z)<|fN (au (v:=aw (u.tillAt:Int)) Z) (ah Z)<|db Z<|ci (ie Z Z (by show(u.tillAt:Int)<(T.seq:Int);omega))<|ci (aF Z Z Z) ?_
         refine sP (aF Z Z Z)<|ao ?_
         exact aW true (by rw[if_pos rfl];exact FR.kI (by rw[wf];exact .inr ⟨h2,h3⟩)) bV aT
        ·
         refine sG<|ch Z (cS Z Z (by show ¬((T.run:Nat):Int)<0;omega))<|sM Z<|ci (bl 4 Z)<|fN (au (v:=aQ u.till) Z) (ah Z)<|db Z<|ci (cS Z Z (by show ¬(u.till:Int)<(T.due:Int);omega))<|sP (aF Z Z Z)<|sM Z<|ci (bl 4 Z)<|fN (au (v:=aQ u.till) Z) (ah Z)<|db Z<|ci (cT Z Z (by show(u.till:Int)=(T.due:Int);omega))<|db Z<|ci (bl 5 Z)<|fN (au (v:=aw (u.tillAt:Int)) Z) (ah Z)<|db Z<|ci (cS Z Z (by show ¬(u.tillAt:Int)<(T.seq:Int);omega))<|ci (aF Z Z Z) ?_
         refine sP (aF Z Z Z)<|ao ?_
         exact aW false (by rw[if_neg fi];exact FR.jA (by rw[wf];rintro(h|h);exact h1 h;exact h3 h.2)) bV aT
       ·
        refine sG<|ch Z (cS Z Z (by show ¬((T.run:Nat):Int)<0;omega))<|sM Z<|ci (bl 4 Z)<|fN (au (v:=aQ u.till) Z) (ah Z)<|db Z<|ci (cS Z Z (by show ¬(u.till:Int)<(T.due:Int);omega))<|sP (aF Z Z Z)<|sM Z<|ci (bl 4 Z)<|fN (au (v:=aQ u.till) Z) (ah Z)<|db Z<|ci (d8 Z Z (by show ¬(u.till:Int)=(T.due:Int);omega))<|db Z<|bg Z<|bg Z<|bg Z<|bg Z<|ci (aF Z Z Z) ?_
        refine sP (aF Z Z Z)<|ao ?_
        exact aW false (by rw[if_neg fi];exact FR.jA (by rw[wf];rintro(h|h);exact h1 h;exact h2 h.1)) bV aT
    intro b hb;refine ce Z (λK8=>?_) λK8=>?_
    ·
     refine sZ Z<|dT Z Z<|bC Z (bl 4 Z)<|bQ Z (au (v:=aQ u.till) Z) (ah Z)<|bC Z (bl 5 Z)<|bQ Z (au (v:=aw (u.tillAt:Int)) Z) (ah Z)<|bC Z (aU Z)<|bC Z (aU Z)<|bC Z (aU Z)<|bC Z (aU Z)<|bC Z (aU Z)<|dE ?_
     exact aW hd (by rw[hb,if_pos K8]) (by rw[wf];exact bV) aT
    ·
     rw[if_neg (by rw[K8];decide)] at hb;obtain⟨c1,rfl⟩:∃c1,o=some c1:=by
      cases o with
      | none=>cases hb
      | some c1=>exact⟨c1,rfl⟩
     exact ae<|aW c1 hb bV aT
   intro c0 Lj;refine sS<|sB Z<|ag ?_
   refine aO (X:=Nat×FR.Ac) (λx=>(14,aw x.1)::(13,aX I)::(12,aw i)::(0,aX e)::pT (some x.2)) (λ_=>blk I 150 (gT (a.ra u.id) u).toArray::aV e a ns M::fr) (λx=>x.1<=u.KV.length/\some x.2=(FR.kp i u.KV x.1).foldl FR.pick (some c0)) (λx=>u.KV.length-x.1) (0,c0) ⟨Nat.zero_le _,rfl⟩ bV aT ?_;rintro⟨k,b⟩ ⟨hk,K3⟩;replace hk:k<=u.KV.length:=hk;replace K3:some b=(FR.kp i u.KV k).foldl FR.pick (some c0):=K3;refine sQ<|bq Z<|bn 6 Z<|bF (au (v:=jg (a.ra u.id) u) Z) (ah Z)<|sP (bp Z Z)<|sP (bz Z Z Z)<|sN ?_
   refine aB Z (λK9=>?_) λK9=>?_
   ·
    have Lc:k<u.KV.length:=by have:(k:Int)<(u.KV.length:Int):=K9;omega
    obtain⟨s,hs⟩:∃s,u.KV[k]?=some s:=⟨u.KV[k],by simp[Lc]⟩;have Ln:=FR.tI (i:=i) hs;obtain⟨a1,K⟩:∃a1:FR.Ac,a1=⟨i,(k:Int),false,s.fin,s.finAt⟩:=⟨_,rfl⟩;obtain⟨a2,BT⟩:∃a2:FR.Ac,a2=⟨i,(k:Int),true,s.sign,s.signAt⟩:=⟨_,rfl⟩;have Lo:s.acts i k=(if s.state=3\/s.state=4 then[a1] else[])++if s.state=3/\0<s.sign then[a2] else[]:=by rw[K,BT];rfl
    refine ae<|sT ?_
    refine sQ<|cw (X:=FR.Ac) (λx=>(14,aw k)::(13,aX I)::(12,aw i)::(0,aX e)::pT (some x)) (λ_=>blk I 150 (gT (a.ra u.id) u).toArray::aV e a ns M::fr) (λx=>(s.acts i k).foldl FR.pick (some b)=some x) ?_ ?_
    ·
     refine ag<|sS<|bn 6 Z<|bF (au (v:=jg (a.ra u.id) u) Z) (ah Z)<|ch Z (aS (z:=7) Z Z Z Z Lc)<|bF (bO (vs:=qQ s) Z) (qW hu Z hs)<|sO (cH (z:=.agg #[aw 0,aw 0,.int .u64 0,.int .u64 0,.int .u64 0,aw 0,aw 0]) Z λmt=>?_)
     refine sO<|bh (vs:=qQ s) Z (m:=7) Z Z Z Z er (by show 0+7<=7;omega) ?_
     refine aG mt (qQ s).toArray Z ?_;have Ls:∀x:Nat,FR.JT (some b)=x<->b.due=x:=λ_=>Iff.rfl;refine sN ?_;refine sQ<|cw (X:=FR.Ac) (λx=>(15,aX mt)::(14,aw k)::(13,aX I)::(12,aw i)::(0,aX e)::pT (some x)) (λ_=>blk mt 194 (qQ s).toArray::blk I 150 (gT (a.ra u.id) u).toArray::aV e a ns M::fr) (λx=>(if s.state=3\/s.state=4 then FR.pick (some b) a1 else some b)=some x) ?_ ?_
     ·
      refine sQ<|cw (X:=Bool) (λx=>(97,.bool x)::(15,aX mt)::(14,aw k)::(13,aX I)::(12,aw i)::(0,aX e)::pT (some b)) (λ_=>blk mt 194 (qQ s).toArray::blk I 150 (gT (a.ra u.id) u).toArray::aV e a ns M::fr) (λx=>(if s.state=3\/s.state=4 then FR.pick (some b) a1 else some b)=if x=true then some a1 else some b) ?_ ?_
      ·
       by_cases J:s.state=3
       ·
        by_cases h1:s.fin<b.due
        ·
         refine sG<|bn 0 Z<|bF (au (v:=aw s.state) Z) (ah Z)<|sP (cT Z Z J)<|sM Z<|bg Z<|bg Z<|bg Z<|sP (aF Z Z Z)<|sM Z<|ci (bl 3 Z)<|fN (au (v:=aQ s.fin) Z) (ah Z)<|db Z<|ci (ie Z Z (by show(s.fin:Int)<(b.due:Int);omega))<|db Z<|bg Z<|bg Z<|bg Z<|bg Z<|bg Z ?_
         refine eN Z<|eN Z<|eN Z<|eN Z<|bg Z<|ci (aF Z Z Z)<|sP (aF Z Z Z)<|ao ?_
         exact aW true (by rw[if_pos (.inl J),if_pos rfl];exact FR.kI (by rw[K];exact .inl h1)) bV aT
        ·
         by_cases h2:s.fin=b.due
         ·
          by_cases h3:s.finAt<b.seq
          ·
           refine sG<|bn 0 Z<|bF (au (v:=aw s.state) Z) (ah Z)<|sP (cT Z Z J)<|sM Z<|bg Z<|bg Z<|bg Z<|sP (aF Z Z Z)<|sM Z<|ci (bl 3 Z)<|fN (au (v:=aQ s.fin) Z) (ah Z)<|db Z<|ci (cS Z Z (by show ¬(s.fin:Int)<(b.due:Int);omega))<|db Z<|ci (bl 3 Z)<|fN (au (v:=aQ s.fin) Z) (ah Z)<|db Z<|ci (cT Z Z (by show(s.fin:Int)=(b.due:Int);omega))<|db Z ?_
           refine ci (bl 5 Z)<|fN (au (v:=aw (s.finAt:Int)) Z) (ah Z)<|db Z<|ci (ie Z Z (by show(s.finAt:Int)<(b.seq:Int);omega))<|ci (aF Z Z Z)<|ci (aF Z Z Z)<|sP (aF Z Z Z)<|ao ?_
           exact aW true (by rw[if_pos (.inl J),if_pos rfl];exact FR.kI (by rw[K];exact .inr ⟨h2,h3⟩)) bV aT
          ·
           refine sG<|bn 0 Z<|bF (au (v:=aw s.state) Z) (ah Z)<|sP (cT Z Z J)<|sM Z<|bg Z<|bg Z<|bg Z<|sP (aF Z Z Z)<|sM Z<|ci (bl 3 Z)<|fN (au (v:=aQ s.fin) Z) (ah Z)<|db Z<|ci (cS Z Z (by show ¬(s.fin:Int)<(b.due:Int);omega))<|db Z<|ci (bl 3 Z)<|fN (au (v:=aQ s.fin) Z) (ah Z)<|db Z<|ci (cT Z Z (by show(s.fin:Int)=(b.due:Int);omega))<|db Z ?_
           refine ci (bl 5 Z)<|fN (au (v:=aw (s.finAt:Int)) Z) (ah Z)<|db Z<|ci (cS Z Z (by show ¬(s.finAt:Int)<(b.seq:Int);omega))<|ci (aF Z Z Z)<|ci (aF Z Z Z)<|sP (aF Z Z Z)<|ao ?_
           exact aW false (by rw[if_pos (.inl J),if_neg fi];exact FR.jA (by rw[K];rintro(h|h);exact h1 h;exact h3 h.2)) bV aT
         ·
          refine sG<|bn 0 Z<|bF (au (v:=aw s.state) Z) (ah Z)<|sP (cT Z Z J)<|sM Z<|bg Z<|bg Z<|bg Z<|sP (aF Z Z Z)<|sM Z<|ci (bl 3 Z)<|fN (au (v:=aQ s.fin) Z) (ah Z)<|db Z<|ci (cS Z Z (by show ¬(s.fin:Int)<(b.due:Int);omega))<|db Z<|ci (bl 3 Z)<|fN (au (v:=aQ s.fin) Z) (ah Z)<|db Z<|ci (d8 Z Z (by show ¬(s.fin:Int)=(b.due:Int);omega))<|db Z ?_
          refine bg Z<|bg Z<|bg Z<|bg Z<|ci (aF Z Z Z)<|ci (aF Z Z Z)<|sP (aF Z Z Z)<|ao ?_
          exact aW false (by rw[if_pos (.inl J),if_neg fi];exact FR.jA (by rw[K];rintro(h|h);exact h1 h;exact h2 h.1)) bV aT
       ·
        by_cases Y:s.state=4
        ·
         by_cases h1:s.fin<b.due
         ·
          refine sG<|bn 0 Z<|bF (au (v:=aw s.state) Z) (ah Z)<|sP (d8 Z Z J)<|sM Z<|ci (bl 0 Z)<|fN (au (v:=aw s.state) Z) (ah Z)<|ci (cT Z Z Y)<|sP (aF Z Z Z)<|sM Z<|ci (bl 3 Z)<|fN (au (v:=aQ s.fin) Z) (ah Z)<|db Z<|ci (ie Z Z (by show(s.fin:Int)<(b.due:Int);omega))<|db Z<|bg Z<|bg Z<|bg Z<|bg Z<|bg Z ?_
          refine eN Z<|eN Z<|eN Z<|eN Z<|bg Z<|ci (aF Z Z Z)<|sP (aF Z Z Z)<|ao ?_
          exact aW true (by rw[if_pos (.inr Y),if_pos rfl];exact FR.kI (by rw[K];exact .inl h1)) bV aT
         ·
          by_cases h2:s.fin=b.due
          ·
           by_cases h3:s.finAt<b.seq
           ·
            refine sG<|bn 0 Z<|bF (au (v:=aw s.state) Z) (ah Z)<|sP (d8 Z Z J)<|sM Z<|ci (bl 0 Z)<|fN (au (v:=aw s.state) Z) (ah Z)<|ci (cT Z Z Y)<|sP (aF Z Z Z)<|sM Z<|ci (bl 3 Z)<|fN (au (v:=aQ s.fin) Z) (ah Z)<|db Z<|ci (cS Z Z (by show ¬(s.fin:Int)<(b.due:Int);omega))<|db Z<|ci (bl 3 Z)<|fN (au (v:=aQ s.fin) Z) (ah Z)<|db Z<|ci (cT Z Z (by show(s.fin:Int)=(b.due:Int);omega))<|db Z ?_
            refine ci (bl 5 Z)<|fN (au (v:=aw (s.finAt:Int)) Z) (ah Z)<|db Z<|ci (ie Z Z (by show(s.finAt:Int)<(b.seq:Int);omega))<|ci (aF Z Z Z)<|ci (aF Z Z Z)<|sP (aF Z Z Z)<|ao ?_
            exact aW true (by rw[if_pos (.inr Y),if_pos rfl];exact FR.kI (by rw[K];exact .inr ⟨h2,h3⟩)) bV aT
           ·
            refine sG<|bn 0 Z<|bF (au (v:=aw s.state) Z) (ah Z)<|sP (d8 Z Z J)<|sM Z<|ci (bl 0 Z)<|fN (au (v:=aw s.state) Z) (ah Z)<|ci (cT Z Z Y)<|sP (aF Z Z Z)<|sM Z<|ci (bl 3 Z)<|fN (au (v:=aQ s.fin) Z) (ah Z)<|db Z<|ci (cS Z Z (by show ¬(s.fin:Int)<(b.due:Int);omega))<|db Z<|ci (bl 3 Z)<|fN (au (v:=aQ s.fin) Z) (ah Z)<|db Z<|ci (cT Z Z (by show(s.fin:Int)=(b.due:Int);omega))<|db Z ?_
            refine ci (bl 5 Z)<|fN (au (v:=aw (s.finAt:Int)) Z) (ah Z)<|db Z<|ci (cS Z Z (by show ¬(s.finAt:Int)<(b.seq:Int);omega))<|ci (aF Z Z Z)<|ci (aF Z Z Z)<|sP (aF Z Z Z)<|ao ?_
            exact aW false (by rw[if_pos (.inr Y),if_neg fi];exact FR.jA (by rw[K];rintro(h|h);exact h1 h;exact h3 h.2)) bV aT
          ·
           refine sG<|bn 0 Z<|bF (au (v:=aw s.state) Z) (ah Z)<|sP (d8 Z Z J)<|sM Z<|ci (bl 0 Z)<|fN (au (v:=aw s.state) Z) (ah Z)<|ci (cT Z Z Y)<|sP (aF Z Z Z)<|sM Z<|ci (bl 3 Z)<|fN (au (v:=aQ s.fin) Z) (ah Z)<|db Z<|ci (cS Z Z (by show ¬(s.fin:Int)<(b.due:Int);omega))<|db Z<|ci (bl 3 Z)<|fN (au (v:=aQ s.fin) Z) (ah Z)<|db Z<|ci (d8 Z Z (by show ¬(s.fin:Int)=(b.due:Int);omega))<|db Z ?_
           refine bg Z<|bg Z<|bg Z<|bg Z<|ci (aF Z Z Z)<|ci (aF Z Z Z)<|sP (aF Z Z Z)<|ao ?_
           exact aW false (by rw[if_pos (.inr Y),if_neg fi];exact FR.jA (by rw[K];rintro(h|h);exact h1 h;exact h2 h.1)) bV aT
        ·
         refine sG<|bn 0 Z<|bF (au (v:=aw s.state) Z) (ah Z)<|sP (d8 Z Z J)<|sM Z<|ci (bl 0 Z)<|fN (au (v:=aw s.state) Z) (ah Z)<|ci (d8 Z Z Y)<|sP (aF Z Z Z)<|sM Z<|bg Z<|bg Z<|bg Z<|bg Z<|bg Z<|eN Z<|eN Z<|eN Z<|eN Z<|eN Z ?_
         refine eN Z<|eN Z<|eN Z<|eN Z<|eN Z<|bg Z<|sP (aF Z Z Z)<|ao ?_
         exact aW false (by rw[if_neg (by rintro(h|h);exact J h;exact Y h)];rfl) bV aT
      intro x1 Ld;refine ce Z (λLb=>?_) λLb=>?_
      ·
       refine sZ Z<|dT Z Z<|cv Z Z<|bC Z (bl 3 Z)<|bQ Z (au (v:=aQ s.fin) Z) (ah Z)<|bC Z (bl 5 Z)<|bQ Z (au (v:=aw (s.finAt:Int)) Z) (ah Z)<|bC Z (aU Z)<|bC Z (aU Z)<|bC Z (aU Z)<|bC Z (aU Z)<|bC Z (aU Z)<|dE ?_
       exact aW a1 (by rw[Ld,if_pos Lb]) (by rw[K];exact bV) aT
      ·
       refine ae ?_;exact aW b (by rw[Ld,if_neg (by rw[Lb];decide)]) bV aT
     intro O Ll;refine sQ<|cw (X:=Bool) (λx=>(129,.bool x)::(15,aX mt)::(14,aw k)::(13,aX I)::(12,aw i)::(0,aX e)::pT (some O)) (λ_=>blk mt 194 (qQ s).toArray::blk I 150 (gT (a.ra u.id) u).toArray::aV e a ns M::fr) (λx=>(if s.state=3/\0<s.sign then FR.pick (some O) a2 else some O)=if x=true then some a2 else some O) ?_ ?_
     ·
      by_cases J:s.state=3
      ·
       by_cases Y:0<s.sign
       ·
        by_cases h1:s.sign<O.due
        ·
         refine sG<|bn 0 Z<|bF (au (v:=aw s.state) Z) (ah Z)<|sP (cT Z Z J)<|sM Z<|ci (bl 4 Z)<|fN (au (v:=aQ s.sign) Z) (ah Z)<|ci (ig Z Z am)<|sP (aF Z Z Z)<|sM Z<|ci (bl 4 Z)<|fN (au (v:=aQ s.sign) Z) (ah Z)<|db Z<|ci (ie Z Z (by show(s.sign:Int)<(O.due:Int);omega))<|db Z<|bg Z<|bg Z<|bg Z<|bg Z<|bg Z ?_
         refine eN Z<|eN Z<|eN Z<|eN Z<|bg Z<|ci (aF Z Z Z)<|sP (aF Z Z Z)<|ao ?_
         exact aW true (by rw[if_pos ⟨J,Y⟩,if_pos rfl];exact FR.kI (by rw[BT];exact .inl h1)) bV aT
        ·
         by_cases h2:s.sign=O.due
         ·
          by_cases h3:s.signAt<O.seq
          ·
           refine sG<|bn 0 Z<|bF (au (v:=aw s.state) Z) (ah Z)<|sP (cT Z Z J)<|sM Z<|ci (bl 4 Z)<|fN (au (v:=aQ s.sign) Z) (ah Z)<|ci (ig Z Z am)<|sP (aF Z Z Z)<|sM Z<|ci (bl 4 Z)<|fN (au (v:=aQ s.sign) Z) (ah Z)<|db Z<|ci (cS Z Z (by show ¬(s.sign:Int)<(O.due:Int);omega))<|db Z<|ci (bl 4 Z)<|fN (au (v:=aQ s.sign) Z) (ah Z)<|db Z<|ci (cT Z Z (by show(s.sign:Int)=(O.due:Int);omega))<|db Z ?_
           refine ci (bl 6 Z)<|fN (au (v:=aw (s.signAt:Int)) Z) (ah Z)<|db Z<|ci (ie Z Z (by show(s.signAt:Int)<(O.seq:Int);omega))<|ci (aF Z Z Z)<|ci (aF Z Z Z)<|sP (aF Z Z Z)<|ao ?_
           exact aW true (by rw[if_pos ⟨J,Y⟩,if_pos rfl];exact FR.kI (by rw[BT];exact .inr ⟨h2,h3⟩)) bV aT
          ·
           refine sG<|bn 0 Z<|bF (au (v:=aw s.state) Z) (ah Z)<|sP (cT Z Z J)<|sM Z<|ci (bl 4 Z)<|fN (au (v:=aQ s.sign) Z) (ah Z)<|ci (ig Z Z am)<|sP (aF Z Z Z)<|sM Z<|ci (bl 4 Z)<|fN (au (v:=aQ s.sign) Z) (ah Z)<|db Z<|ci (cS Z Z (by show ¬(s.sign:Int)<(O.due:Int);omega))<|db Z<|ci (bl 4 Z)<|fN (au (v:=aQ s.sign) Z) (ah Z)<|db Z<|ci (cT Z Z (by show(s.sign:Int)=(O.due:Int);omega))<|db Z ?_
           refine ci (bl 6 Z)<|fN (au (v:=aw (s.signAt:Int)) Z) (ah Z)<|db Z<|ci (cS Z Z (by show ¬(s.signAt:Int)<(O.seq:Int);omega))<|ci (aF Z Z Z)<|ci (aF Z Z Z)<|sP (aF Z Z Z)<|ao ?_
           exact aW false (by rw[if_pos ⟨J,Y⟩,if_neg fi];exact FR.jA (by rw[BT];rintro(h|h);exact h1 h;exact h3 h.2)) bV aT
         ·
          refine sG<|bn 0 Z<|bF (au (v:=aw s.state) Z) (ah Z)<|sP (cT Z Z J)<|sM Z<|ci (bl 4 Z)<|fN (au (v:=aQ s.sign) Z) (ah Z)<|ci (ig Z Z am)<|sP (aF Z Z Z)<|sM Z<|ci (bl 4 Z)<|fN (au (v:=aQ s.sign) Z) (ah Z)<|db Z<|ci (cS Z Z (by show ¬(s.sign:Int)<(O.due:Int);omega))<|db Z<|ci (bl 4 Z)<|fN (au (v:=aQ s.sign) Z) (ah Z)<|db Z<|ci (d8 Z Z (by show ¬(s.sign:Int)=(O.due:Int);omega))<|db Z ?_
          refine bg Z<|bg Z<|bg Z<|bg Z<|ci (aF Z Z Z)<|ci (aF Z Z Z)<|sP (aF Z Z Z)<|ao ?_
          exact aW false (by rw[if_pos ⟨J,Y⟩,if_neg fi];exact FR.jA (by rw[BT];rintro(h|h);exact h1 h;exact h2 h.1)) bV aT
       ·
        refine sG<|bn 0 Z<|bF (au (v:=aw s.state) Z) (ah Z)<|sP (cT Z Z J)<|sM Z<|ci (bl 4 Z)<|fN (au (v:=aQ s.sign) Z) (ah Z)<|ci (lF Z Z am)<|sP (aF Z Z Z)<|sM Z<|bg Z<|bg Z<|bg Z<|bg Z<|bg Z<|eN Z<|eN Z<|eN Z<|eN Z<|eN Z ?_
        refine eN Z<|eN Z<|eN Z<|eN Z<|eN Z<|bg Z<|sP (aF Z Z Z)<|ao ?_
        exact aW false (by rw[if_neg λh=>Y h.2];rfl) bV aT
      ·
       refine sG<|bn 0 Z<|bF (au (v:=aw s.state) Z) (ah Z)<|sP (d8 Z Z J)<|sM Z<|bg Z<|bg Z<|bg Z<|sP (aF Z Z Z)<|sM Z<|bg Z<|bg Z<|bg Z<|bg Z<|bg Z<|eN Z<|eN Z<|eN Z<|eN Z<|eN Z ?_
       refine eN Z<|eN Z<|eN Z<|eN Z<|eN Z<|bg Z<|sP (aF Z Z Z)<|ao ?_
       exact aW false (by rw[if_neg λh=>J h.1];rfl) bV aT
     intro x2 Le;have K5:(s.acts i k).foldl FR.pick (some b)=if s.state=3/\0<s.sign then FR.pick (some O) a2 else some O:=by
      rw[Lo,List.foldl_append];have e1:(if s.state=3\/s.state=4 then[a1] else[]).foldl FR.pick (some b)=some O:=by rw[<-Ll];split<;>rfl
      rw[e1]
      split<;>rfl
     refine ce Z (λFd=>?_) λFd=>?_
     ·
      refine sZ Z<|dT Z Z<|cv Z Z<|bC Z (bl 4 Z)<|bQ Z (au (v:=aQ s.sign) Z) (ah Z)<|bC Z (bl 6 Z)<|bQ Z (au (v:=aw (s.signAt:Int)) Z) (ah Z)<|bC Z (aU Z)<|bC Z (aU Z)<|bC Z (aU Z)<|bC Z (aU Z)<|bC Z (aU Z)<|dE<|al ?_
      exact aW a2 (by rw[K5,Le,if_pos Fd]) (by rw[BT];exact bV) Ent.drop
     ·
      refine ae<|al ?_
      exact aW O (by rw[K5,Le,if_neg (by rw[Fd];decide)]) bV Ent.drop
    intro b2 Lm;refine sG<|ch Z (bc (r:=((k+1:Nat):Int)) Z Z dP)<|sA Z<|ao ?_
    exact aE (k+1,b2) ⟨Lc,by
     show some b2=_;rw[Ln,List.foldl_append,<-K3,Lm]⟩ (by show u.KV.length-(k+1)<u.KV.length-k;omega) ⟨rfl,rfl,rfl,rfl,rfl,rfl,rfl,rfl,rfl,trivial⟩ aT
   ·
    have Lp:k=u.KV.length:=by have:¬(k:Int)<(u.KV.length:Int):=K9;omega
    refine aL<|aA<|az<|ap<|al<|sT<|sG<|ch Z (bc (r:=((i+1:Nat):Int)) Z Z dP)<|sA Z<|ao ?_
    exact aE (i+1,some b) ⟨K4,by
     show some b=_;have e1:u.acts i=hd::FR.kp i u.KV u.KV.length:=by rw[wf];exact if_pos In
     rw[Lg,List.foldl_append,<-ho,e1,List.foldl_cons,Lj,<-Lp];exact K3⟩ (by show M.runs.length-(i+1)<M.runs.length-i;omega) ⟨rfl,rfl,rfl,rfl,rfl,rfl,rfl,trivial⟩ Ent.drop
 ·
  have Lq:i=M.runs.length:=by have:¬(i:Int)<(M.runs.length:Int):=K6;omega
  refine aL<|aA<|az<|ap<|sT<|bq Z<|sM Z<|sM Z<|sM Z<|sM Z<|sA Z<|sA Z<|sA Z<|sA Z<|sB Z<|an ?_
  exact BO [aV e a ns M] rfl Z Z Z Z Z ⟨by rw[ho,Lq];rfl,rfl⟩ aT
section
variable {M':FR.En}
theorem wa {f:FK.Flow} (h:FK.Fit f):tU f:=λnd hnd x E=>by
 obtain⟨i,hi⟩:=List.getElem?_of_mem hnd;have I:=(h.KW i nd (gfGet.1 hi).1 hi).2;have:∀(l:List Int) (p:Int),-1<=p->FK.EdgesOk f.KW.length p l->∀x∈l,0<=x/\x<f.KW.length:=by
  intro l
  induction l with
  | nil=>intro _ _ _ x E;cases E
  | cons y l J=>
   intro p T h x E;obtain⟨K,O,h3⟩:=h;rcases List.mem_cons.1 E with rfl|E
   · omega
   · exact J y am h3 x E
 exact this _ _ am I x E
theorem eS (h:FR.Fine M):∀u∈M.runs,u.KV.length<=100:=λu E=>by
 have I:=(h.fit u E).2;have J:=(h.fit u E).1.head.2.2;omega
theorem p9 {nd:FK.Node} (h:FR.Fine M) (hi:M.runs[i]?=some u) (J:u.KV[k]?=some s) (hnd:u.fl.KW[k]?=some nd):dx G 123 [aX e,aw i,aw k] [aV e a ns M,bx ns] λv m=>v=.tuple #[]/\∃g c,m=[aV e (a.q g c) ns (M.fails i k u s nd),bx ns]:=by
 have K:=bY hi;obtain⟨E,T⟩:=h.fit u K;have ho:=(E.KW k nd (gfGet.1 hnd).1 hnd).1;obtain⟨h1,h2,h3,h4,Y,h6,h7⟩:=ho;have O:=Y;have hc:=h6;have I:=h7;unfold FK.span at O hc I;have mt:=h.KU u K s (bY J);exact yM hi J hnd T (wa E) E.head.2.2 O.1 hc.1 hc.2 I.1 I.2 ⟨am,am⟩ h.seed h.time (by have:=h.timers;omega) (by have:=h.ends;omega) (by have:=h.KX;omega)
theorem sY (h:FR.Ticks i n M M') (E:∀b,M.first=some b->i<b.due):M'={M with time:=i}:=by
 cases h with
 | done _ _=>rfl
 | step _ I J _ _ _=>have:=E _ I;omega
theorem Au {b:FR.Ac} (h:FR.Ticks i n M M') (I:M.first=some b) (J:¬i<b.due):∃m,n=m+1/\b.due<=i/\M.time<=b.due/\FR.Ticks i m ({M with time:=b.due}.due b) M':=by
 cases h with
 | done _ h=>exact absurd (h b I) J
 | step _ E K h3 _ O=>
  rw[I] at E;injection E with E;subst E;exact⟨_,rfl,K,h3,O⟩
theorem Av (h:FR.Ticks i n M M'):FR.Fine M:=by
 cases h with
 | done h _=>exact h
 | step h _ _ _ _ _=>exact h
theorem AY (ticks:Nat) (hn:ticks<18446744073709551616) (ht:M.time<=4611686018427387904) (hT:FR.Ticks (min (M.time+ticks) 4611686018427387904) n M M'):dx G 72 [aX e,aQ ticks] [aV e a ns M,bx ns] λv m=>v=.tuple #[]/\∃g c,m=[aV e (a.q g c) ns M',bx ns]:=by
 obtain⟨up,Y⟩:∃up,up=min (M.time+ticks) 4611686018427387904:=⟨_,rfl⟩;rw[<-Y] at hT;refine bA Tryz.func72 Z λE fr hE=>aD<|sS<|cG 0 Z Z<|bF (au (v:=aQ M.time) Z) (cg Z)<|ch Z (bc (r:=(((M.time+ticks)%18446744073709551616:Nat):Int)) Z Z (by rw[km];omega))<|sB Z ?_
 refine sQ<|cw (X:=Unit) (λ_=>[(4,aQ up),(0,aX e)]) (λ_=>aV e a ns M::bx ns::fr) (λ_=>True) ?_ ?_
 ·
  refine sQ ?_
  by_cases hw:(M.time+ticks)%18446744073709551616<M.time
  ·
   refine sG<|sM Z<|cG 0 Z Z<|bF (au (v:=aQ M.time) Z) (cg Z)<|sP (ie Z Z am)<|sM Z<|bg Z<|bg Z<|sP (aF Z Z Z)<|sN<|aM Z<|sG<|sA Z<|ao ?_
   have e1:up=4611686018427387904:=by rw[Y];omega
   exact aW () trivial (by rw[e1];exact bV) aT
  ·
   by_cases hm:4611686018427387904<(M.time+ticks)%18446744073709551616
   ·
    refine sG<|sM Z<|cG 0 Z Z<|bF (au (v:=aQ M.time) Z) (cg Z)<|sP (cS Z Z am)<|sM Z<|db Z<|ci (ig Z Z am)<|sP (aF Z Z Z)<|sN<|aM Z<|sG<|sA Z<|ao ?_
    have e1:up=4611686018427387904:=by rw[Y];omega
    exact aW () trivial (by rw[e1];exact bV) aT
   ·
    refine sG<|sM Z<|cG 0 Z Z<|bF (au (v:=aQ M.time) Z) (cg Z)<|sP (cS Z Z am)<|sM Z<|db Z<|ci (lF Z Z am)<|sP (aF Z Z Z)<|sN<|aj Z<|ae ?_
    have e1:up=(M.time+ticks)%18446744073709551616:=by rw[Y];omega
    exact aW () trivial (by rw[e1];exact bV) aT
 intro _ _;refine sQ<|cw (X:=Option Nat×Nat×FR.En) (λ_=>[(4,aQ up),(0,aX e)]) (λx=>aV e (a.q x.1 x.2.1) ns x.2.2::bx ns::fr) (λx=>M'={x.2.2 with time:=up}) ?_ ?_
 ·
  refine ag ?_;refine aO (X:=Option Nat×Nat×FR.En×Nat) (λ_=>[(4,aQ up),(0,aX e)]) (λx=>aV e (a.q x.1 x.2.1) ns x.2.2.1::bx ns::fr) (λx=>FR.Ticks up x.2.2.2 x.2.2.1 M') (λx=>x.2.2.2) (a.qg,a.qc,M,n) hT bV aT ?_;rintro⟨g,c,J,n1⟩ O;replace O:FR.Ticks up n1 J M':=O;have hF:=Av O;refine ag<|bq Z ?_
  refine bW Z (yL hF.runs (eS hF)) aT ?_;refine aa<|sM Z<|bT Z Z<|bT Z Z<|bT Z Z<|bT Z Z<|bT Z Z<|sA Z<|sA Z<|sA Z<|sA Z<|sB Z<|sQ<|sQ ?_
  by_cases hO:J.first=none
  ·
   rw[hO];refine sG<|ch Z (bz (r:=true) Z Z Z)<|sM Z<|bg Z<|bg Z<|bg Z<|sP (aF Z Z Z)<|sN<|aM Z<|aL<|aA<|dU Z<|az<|ap ?_
   exact aW (g,c,J) (sY O λb h=>by rw[hO] at h;cases h) bV aT
  ·
   obtain⟨b,hb⟩:∃b,J.first=some b:=Option.ne_none_iff_exists'.1 hO
   rw[hb]
   by_cases hu:up<b.due
   ·
    refine sG<|ch Z (cS Z Z (by show ¬((b.run:Nat):Int)<0;omega))<|sM Z<|db Z<|db Z<|ci (ig Z Z (by show(up:Int)<(b.due:Int);omega))<|sP (aF Z Z Z)<|sN<|aM Z<|aL<|aA<|dU Z<|az<|ap ?_
    exact aW (g,c,J) (sY O λb' h=>by rw[hb] at h;injection h with h;rw[<-h];exact hu) bV aT
   ·
    obtain⟨m,rfl,K9,Ld,mt⟩:=Au O hb hu;obtain⟨u,hi,Lb⟩:=FR.GR hb;refine sG<|ch Z (cS Z Z (by show ¬((b.run:Nat):Int)<0;omega))<|sM Z<|db Z<|db Z<|ci (lF Z Z (by show ¬(up:Int)<(b.due:Int);omega))<|sP (aF Z Z Z)<|sN<|aj Z<|ae<|sT ?_
    refine sQ<|cw (X:=Unit) (λ_=>[(6,aw b.node),(5,aw (b.run:Int)),(4,aQ up),(0,aX e)]) (λ_=>aV e (a.q g c) ns {J with time:=b.due}::bx ns::fr) (λ_=>True) ?_ ?_
    ·
     refine bq Z<|cG 0 Z Z<|bF (au (v:=aQ J.time) Z) (cg Z)<|sP (dY Z Z Z)<|sN ?_
     refine aB Z (λK6=>?_) λK6=>?_
     ·
      refine sG<|sM Z<|cG 0 Z Z ?_
      refine sO<|rH (a:=a.q g c) (M:=J) (M':={J with time:=b.due}) Z Z Z am Z Z Z Z ?_
      exact ao<|aW () trivial bV aT
     ·
      refine ae ?_;have e1:J.time=b.due:=by have h:¬(J.time:Int)<(b.due:Int):=K6;omega
      exact aW () trivial bV (by rw[<-e1];exact aT)
    intro _ _;obtain⟨K,In⟩:∃K:FR.En,K={J with time:=b.due}:=⟨_,rfl⟩;rw[<-In] at mt ⊢;have I:K.runs[b.run]?=some u:=by rw[In];exact hi
    have K7:up<=4611686018427387904:=by rw[Y];omega
    have T:FR.Fine K:=by rw[In];exact⟨hF.runs,hF.fit,hF.KU,hF.KX,hF.seed,Nat.le_trans K9 K7,hF.timers,hF.ends⟩
    have Lc:=eS T u (bY I);refine ag<|bq Z<|sP (bz Z Z Z)<|sB Z ?_
    refine aB Z (λBT=>?_) λBT=>?_
    ·
     have K4:b.node<0:=BT;refine sG<|sM Z<|sM Z ?_
     refine bU Z (nl 5 I (by have:=T.ends;omega) Lc (by have:=T.KX;omega)) aT ?_;rintro v m ⟨rfl,g1,c1,rfl⟩;refine aa<|ao<|al<|al ?_
     have e1:K.due b=K.endr b.run u 5:=by unfold FR.En.due;rw[I];exact if_pos K4
     exact aE (g1,c1,K.due b,m) mt (Nat.lt_succ_self _) bV (by rw[e1];exact aT)
    ·
     have K4:¬b.node<0:=BT;obtain⟨s,hs⟩:=Lb.resolve_left K4;obtain⟨k,hk⟩:∃k:Nat,b.node=(k:Int):=⟨b.node.toNat,am⟩;rw[hk,Int.toNat_natCast] at hs;have K8:=(gfGet.1 hs).1;obtain⟨nd,hnd⟩:∃nd,u.fl.KW[k]?=some nd:=⟨u.fl.KW[k]'(by rw[<-(T.fit u (bY I)).2];exact K8),by simp⟩;have wf:K.due b=if s.state=4 then K.ready b.run k u s else K.fails b.run k u s nd:=by
      unfold FR.En.due;rw[I];simp only[hk,Int.toNat_natCast,hs,hnd];exact if_neg am
     rw[hk];refine bt (p:=∃g,a.rg=some g) (λw hw=>gY (a:=a.q g c) I hw) λ⟨gr,hg⟩=>?_;refine sS<|cG 2 Z Z<|bF (au (v:=dp gr K.runs.length a.rc) Z) (dF (a:=a.q g c) hg)<|sM Z ?_
     refine sP (aS (z:=8) Z Z Z Z ((gfGet.1 I).1)) ?_;refine bn 6 Z<|bF (au (v:=jg (a.ra u.id) u) Z) (cE (a:=a.q g c) (j:=6) I hg Z)<|ch Z (aS (z:=7) Z Z Z Z K8)<|bn 0 Z<|bF (au (v:=aw s.state) Z) (dH (a:=a.q g c) (j:=0) I Z hs Z)<|sP (aY Z Z Z)<|sB Z ?_
     refine aB Z (λFd=>?_) λFd=>?_
     ·
      have K5:s.state=4:=Fd;refine sG<|sM Z<|sM Z<|sM Z ?_
      refine bU Z (pY I hs (by have:=T.KX;omega)) aT ?_;rintro v m ⟨rfl,g1,c1,rfl⟩;refine aa<|ao<|al<|al ?_
      exact aE (g1,c1,K.due b,m) mt (Nat.lt_succ_self _) bV (by rw[wf,if_pos K5];exact aT)
     ·
      have K5:¬s.state=4:=Fd;refine sG<|sM Z<|sM Z<|sM Z ?_
      refine bU Z (p9 T I hs hnd) aT ?_;rintro v m ⟨rfl,g1,c1,rfl⟩;refine aD<|ao<|al<|al ?_
      exact aE (g1,c1,K.due b,m) mt (Nat.lt_succ_self _) bV (by rw[wf,if_neg K5];exact aT)
 rintro⟨g,c,J⟩ K3;replace K3:M'={J with time:=up}:=K3;refine sG<|sM Z<|cG 0 Z Z ?_
 refine sO<|rH (a:=a.q g c) (M:=J) (M':={J with time:=up}) Z Z Z am Z Z Z Z ?_
 refine ao ?_;exact bD [aV e (a.q g c) ns M',bx ns] rfl ⟨rfl,g,c,rfl⟩ (by rw[K3];exact aT)
end
end Go.Y
namespace FR
def En.tryOf (M:En) (p:Nat×Int):Int:=match M.getR p.1 with
 | some u=>match u.KV[p.2.toNat]? with
  | some s=>s.KU+1
  | none=>0
 | none=>0
end FR
namespace Go.Y
open Go.Proofs
open Go Go.RowKit Go.SL
theorem wA {R:FR.Rn} (h:M.runs.length<=100) (hnd:(M.runs.map (·.id)).Nodup) (hi:M.runs[i]?=some R) (hn:R.KV.length<=100):dx G 73 [aX e,aQ R.id] [aV e a ns M] λv m=>∃K I,v=.tuple #[.agg (cm R.id R.state K I).toArray,aw 0]/\m=[aV e a ns M,bG K (R.KV.map (·.state)),bG I (R.KV.map (·.KU))]:=by
 have In:=(gfGet.1 hi).1;refine bA Tryz.func73 Z λE fr hE=>aa ?_;refine bt (p:=∃g,a.rg=some g) (λw hw=>gY hi hw) λ⟨gr,hg⟩=>?_;refine sS<|sO (cH (z:=.agg #[.int .u64 0,aw 0,cx,cx]) Z λb4=>(sB Z (sS (sM Z (sM Z ?_)))))
 refine bW Z (rJ h hnd hi) gfE1 ?_;refine aa<|sB Z<|sQ<|bq Z<|sP (cS Z Z am)<|sN<|aj Z<|ae<|sT<|sS<|cG 2 Z Z<|bF (au (v:=dp gr M.runs.length a.rc) Z) (dF hg) ?_
 refine ch Z (aS (z:=8) Z Z Z Z In)<|bF (bO (vs:=gT (a.ra R.id) R) Z) (kX hi hg)<|sO (cH (z:=.agg #[.int .u64 0,aw 0,cx,aw 0,.int .u64 0,aw 0,cx,aw 0]) Z λb7=>?_)
 refine sO<|bh (vs:=gT (a.ra R.id) R) Z (m:=8) Z Z Z Z er (by show 0+8<=8;omega) ?_
 refine aG b7 (gT (a.ra R.id) R).toArray Z<|sN<|bq Z<|bn 3 Z<|bF (au (v:=aw R.state) Z) (ah Z)<|sP (bI (cs:=(cm R.id R.state cx cx).toArray) Z Z Z Z Z)<|sO (cH (z:=.agg #[.int .u64 0,aw 0,cx,cx]) Z λb8=>?_)
 refine sO<|bh (vs:=cm R.id R.state cx cx) Z (m:=4) Z Z Z Z er (by show 0+4<=4;omega) ?_
 refine aG b8 (cm R.id R.state cx cx).toArray Z<|sN<|sQ<|sS<|sB Z<|ag ?_
 refine aO (X:=Nat×Value×Value) (λx=>[(9,aw x.1),(8,aX b8),(7,aX b7),(4,aX b4),(0,aX e)]) (λx=>blk b8 62 (cm R.id R.state x.2.1 x.2.2).toArray::row 3 1 x.2.1 x.1 (eu ((R.KV.take x.1).map (·.state)))::row 3 1 x.2.2 x.1 (eu ((R.KV.take x.1).map (·.KU)))::blk b7 150 (gT (a.ra R.id) R).toArray::aV e a ns M::blk b4 62 (cm 0 0 cx cx).toArray::fr) (λx=>x.1<=R.KV.length) (λx=>R.KV.length-x.1) (0,cx,cx) (Nat.zero_le _) bV (Ent.cons (Ent.row0.trans (Ent.cons Ent.row0))) ?_;rintro⟨k,K,I⟩ hk;replace hk:k<=R.KV.length:=hk;refine aq (l':=blk b8 62 (cm R.id R.state K I).toArray::row 3 1 K k (eu ((R.KV.take k).map (·.state)))::row 3 1 I k (eu ((R.KV.take k).map (·.KU)))::blk b7 150 (gT (a.ra R.id) R).toArray::aV e a ns M::blk b4 62 (cm 0 0 cx cx).toArray::fr) aT ?_;refine sQ<|bq Z<|bn 6 Z<|bF (au (v:=jg (a.ra R.id) R) Z) (ah Z)<|sP (bp Z Z)<|sP (bz Z Z Z)<|sN ?_
 refine aB Z (λO=>?_) λO=>?_
 ·
  have J:k<R.KV.length:=by have:(k:Int)<(R.KV.length:Int):=O;omega
  obtain⟨s,hs⟩:∃s,R.KV[k]?=some s:=⟨R.KV[k],by simp[J]⟩;have K3:eu ((R.KV.take k).map (·.state))++[aw s.state]=eu ((R.KV.take (k+1)).map (·.state)):=by rw[List.take_add_one,hs];simp[eu]
  have K4:eu ((R.KV.take k).map (·.KU))++[aw s.KU]=eu ((R.KV.take (k+1)).map (·.KU)):=by rw[List.take_add_one,hs];simp[eu]
  refine ae<|sT<|sQ<|ag<|sQ<|sZ Z<|dj 0 Z (bl 2 Z)<|bQ Z (au (v:=K) Z) (ah Z)<|bC Z (bl 6 Z)<|bQ Z (au (v:=jg (a.ra R.id) R) Z) (ah Z)<|cv Z Z<|bC Z (aS (z:=7) Z Z Z Z J)<|bC Z (bl 0 Z)<|bQ Z (au (v:=aw s.state) Z) (dH (j:=0) hi Z hs Z)<|vw Z (eI Z Z Z Z Z Z λK8=>(dK [false,true,true] (ai (ah Z) (ai (ah Z) ak)) ?_))
  refine dR 9 rfl rfl (bZ rfl rfl jp rfl am rfl rfl (HasVal.sel (v:=K)) (news:=[aw s.state]) rfl (λh=>by cases h) (eO (λj u h=>by simpa using h)) er (by unfold maxLen;omega) am λBT K6=>?_);refine aK (HasVal.sel (v:=BT)) ?_;rintro T Y rfl - - - - -
  refine dK [true,false] (ai (ah Z) ak)<|dj 10 Z (bl 2 Z) ?_
  refine dA 11 Z<|co Z Z Z Z Z gN ?_
  refine dK [false] ak<|dE<|sT<|aG b8 (cm R.id R.state (.slice T (k+1) Y) I).toArray Z<|sZ Z<|dj 0 Z (bl 3 Z)<|bQ Z (au (v:=I) Z) (ah Z)<|bC Z (bl 6 Z)<|bQ Z (au (v:=jg (a.ra R.id) R) Z) (ah Z)<|cv Z Z<|bC Z (aS (z:=7) Z Z Z Z J)<|bC Z (bl 1 Z)<|bQ Z (au (v:=aw s.KU) Z) (dH (j:=1) hi Z hs Z)<|vw Z (eI Z Z Z Z Z Z λK9=>(dK [false,true,true] (ai (ah Z) (ai (ah Z) ak)) ?_))
  refine dR 9 rfl rfl (bZ rfl rfl jp rfl am rfl rfl (HasVal.sel (v:=I)) (news:=[aw s.KU]) rfl (λh=>by cases h) (eO (λj u h=>by simpa using h)) er (by unfold maxLen;omega) am λFd K7=>?_);refine aK (HasVal.sel (v:=Fd)) ?_;rintro mt wf rfl - - - - -
  refine dK [true,false] (ai (ah Z) ak)<|dj 10 Z (bl 3 Z) ?_
  refine dA 11 Z<|co Z Z Z Z Z gN ?_
  refine dK [false] ak<|dE<|al<|sT<|aG b8 (cm R.id R.state (.slice T (k+1) Y) (.slice mt (k+1) wf)).toArray Z<|sG<|ch Z (bc (r:=((k+1:Nat):Int)) Z Z dP)<|sA Z<|ao ?_
  exact aE (k+1,.slice T (k+1) Y,.slice mt (k+1) wf) J (by show R.KV.length-(k+1)<R.KV.length-k;omega) bV (by rw[K3,K4];exact aJ)
 ·
  have K5:k=R.KV.length:=by have:¬(k:Int)<(R.KV.length:Int):=O;omega
  refine aL<|aA<|az<|ap<|sT<|sQ<|aK (HasVal.sel (v:=K)) ?_
  rintro A2 c2 rfl - - - - -
  refine aK (HasVal.sel (v:=I)) ?_;rintro A3 c3 rfl - - - - -
  refine sG<|bF (bO (vs:=cm R.id R.state (.slice A2 k c2) (.slice A3 k c3)) Z) (bm Z) ?_
  refine sO<|bh (vs:=cm R.id R.state (.slice A2 k c2) (.slice A3 k c3)) Z (m:=4) Z Z Z Z er (by show 0+4<=4;omega) ?_
  refine sB Z<|an ?_
  refine dr [aV e a ns M,bG (.slice A2 k c2) (R.KV.map (·.state)),bG (.slice A3 k c3) (R.KV.map (·.KU))] rfl (bM (vs:=cm R.id R.state (.slice A2 k c2) (.slice A3 k c3)) Z Z Z Z (bm Z)) (bL Z) ⟨_,_,rfl,rfl⟩ ?_;rw[List.take_of_length_le am];show Ent _ (aV e a ns M::row 3 1 _ (R.KV.map (·.state)).length _::row 3 1 _ (R.KV.map (·.KU)).length _::fr);rw[List.length_map,List.length_map,<-K5];exact aJ
theorem wz (h:M.runs.length<=100) (hnd:(M.runs.map (·.id)).Nodup) (K5:∀p∈M.KX,∃(i k:Nat) (u:FR.Rn) (s:FR.St),M.runs[i]?=some u/\u.id=p.1/\p.2=(k:Int)/\u.KV[k]?=some s/\0<=s.KU/\s.KU<9223372036854775807) (hq:M.KX.length<=1000):dx G 77 [aX e] [aV e a ns M] λv m=>m=[aV e a ns M,row 55 4 v M.KX.length (M.KX.flatMap λp=>cd p.1 p.2 (M.tryOf p) 0)]:=by
 obtain⟨ql,Y⟩:∃ql:List (Nat×Int)->List Value,ql=λl=>l.flatMap λp=>cd p.1 p.2 (M.tryOf p) 0:=⟨_,rfl⟩;refine bA Tryz.func77 Z λE fr hE=>aa<|sS<|sB Z<|sS<|sB Z<|sQ<|sS<|sB Z<|ag ?_
 refine aO (X:=Nat×Value) (λx=>[(4,aw x.1),(3,x.2),(0,aX e)]) (λx=>row 55 4 x.2 x.1 (ql (M.KX.take x.1))::aV e a ns M::fr) (λx=>x.1<=M.KX.length) (λx=>M.KX.length-x.1) (0,cx) (Nat.zero_le _) bV (by rw[Y];exact Ent.row0) ?_;rintro⟨k,v3⟩ hk;replace hk:k<=M.KX.length:=hk;refine aq (l':=row 55 4 v3 k (ql (M.KX.take k))::aV e a ns M::fr) aT ?_;refine sQ<|bq Z<|cG 3 Z Z<|bF (au (v:=kS a M) Z) (cg Z)<|sP (bp Z Z)<|sP (bz Z Z Z)<|sN ?_
 refine aB Z (λO=>?_) λO=>?_
 ·
  have I:k<M.KX.length:=by have:(k:Int)<(M.KX.length:Int):=O;omega
  obtain⟨p,hp⟩:∃p,M.KX[k]?=some p:=⟨M.KX[k],by simp[I]⟩;obtain⟨i,j,u,s,hi,BT,hj,K,K8,hs1⟩:=K5 p (bY hp);have Fd:=(gfGet.1 hi).1;have In:=(gfGet.1 K).1;obtain⟨K9,pn⟩:=p;simp only at BT hj;subst BT;subst hj;have K3:M.tryOf (u.id,(j:Int))=s.KU+1:=by
   unfold FR.En.tryOf;rw[FR.jY hnd hi];simp only[Int.toNat_natCast,K]
  have K4:ql (M.KX.take k)++cd u.id (j:Int) (s.KU+1) 0=ql (M.KX.take (k+1)):=by
   rw[Y,List.take_add_one,hp];simp only[List.flatMap_append,<-K3]
   rfl
  refine bt (p:=∃g,a.qg=some g) (λw hw=>Ci hp hw) λ⟨gq,mt⟩=>?_;refine bt (p:=∃g,a.rg=some g) (λw hw=>gY hi hw) λ⟨gr,J⟩=>?_;refine ae<|sT<|sQ<|ag<|sS<|cG 3 Z Z<|bF (au (v:=dp gq M.KX.length a.qc) Z) (um mt)<|ch Z (aS (z:=2) Z Z Z Z I)<|bF (bO (vs:=iN (u.id,(j:Int))) Z) (HU hp mt)<|sO (cH (z:=.agg #[.int .u64 0,aw 0]) Z λb5=>?_)
  refine sO<|bh (vs:=iN (u.id,(j:Int))) Z (m:=2) Z Z Z Z er (by show 0+2<=2;omega) ?_
  refine aG b5 (iN (u.id,(j:Int))).toArray Z<|sN<|sQ<|sZ Z<|dT Z Z<|dt 2 Z Z Z<|bQ Z (au (v:=dp gr M.runs.length a.rc) Z) (dF J)<|cv Z Z<|bC Z (bl 0 Z)<|bQ Z (au (v:=aQ u.id) Z) (ah Z) ?_
  refine io 7 10 Z Z Z Z eA (ed Z (rJ h hnd hi) gfE2 ?_) (cH (z:=.agg #[.int .u64 0,aw 0,cx,aw 0,.int .u64 0,aw 0,cx,aw 0]) Z λb6=>?_)
  ·
   rintro v m ⟨rfl,rfl⟩;refine aa<|dK [false,true] (ai (dF J) ak)<|dj 8 Z (aS (z:=8) Z Z Z Z Fd)<|bQ Z (bO (vs:=gT (a.ra u.id) u) Z) (kX hi J)<|vw Z (cH (z:=.agg #[.int .u64 0,aw 0,cx,aw 0,.int .u64 0,aw 0,cx,aw 0]) Z λb6=>(dK [true,true] (ai (kX hi J) (ai (dF J) ak)) ?_))
   refine dA 11 Z<|bh (vs:=gT (a.ra u.id) u) Z (m:=8) Z Z Z Z er (by show 0+8<=8;omega) ?_
   refine aG b6 (gT (a.ra u.id) u).toArray Z<|dK [false,false] ak<|dE<|sT<|sZ Z<|dT Z Z<|bC Z (bl 0 Z)<|bQ Z (au (v:=aQ u.id) Z) (ah Z)<|bC Z (bl 1 Z)<|bQ Z (au (v:=aw (j:Int)) Z) (ah Z)<|bC Z (bl 6 Z)<|bQ Z (au (v:=jg (a.ra u.id) u) Z) (ah Z)<|bC Z (bl 1 Z)<|bQ Z (au (v:=aw (j:Int)) Z) (ah Z)<|bC Z (aS (z:=7) Z Z Z Z In)<|bC Z (bl 1 Z)<|bQ Z (au (v:=aw s.KU) Z) (dH (j:=1) hi Z K Z)<|bC Z (bc (r:=s.KU+1) Z Z (by rw[jf am]))<|bC Z (bI (cs:=(cd u.id j (s.KU+1) 0).toArray) Z Z Z Z Z) ?_
   refine dA 14 Z (dh (m:=1) (z:=fR 0 0 0 0) (size:=4) (ps:=[(0,.tmp 46)]) (vs:=[fR u.id j (s.KU+1) 0]) (cs:=(cd u.id j (s.KU+1) 0).toArray) Z Z Z Z am am Z (pF _ _ _ _) λK6=>?_);refine dK [true,true,true,true,true] (ai (dH (j:=1) hi Z K Z) (ai (ah Z) (ai (ah Z) (ai (ah Z) (ai (ah Z) ak))))) ?_;refine dR 15 rfl rfl (bZ rfl rfl sf rfl am rfl rfl (HasVal.sel (v:=v3)) (news:=cd u.id j (s.KU+1) 0) rfl (λh=>by cases h) (eO (λj u h=>by simpa using h)) er (by unfold maxLen;omega) am λT wf=>?_);refine dK [true,true,true,true,true] (ai (dH (j:=1) hi Z K Z) (ai (ah Z) (ai (ah Z) (ai (ah Z) (ai (ah Z) ak)))))<|dj 16 Z (aU Z)<|dE<|al<|sT<|sG<|ch Z (bc (r:=((k+1:Nat):Int)) Z Z dP)<|sA Z<|ao ?_
   exact aE (k+1,T) I (by show M.KX.length-(k+1)<M.KX.length-k;omega) bV (by rw[K4];exact aJ)
  ·
   refine dK [true,true] (ai (ah Z) (ai (dF J) ak)) ?_;refine dA 7 Z<|ed Z (rJ h hnd hi) gfE3 ?_
   rintro v m ⟨rfl,rfl⟩;refine aa<|dK [false,true] (ai (dF J) ak)<|dj 8 Z (aS (z:=8) Z Z Z Z Fd)<|bQ Z (bO (vs:=gT (a.ra u.id) u) Z) (kX hi J) ?_
   refine dA 11 Z<|bh (vs:=gT (a.ra u.id) u) Z (m:=8) Z Z Z Z er (by show 0+8<=8;omega) ?_
   refine aG b6 (gT (a.ra u.id) u).toArray Z<|dK [false,false] ak<|dE<|sT<|sZ Z<|dT Z Z<|bC Z (bl 0 Z)<|bQ Z (au (v:=aQ u.id) Z) (ah Z)<|bC Z (bl 1 Z)<|bQ Z (au (v:=aw (j:Int)) Z) (ah Z)<|bC Z (bl 6 Z)<|bQ Z (au (v:=jg (a.ra u.id) u) Z) (ah Z)<|bC Z (bl 1 Z)<|bQ Z (au (v:=aw (j:Int)) Z) (ah Z)<|bC Z (aS (z:=7) Z Z Z Z In)<|bC Z (bl 1 Z)<|bQ Z (au (v:=aw s.KU) Z) (dH (j:=1) hi Z K Z)<|bC Z (bc (r:=s.KU+1) Z Z (by rw[jf am]))<|bC Z (bI (cs:=(cd u.id j (s.KU+1) 0).toArray) Z Z Z Z Z) ?_
   refine dA 14 Z (dh (m:=1) (z:=fR 0 0 0 0) (size:=4) (ps:=[(0,.tmp 46)]) (vs:=[fR u.id j (s.KU+1) 0]) (cs:=(cd u.id j (s.KU+1) 0).toArray) Z Z Z Z am am Z (pF _ _ _ _) λK6=>?_);refine dK [true,true,true,true,true] (ai (dH (j:=1) hi Z K Z) (ai (ah Z) (ai (ah Z) (ai (ah Z) (ai (ah Z) ak))))) ?_;refine dR 15 rfl rfl (bZ rfl rfl sf rfl am rfl rfl (HasVal.sel (v:=v3)) (news:=cd u.id j (s.KU+1) 0) rfl (λh=>by cases h) (eO (λj u h=>by simpa using h)) er (by unfold maxLen;omega) am λT wf=>?_);refine dK [true,true,true,true,true] (ai (dH (j:=1) hi Z K Z) (ai (ah Z) (ai (ah Z) (ai (ah Z) (ai (ah Z) ak)))))<|dj 16 Z (aU Z)<|dE<|al<|sT<|sG<|ch Z (bc (r:=((k+1:Nat):Int)) Z Z dP)<|sA Z<|ao ?_
   exact aE (k+1,T) I (by show M.KX.length-(k+1)<M.KX.length-k;omega) bV (by rw[K4];exact aJ)
 ·
  have K7:k=M.KX.length:=by have:¬(k:Int)<(M.KX.length:Int):=O;omega
  rw[K7,List.take_length,Y];refine aL<|aA<|az<|ap<|sT<|bq Z<|sB Z<|an ?_
  exact ar [aV e a ns M,row 55 4 v3 M.KX.length (M.KX.flatMap λp=>cd p.1 p.2 (M.tryOf p) 0)] rfl Z Z aJ
end Go.Y
namespace FR
section
variable {α β:Type}
theorem vV {f:α->β} {a b:List α} (h:a.length=b.length) (hk:∀i,i<k->(a[i]?).map f=(b[i]?).map f) (I:a.length<=k):a.map f=b.map f:=by
 apply List.ext_getElem?;intro i;rw[List.getElem?_map,List.getElem?_map];rcases Nat.lt_or_ge i k with E|E
 · exact hk i E
 · rw[List.getElem?_eq_none am,List.getElem?_eq_none am]
theorem vU {f:α->β} {a b:List α} {x y:α} (I:a[k]?=some x) (J:b[k]?=some y) (e:f x=f y) (hk:∀i,i<k->(a[i]?).map f=(b[i]?).map f):∀i,i<k+1->(a[i]?).map f=(b[i]?).map f:=λi hi=>by
 rcases Nat.lt_or_ge i k with E|E
 · exact hk i E
 · obtain rfl:i=k:=am
   rw[I,J,Option.map_some,Option.map_some,e]
theorem r5 {f:α->β} {a b:List α} {x y:α} (E:a[k]?=some x) (I:b[k]?=some y) (e:f x≠f y):a.map f≠b.map f:=λh=>by
 have:=congrArg (λl=>l[k]?) h;simp only[List.getElem?_map,E,I,Option.map_some,Option.some.injEq] at this;exact e this
end
abbrev Tmd.key (t:Tmd):Nat×Int×Nat:=(t.run,t.node,t.due)
end FR
namespace Go.Y
open Go.Proofs
open Go Go.RowKit Go.SL
abbrev iu (q:Nat×Int×Int×Nat):List Value:=cd q.1 q.2.1 q.2.2.1 q.2.2.2
section
variable {A B:Option Addr} {c c':Nat}
theorem C5 (x y:Nat×Int×Int×Nat):jP Tryz.prog (iu x).toArray (iu y).toArray (Tryz.prog.fieldsOf 55).toList=some (decide (x=y)):=by
 have:∀(a E:Nat) (b I c c':Int) (t J:Nat),jP Tryz.prog (cd a b c t).toArray (cd E I c' J).toArray (Tryz.prog.fieldsOf 55).toList=some (((a:Int)==E)&&((b==I)&&((c==c')&&(((t:Int)==J)&&true)))):=λ_ _ _ _ _ _ _ _=>rfl;obtain⟨a,b,c,t⟩:=x;obtain⟨E,I,c',J⟩:=y;rw[this]
 congr 1
 rw[Bool.eq_iff_iff];simp[Prod.ext_iff,Int.ofNat_inj]
theorem KK (x y:FR.Tmd):jP Tryz.prog (dB x).toArray (dB y).toArray (Tryz.prog.fieldsOf 99).toList=some (decide (x.key=y.key)):=by
 have:jP Tryz.prog (dB x).toArray (dB y).toArray (Tryz.prog.fieldsOf 99).toList=some (((x.run:Int)==y.run)&&((x.node==y.node)&&(((x.due:Int)==y.due)&&true))):=rfl;rw[this]
 congr 1
 rw[Bool.eq_iff_iff];simp[FR.Tmd.key,Prod.ext_iff,Int.ofNat_inj]
theorem sInts_does {a b:List Int}:dx G 127 [.slice A a.length c,.slice B b.length c'] [bG (.slice A a.length c) a,bG (.slice B b.length c') b] λv m=>∃r,v=.bool r/\(r=true<->a.map _root_.id=b.map _root_.id)/\m=[bG (.slice A a.length c) a,bG (.slice B b.length c') b]:=by
 refine bA Tryz.func127 Z λE fr hE=>aD<|aK .head ?_
 intro A' z' e1 wf BT K6 Fd _;injection e1 with e1 _ e2;subst e1;subst e2;refine aK bJ ?_;intro B' w' e1 In K3 K7 K8 _;injection e1 with e1 _ e2;subst e1;subst e2;have K9:a.length<=9223372036854775807:=by unfold maxLen at Fd;omega
 refine sS<|sB Z<|sQ<|bq Z<|sP (bp Z Z)<|ch Z (bp Z Z)<|sP (dc Z Z Z)<|sN ?_
 refine aB Z (λT=>?_) λT=>?_
 ·
  have K:a.length≠b.length:=λe=>T (by rw[e]);refine sS<|sB Z<|an<|aC ?_
  exact ar [_,_] rfl rfl ⟨false,rfl,⟨λh=>(by cases h),λh=>absurd (by have:=congrArg List.length h;simpa using this) K⟩,rfl⟩ aT
 ·
  have Y:a.length=b.length:=am;refine ae<|sT<|sQ<|sS<|sB Z<|ag ?_
  refine aO (X:=Nat) (λk=>[(5,aw k),(0,.slice A a.length c),(1,.slice B b.length c')]) (λ_=>bG (.slice A a.length c) a::bG (.slice B b.length c') b::fr) (λk=>k<=a.length/\∀i,i<k->(a[i]?).map _root_.id=(b[i]?).map _root_.id) (λk=>a.length-k) 0 ⟨Nat.zero_le _,λi h=>by omega⟩ bV aT ?_;rintro k ⟨hk,J⟩;replace hk:k<=a.length:=hk;refine sQ<|bq Z<|ch Z (bp Z Z)<|sP (bz Z Z Z)<|sN ?_
  refine aB Z (λmt=>?_) λmt=>?_
  ·
   have O:k<a.length:=am;obtain⟨g,rfl⟩:∃g,A=some ⟨g,0,none⟩:=by
    cases A with
    | none=>have:=(wf rfl).1;omega
    | some ad=>obtain⟨g,rfl⟩:=BT ad rfl;exact⟨g,rfl⟩
   obtain⟨g',rfl⟩:∃g,B=some ⟨g,0,none⟩:=by
    cases B with
    | none=>have:=(In rfl).1;omega
    | some ad=>obtain⟨g,rfl⟩:=K3 ad rfl;exact⟨g,rfl⟩
   obtain⟨x,hx⟩:∃x,a[k]?=some x:=⟨a[k],by simp[O]⟩;obtain⟨y,hy⟩:∃y,b[k]?=some y:=⟨b[k]'am,by simp⟩;refine ae<|sT<|sQ<|ag<|sQ<|sZ Z<|dT Z Z<|cv Z Z<|bC Z (aS (z:=1) Z Z Z Z O)<|bQ Z (au (v:=aw x) Z) (il .head (by simp[eu,hx]))<|cv Z Z<|cv Z Z<|bC Z (aS (z:=1) Z Z Z Z am)<|bQ Z (au (v:=aw y) Z) (il bJ (by simp[eu,hy]))<|bC Z (dc Z Z Z)<|dE<|sT ?_
   refine ce Z (λI=>?_) λI=>?_
   ·
    have K:id x≠id y:=λe=>by first|(simp at I;done)|exact absurd e (by simpa using I)
    refine sS<|sB Z<|an<|aH<|aC<|bP<|aH<|aC ?_
    exact ar [_,_] rfl rfl ⟨false,rfl,⟨λh=>(by cases h),λh=>absurd h (FR.r5 hx hy K)⟩,rfl⟩ aT
   ·
    have K4:id x=id y:=by first|exact Decidable.not_not.1 (by simpa only[decide_not,Bool.not_eq_true',Bool.not_eq_false',Bool.not_eq_false,decide_eq_false_iff_not,decide_eq_true_eq] using I)|simpa using I
    refine ae<|al<|sT<|sG<|ch Z (bc (r:=((k+1:Nat):Int)) Z Z dP)<|sA Z<|ao ?_
    exact aE (k+1) ⟨O,FR.vU hx hy K4 J⟩ (by show a.length-(k+1)<a.length-k;omega) bV aT
  ·
   have K5:a.length<=k:=am;refine aL<|aA<|az<|ap<|sT<|sS<|sB Z<|an ?_
   exact ar [_,_] rfl Z ⟨true,rfl,⟨λ_=>FR.vV Y J K5,λ_=>rfl⟩,rfl⟩ aT
theorem yE {a b:List (Nat×Int×Int×Nat)}:dx G 79 [.slice A a.length c,.slice B b.length c'] [row 55 4 (.slice A a.length c) a.length (a.flatMap iu),row 55 4 (.slice B b.length c') b.length (b.flatMap iu)] λv m=>∃r,v=.bool r/\(r=true<->a.map _root_.id=b.map _root_.id)/\m=[row 55 4 (.slice A a.length c) a.length (a.flatMap iu),row 55 4 (.slice B b.length c') b.length (b.flatMap iu)]:=by
 refine bA Tryz.func79 Z λE fr hE=>aD<|aK .head ?_
 intro A' z' e1 wf BT K6 Fd _;injection e1 with e1 _ e2;subst e1;subst e2;refine aK bJ ?_;intro B' w' e1 In K3 K7 K8 _;injection e1 with e1 _ e2;subst e1;subst e2;have K9:a.length<=9223372036854775807:=by unfold maxLen at Fd;omega
 refine sS<|sB Z<|sQ<|bq Z<|sP (bp Z Z)<|ch Z (bp Z Z)<|sP (dc Z Z Z)<|sN ?_
 refine aB Z (λT=>?_) λT=>?_
 ·
  have K:a.length≠b.length:=λe=>T (by rw[e]);refine sS<|sB Z<|an<|aC ?_
  exact ar [_,_] rfl rfl ⟨false,rfl,⟨λh=>(by cases h),λh=>absurd (by have:=congrArg List.length h;simpa using this) K⟩,rfl⟩ aT
 ·
  have Y:a.length=b.length:=am;refine ae<|sT<|sQ<|sS<|sB Z<|ag ?_
  refine aO (X:=Nat) (λk=>[(5,aw k),(0,.slice A a.length c),(1,.slice B b.length c')]) (λ_=>row 55 4 (.slice A a.length c) a.length (a.flatMap iu)::row 55 4 (.slice B b.length c') b.length (b.flatMap iu)::fr) (λk=>k<=a.length/\∀i,i<k->(a[i]?).map _root_.id=(b[i]?).map _root_.id) (λk=>a.length-k) 0 ⟨Nat.zero_le _,λi h=>by omega⟩ bV aT ?_;rintro k ⟨hk,J⟩;replace hk:k<=a.length:=hk;refine sQ<|bq Z<|ch Z (bp Z Z)<|sP (bz Z Z Z)<|sN ?_
  refine aB Z (λmt=>?_) λmt=>?_
  ·
   have O:k<a.length:=am;obtain⟨g,rfl⟩:∃g,A=some ⟨g,0,none⟩:=by
    cases A with
    | none=>have:=(wf rfl).1;omega
    | some ad=>obtain⟨g,rfl⟩:=BT ad rfl;exact⟨g,rfl⟩
   obtain⟨g',rfl⟩:∃g,B=some ⟨g,0,none⟩:=by
    cases B with
    | none=>have:=(In rfl).1;omega
    | some ad=>obtain⟨g,rfl⟩:=K3 ad rfl;exact⟨g,rfl⟩
   obtain⟨x,hx⟩:∃x,a[k]?=some x:=⟨a[k],by simp[O]⟩;obtain⟨y,hy⟩:∃y,b[k]?=some y:=⟨b[k]'am,by simp⟩;refine ae<|sT<|sQ<|ag<|sQ<|sZ Z<|dT Z Z<|cv Z Z<|bC Z (aS (z:=4) Z Z Z Z O) ?_
   refine jh 3 Z (bO (vs:=iu x) Z) (l7 .head (λj u h=>by rw[Nat.zero_add];exact eJ (f:=iu) (k:=4) (λ_=>rfl) j hx h)) ?_;refine dj 4 Z (bd Z)<|cv Z Z<|bC Z (aS (z:=4) Z Z Z Z am) ?_
   refine jh 7 Z (bO (vs:=iu y) Z) (l7 bJ (λj u h=>by rw[Nat.zero_add];exact eJ (f:=iu) (k:=4) (λ_=>rfl) j hy h)) ?_;refine dj 8 Z (oU Z eA eA Z Z (C5 x y) Z)<|dE<|sT ?_
   refine ce Z (λI=>?_) λI=>?_
   ·
    have K:id x≠id y:=λe=>by first|(simp at I;done)|exact absurd e (by simpa using I)
    refine sS<|sB Z<|an<|aH<|aC<|bP<|aH<|aC ?_
    exact ar [_,_] rfl rfl ⟨false,rfl,⟨λh=>(by cases h),λh=>absurd h (FR.r5 hx hy K)⟩,rfl⟩ aT
   ·
    have K4:id x=id y:=by first|exact Decidable.not_not.1 (by simpa only[decide_not,Bool.not_eq_true',Bool.not_eq_false',Bool.not_eq_false,decide_eq_false_iff_not,decide_eq_true_eq] using I)|simpa using I
    refine ae<|al<|sT<|sG<|ch Z (bc (r:=((k+1:Nat):Int)) Z Z dP)<|sA Z<|ao ?_
    exact aE (k+1) ⟨O,FR.vU hx hy K4 J⟩ (by show a.length-(k+1)<a.length-k;omega) bV aT
  ·
   have K5:a.length<=k:=am;refine aL<|aA<|az<|ap<|sT<|sS<|sB Z<|an ?_
   exact ar [_,_] rfl Z ⟨true,rfl,⟨λ_=>FR.vV Y J K5,λ_=>rfl⟩,rfl⟩ aT
theorem AS {a b:List FR.Tmd}:dx G 78 [.slice A a.length c,.slice B b.length c'] [row 99 3 (.slice A a.length c) a.length (a.flatMap dB),row 99 3 (.slice B b.length c') b.length (b.flatMap dB)] λv m=>∃r,v=.bool r/\(r=true<->a.map FR.Tmd.key=b.map FR.Tmd.key)/\m=[row 99 3 (.slice A a.length c) a.length (a.flatMap dB),row 99 3 (.slice B b.length c') b.length (b.flatMap dB)]:=by
 refine bA Tryz.func78 Z λE fr hE=>aD<|aK .head ?_
 intro A' z' e1 wf BT K6 Fd _;injection e1 with e1 _ e2;subst e1;subst e2;refine aK bJ ?_;intro B' w' e1 In K3 K7 K8 _;injection e1 with e1 _ e2;subst e1;subst e2;have K9:a.length<=9223372036854775807:=by unfold maxLen at Fd;omega
 refine sS<|sB Z<|sQ<|bq Z<|sP (bp Z Z)<|ch Z (bp Z Z)<|sP (dc Z Z Z)<|sN ?_
 refine aB Z (λT=>?_) λT=>?_
 ·
  have K:a.length≠b.length:=λe=>T (by rw[e]);refine sS<|sB Z<|an<|aC ?_
  exact ar [_,_] rfl rfl ⟨false,rfl,⟨λh=>(by cases h),λh=>absurd (by have:=congrArg List.length h;simpa using this) K⟩,rfl⟩ aT
 ·
  have Y:a.length=b.length:=am;refine ae<|sT<|sQ<|sS<|sB Z<|ag ?_
  refine aO (X:=Nat) (λk=>[(5,aw k),(0,.slice A a.length c),(1,.slice B b.length c')]) (λ_=>row 99 3 (.slice A a.length c) a.length (a.flatMap dB)::row 99 3 (.slice B b.length c') b.length (b.flatMap dB)::fr) (λk=>k<=a.length/\∀i,i<k->(a[i]?).map FR.Tmd.key=(b[i]?).map FR.Tmd.key) (λk=>a.length-k) 0 ⟨Nat.zero_le _,λi h=>by omega⟩ bV aT ?_;rintro k ⟨hk,J⟩;replace hk:k<=a.length:=hk;refine sQ<|bq Z<|ch Z (bp Z Z)<|sP (bz Z Z Z)<|sN ?_
  refine aB Z (λmt=>?_) λmt=>?_
  ·
   have O:k<a.length:=am;obtain⟨g,rfl⟩:∃g,A=some ⟨g,0,none⟩:=by
    cases A with
    | none=>have:=(wf rfl).1;omega
    | some ad=>obtain⟨g,rfl⟩:=BT ad rfl;exact⟨g,rfl⟩
   obtain⟨g',rfl⟩:∃g,B=some ⟨g,0,none⟩:=by
    cases B with
    | none=>have:=(In rfl).1;omega
    | some ad=>obtain⟨g,rfl⟩:=K3 ad rfl;exact⟨g,rfl⟩
   obtain⟨x,hx⟩:∃x,a[k]?=some x:=⟨a[k],by simp[O]⟩;obtain⟨y,hy⟩:∃y,b[k]?=some y:=⟨b[k]'am,by simp⟩;refine ae<|sT<|sQ<|ag<|sQ<|sZ Z<|dT Z Z<|cv Z Z<|bC Z (aS (z:=3) Z Z Z Z O) ?_
   refine jh 3 Z (bO (vs:=dB x) Z) (l7 .head (λj u h=>by rw[Nat.zero_add];exact eJ (f:=dB) (k:=3) (λ_=>rfl) j hx h)) ?_;refine dj 4 Z (bd Z)<|cv Z Z<|bC Z (aS (z:=3) Z Z Z Z am) ?_
   refine jh 7 Z (bO (vs:=dB y) Z) (l7 bJ (λj u h=>by rw[Nat.zero_add];exact eJ (f:=dB) (k:=3) (λ_=>rfl) j hy h)) ?_;refine dj 8 Z (oU Z eA eA Z Z (KK x y) Z)<|dE<|sT ?_
   refine ce Z (λI=>?_) λI=>?_
   ·
    have K:FR.Tmd.key x≠FR.Tmd.key y:=λe=>by first|(simp[e] at I;done)|exact absurd e (by simpa using I)
    refine sS<|sB Z<|an<|aH<|aC<|bP<|aH<|aC ?_
    exact ar [_,_] rfl rfl ⟨false,rfl,⟨λh=>(by cases h),λh=>absurd h (FR.r5 hx hy K)⟩,rfl⟩ aT
   ·
    have K4:FR.Tmd.key x=FR.Tmd.key y:=by first|exact Decidable.not_not.1 (by simpa only[decide_not,Bool.not_eq_true',Bool.not_eq_false',Bool.not_eq_false,decide_eq_false_iff_not,decide_eq_true_eq] using I)|simpa using I
    refine ae<|al<|sT<|sG<|ch Z (bc (r:=((k+1:Nat):Int)) Z Z dP)<|sA Z<|ao ?_
    exact aE (k+1) ⟨O,FR.vU hx hy K4 J⟩ (by show a.length-(k+1)<a.length-k;omega) bV aT
  ·
   have K5:a.length<=k:=am;refine aL<|aA<|az<|ap<|sT<|sS<|sB Z<|an ?_
   exact ar [_,_] rfl Z ⟨true,rfl,⟨λ_=>FR.vV Y J K5,λ_=>rfl⟩,rfl⟩ aT
end
theorem Fh {w:Value} {a b:List Int}:dx G 127 [v,w] [bG v a,bG w b] λu m=>∃r,u=.bool r/\(r=true<->a=b)/\m=[bG v a,bG w b]:=by
 intro E W fr K hw;obtain⟨A,c,rfl⟩:∃A c,v=.slice A a.length c:=by
  rcases(hw.row .head).2 with⟨rfl,h⟩|⟨g,cap,I,rfl,_⟩
  · exact⟨none,0,by rw[h]⟩
  · exact⟨_,_,rfl⟩
 obtain⟨B,J,rfl⟩:∃B J,w=.slice B b.length J:=by
  rcases(hw.row bJ).2 with⟨rfl,h⟩|⟨g,cap,I,rfl,_⟩
  · exact⟨none,0,by rw[h]⟩
  · exact⟨_,_,rfl⟩
 refine(sInts_does.mono ?_) E W fr K hw;rintro u m ⟨r,O,T,rfl⟩;exact⟨_,⟨r,O,by simpa using T,rfl⟩,aT⟩
theorem yF {st K:Int} {O T Y w3:Value} {p2 p3 q2 q3:List Int}:dx G 74 [.agg (cm id st O T).toArray,.agg (cm i K Y w3).toArray] [bG O p2,bG T p3,bG Y q2,bG w3 q3] λv m=>∃r,v=.bool r/\(r=true<->id=i/\st=K/\p2=q2/\p3=q3)/\m=[bG O p2,bG T p3,bG Y q2,bG w3 q3]:=by
 refine bA Tryz.func74 Z λE fr hE=>bS<|sS<|sO (cR Z Z λb2=>(sO (cR Z Z λb3=>(sA Z (aG b2 (cm id st O T).toArray Z (aG b3 (cm i K Y w3).toArray Z (sN (sS (bn 2 Z (bF (au (v:=O) Z) (ah Z) (bn 2 Z (bF (au (v:=Y) Z) (ah Z) ?_))))))))))))
 refine bU Z (Fh (a:=p2) (b:=q2)) (bo de gt) ?_;rintro v m ⟨r2,rfl,K5,rfl⟩;refine aD<|sB Z<|sS<|bn 3 Z<|bF (au (v:=T) Z) (ah Z)<|bn 3 Z<|bF (au (v:=w3) Z) (ah Z) ?_
 refine bU Z (Fh (a:=p3) (b:=q3)) (bo kT kT) ?_;rintro v m ⟨r3,rfl,K6,rfl⟩;refine aD<|sB Z<|sS<|bn 0 Z<|aR Z Z Z Z<|bn 0 Z<|aR Z Z Z Z (ck Z (aY Z Z Z) (λ_ _=>trivial) λI mt=>(sM Z ?_))
 refine bN I (by rfl) ?_;refine cB Z Z (λ_=>rfl) (bl 1 Z) (λ_ _=>trivial) ?_;refine bN I (by rfl) ?_;refine cB Z Z (λ_=>rfl) (au Z) (ah Z) ?_;refine bN I (by rfl) ?_;refine cB Z Z (λ_=>rfl) (bl 1 Z) (λ_ _=>trivial) ?_;refine bN I (by rfl) ?_;refine cB Z Z (λ_=>rfl) (au Z) (ah Z) ?_;refine bN I (by rfl) ?_;refine cB Z Z (λ_=>rfl) (aY Z Z Z) (λ_ _=>trivial) ?_;refine ck Z (dJ Z Z Z) (λ_ _=>trivial) λwf BT=>sM Z ?_;refine bN wf (by rfl) ?_;refine cB Z Z (λ_=>rfl) (bd Z) (λ_ _=>trivial) ?_;refine ck Z (dJ Z Z Z) (λ_ _=>trivial) λFd In=>sM Z ?_;refine bN Fd (by rfl) ?_;refine cB Z Z (λ_=>rfl) (bd Z) (λ_ _=>trivial) ?_;refine ck Z (dJ Z Z Z) (λ_ _=>trivial) λK3 K4=>sB Z<|an ?_
 refine ar [bG O p2,bG T p3,bG Y q2,bG w3 q3] rfl Z ⟨K3,rfl,?_,rfl⟩ ?_
 · rw[K4,In,BT,mt]
   simp[K5,K6,and_assoc,Int.ofNat_inj]
 · show Ent _ (_::_::_::_::fr)
   exact aJ
end Go.Y
namespace Go.SL
open Go.RowKit
abbrev wF (ro:Option Nat):Fence:={Fence.wide with round:=ro}
theorem Holds.putO {o:Obj} {r:List HP} (h:Holds E w (SL.ob b o::r)) (o':Obj):Holds E (w.putObj b o') (SL.ob b o'::r):=
 h.set (w':=w.putObj b o') rfl rfl rfl (by simp[World.putObj]) (World.putObj_heap_same (h.ob .head).2) λ_ hk=>World.putObj_heap_other hk
section
variable {ts:List (Nat×Value)} {ops:Array Oper} {rest:List Oper} {ro:Option Nat}
section
variable {ty:TypeId}
theorem opIn {o:Oper} {a:Act} (hd:∀c,o.op≠.defer c) (h:o.wp P a w K Q):o.wpIn (wF ro) m P a w K Q:=by
 refine⟨λ_ _=>trivial,?_⟩;show o.uponIn (wF ro) m P a K Q ((o.semAt ro a.eval).run P w);rw[Oper.semAt_eq _ _ _ hd];unfold Oper.wp at h
 generalize (execOp a.eval o).run P w=r at h ⊢
 match r,h with
 | .ok (.value v) w',h=>exact h
 | .ok .skip w',h=>exact h
 | .ok (.defer d) w',h=>exact h
 | .ok (.enter f args) w',h=>exact⟨λhh=>by simp[Fence.wide] at hh,(callsIn_wide (n:=m-1)).2 h⟩
 | .ok (.row row args) w',h=>exact⟨λhh=>by simp[Fence.wide] at hh,λc cs _=>let⟨v,w1,r,s⟩:=h c cs;⟨v,w1,r,stepsIn_wide.2 s⟩⟩
 | .halt (.panic v) w',h=>exact h
theorem LI.nil (h:At E n D ts l (Q .normal)):At E n D ts l (wpListIn (wF ro) m P ops Q []):=h
theorem LI.op {o:Oper} (hg:o.guard=none) (h:At E n D ts l (λa w=>o.wp P a w (wpListIn (wF ro) m P ops Q rest) Q)) (hd:∀c,o.op≠.defer c:=by intro c h;cases h):At E n D ts l (wpListIn (wF ro) m P ops Q (o::rest)):=λa w f hw=>by
 unfold wpListIn;rw[if_pos (by simp[Region.wanted,hg])];exact opIn hd<|h a w f hw
theorem LI.val {op:Op} {φ:World->Prop} {pos:String} (hi:Nat.blt i n=true) (hev:Ev P ts op v φ) (hφ:∀w,Holds E w l->φ w) (h:At E n D ((i,v)::ts) l (wpListIn (wF ro) m P ops Q rest)) (hd:∀c,op≠.defer c:=by intro c h;cases h) :
 At E n D ts l (wpListIn (wF ro) m P ops Q (⟨some i,op,ty,pos,af,none⟩::rest)):=LI.op rfl (j8 hi hev hφ h) hd
theorem LI.pure {op:Op} {pos:String} (hi:Nat.blt i n=true) (hev:Ev P ts op v Any) (h:At E n D ((i,v)::ts) l (wpListIn (wF ro) m P ops Q rest)) (hd:∀c,op≠.defer c:=by intro c h;cases h) :
 At E n D ts l (wpListIn (wF ro) m P ops Q (⟨some i,op,ty,pos,af,none⟩::rest)):=LI.val hi hev (λ_ _=>trivial) h hd
theorem AI.region {id:Nat} {os:List Oper} (h:At E n D ts l (wpListIn (wF ro) m P os.toArray Q os)):At E n D ts l ((Code.region id os.toArray false).wpIn (wF ro) m P Q):=λa w f hw=>wpIn_region_lit (h a w f hw)
theorem AI.seq {x y:Code} (h:At E n D ts l (x.wpIn (wF ro) m P (Exit.then (y.wpIn (wF ro) m P Q) Q))):At E n D ts l ((Code.seq x y).wpIn (wF ro) m P Q):=λa w f hw=>wpIn_seq (h a w f hw)
theorem AI.skip (h:At E n D ts l (Q .normal)):At E n D ts l (Code.skip.wpIn (wF ro) m P Q):=λa w f hw=>wpIn_skip (h a w f hw)
theorem AI.block {id:Nat} {c:Code} (h:At E n D ts l (c.wpIn (wF ro) m P (Exit.inBlock id Q))):At E n D ts l ((Code.block id c).wpIn (wF ro) m P Q):=λa w f hw=>wpIn_block (h a w f hw)
theorem Hu {c:Operand} {x y:Code} (hc:ev ts c=some (.bool false)) (h:At E n D ts l (y.wpIn (wF ro) m P Q)):At E n D ts l ((Code.cond c x y).wpIn (wF ro) m P Q):=λa w f hw=>wpIn_cond_false (f.eval hc) (h a w f hw)
theorem nM {os:List Oper} (h:At E n D ts l (wpListIn (wF none) 1 P os.toArray Q os)):At E n D ts l ((Code.region id os.toArray false).wp P Q):=λa w f hw=>wpIn_wide.1 (wpIn_region_lit (h a w f hw))
def Yields (P:Program) (lo:Nat) (args:Array Value) (pre post:List HP):Prop:=
 ∀(E:Env) (w:World) (fr:List HP),Holds E w (pre++fr)->YieldAt Fence.wide 0 P lo args w λe w'=>e=.returned (.bool true)/\Holds E w' (post++fr)
theorem LI.yield {i:Nat} {pos:String} {x:Operand} {xs:List Operand} {at_:Array TypeId} {lo:Nat} {args:List Value} {pre post fr:List HP} (hi:Nat.blt i n=true)
 (hv:ev ts x=some (.func (.yield lo) #[] #[])) (hx:qA ts xs=some args) (hs:Yields P lo args.toArray pre post) (hl:Ent l (pre++fr)) (h:At E n D ((i,.bool true)::ts) (post++fr) (wpListIn (wF none) 1 P ops Q rest)) :
 At E n D ts l (wpListIn (wF none) 1 P ops Q (⟨some i,.call {callee:=.value x,args:=xs.toArray,argTypes:=at_},ty,pos,af,none⟩::rest)):=λa w ft hw=>by
 obtain⟨fn,tmps,assign,body,hy,hr⟩:=hs E w fr (hw.ent hl);have he:=eK ft.knows hx;have hrun:(execOp a.eval ⟨some i,.call {callee:=.value x,args:=xs.toArray,argTypes:=at_},ty,pos,af,none⟩).run P w=.ok (.round lo fn tmps assign body) w:=by
  simp[execOp,resolve,invoke,Deferred.ofValue,ft.eval hv,he,hy]
 unfold wpListIn;rw[if_pos (by simp[Region.wanted])];refine⟨λ_ _=>trivial,?_⟩;show Oper.uponIn _ _ _ _ _ _ _ ((Oper.semAt none a.eval _).run P w);rw[Oper.semAt_none,hrun];refine⟨λ_=>cu 1,?_⟩;refine RoundIn.mono (F:=Fence.wide) hr ?_;rintro e w' ⟨rfl,hH⟩;exact h _ w' (ft.put i (Nat.le_of_ble_eq_true hi) _) hH
def Seqs {α:Type} (P:Program) (G:Env->Prop) (f:FuncId) (cap:Array Value) (enc:α->Value) (S:List α->Prop) (N:Nat) (pre:List HP):Prop:=
 ∀(lo:Nat) (J:List α->List HP),(∀done x,done.length<N->Yields P lo #[enc x] (J done) (J (done++[x])))->Does P G f (#[.func (.yield lo) #[] #[]]++cap) (pre++J []) λ_ m=>∃ss,S ss/\m=pre++J ss
def yp (E:Env) (m:List HP):Exit->Act->World->Prop
 | .normal,_,w=>Holds E w m
 | _,_,_=>False
theorem mZ {k:List HP} (h:Ent l k):At E n D ts l (yp E k .normal):=λ_ _ _ hw=>hw.ent h
end
abbrev xf (b:Nat):Deferred:={target:=.collected b,args:=#[]}
abbrev nG (b:Nat):HP:=ob b (.deferred (some []))
section
variable {fr pre r:List HP} {fn:Func}
theorem oT {α:Type} {g:Operand} {assign body:Code} {cap:Array Value} {enc:α->Value} {S:List α->Prop} (J:List α->List HP)
 (hg:ev ts g=some (.func (.func f) #[] cap)) (hb:eB P f=true) (hE:G E) (hi:Nat.blt i n=true) (hit:Seqs P G f cap enc S N pre) (he:Ent l (pre++(J []++fr)))
 (hassign:∀(lo:Nat) (E':Env) (L:List HP) (x:α) (K:Act->World->Prop),At E' n [] ((j,enc x)::(i,enc x)::ts) L K->At E' n [] ((i,enc x)::ts) L (assign.wpIn (wF (some lo)) 0 P (Exit.then K λ_ _ _=>False)))
 (hbody:∀(lo:Nat) (E':Env) (fr':List HP) (done:List α) (x:α),done.length<N->At E' n [] ((j,enc x)::(i,enc x)::ts) (J done++fr') (body.wpIn (wF (some lo)) 0 P (yp E' (J (done++[x])++fr'))))
 (hdone:∀(b:Nat) (ss:List α),S ss->At E n (xf b::D) ts (nG b::(pre++(J ss++fr))) (Q .normal)) :
 At E n D ts l ((Code.rangeFunc g #[i] assign body).wp P Q):=λa w ft hw=>by
 refine(wpIn_wide (n:=1)).1 (wpIn_rangeFunc (F:=Fence.wide) λfn _=>?_);obtain⟨rec,hrec⟩:∃rec:LoopState->Option Code->Loop,rec=λst pe=>{state:=st,pending:=pe,fn,tmps:=a.tmps,params:=#[i],assign,body,defers:=w.heap.size}:=⟨_,rfl⟩;obtain⟨w1,hw1⟩:∃w1,(w.alloc (.deferred (some []))).alloc (.loop (rec .ready none))=w1:=⟨_,rfl⟩;have hH1:Holds E w1 (ob (w.heap.size+1) (.loop (rec .ready none))::nG w.heap.size::l):=by
  rw[<-hw1];have:=(hw.alloc (.deferred (some []))).alloc (.loop (rec .ready none))
  rwa [World.size_alloc] at this
 obtain⟨J',hJ'⟩:∃J':List α->List HP,J'=λdone=>ob (w.heap.size+1) (.loop (rec .ready none))::J done:=⟨_,rfl⟩;have hY:∀done x,done.length<N->Yields P (w.heap.size+1) #[enc x] (J' done) (J' (done++[x])):=λdone x hlt E' W fr' hW=>by
  rw[hJ'] at hW;have hL:=(hW.ob .head).1;refine⟨_,_,_,_,run_yield hL (by rw[hrec];rfl),roundIn_of_wpIn trivial ?_⟩;have hfit:Fits n [] ((i,enc x)::ts) {tmps:=((rec .ready none).params.zip #[enc x]).foldl (λtmps (t,a)=>tmps.setIfInBounds t a) (rec .ready none).tmps,defers:=[]}:=by
   have h0:Fits n [] ts {tmps:=a.tmps,defers:=[]}:=⟨ft.size,rfl,ft.get⟩;have:=h0.put i (Nat.le_of_ble_eq_true hi) (enc x);rw[hrec];simpa[Act.put] using this
  rw[hrec];rw[hrec] at hfit hW hL;refine hassign (w.heap.size+1) E' _ x _ (λa1 W1 f1 hW1=>?_) _ W hfit hW;have hL1:=(hW1.ob .head).1;refine⟨_,run_beginRound hL1 Z,?_⟩;have hW2:Holds E' (W1.putObj (w.heap.size+1) (.loop {(rec .ready none) with state:=.busy})) (ob (w.heap.size+1) (.loop {(rec .ready none) with state:=.busy})::(J done++fr')):=hW1.putO _;rw[hrec] at hW2;have hW3:=hW2.ent (m:=J done++(ob (w.heap.size+1) (.loop {(rec .ready none) with state:=.busy})::fr')) (Ent.perm (by rw[hrec];exact(List.perm_middle (l₁:=J done)).symm));rw[hrec] at hW3;refine wpIn_mono (hbody (w.heap.size+1) E' _ done x hlt a1 _ f1 hW3) λe a2 W3 hq=>?_;cases e with
  | normal=>
   have hq':Holds E' W3 _:=hq;have hq2:=hq'.ent (m:=ob (w.heap.size+1) (.loop {(rec .ready none) with state:=.busy})::(J (done++[x])++fr')) (Ent.perm (by rw[hrec];exact List.perm_middle));have hL3:=(hq2.ob .head).1;refine⟨_,_,run_endRound none hL3,rfl,?_⟩;rw[hJ'];have:=hq2.putO (.loop (rec .ready none));rw[hrec] at this ⊢;exact this
  | _=>exact hq.elim
 refine⟨w.heap.size+1,[xf w.heap.size],w1,{target:=.fn (.func f) cap,args:=#[.func (.yield (w.heap.size+1)) #[] #[]]},w1,f,#[.func (.yield (w.heap.size+1)) #[] #[]]++cap,w1,?_,?_,λ_ _=>trivial,?_,λ_=>cu 1,?_⟩
 · rw[<-hw1,hrec];exact run_enterLoop_outer _ _ _ _ _
 · simp only[resolve,ft.eval hg]
   simp[go_sem]
 · simp[invoke,go_sem,eG hb]
 · refine callsIn_wide.2 ((hit (w.heap.size+1) J' hY E w1 (nG w.heap.size::fr) hE ?_).mono ?_)
   · refine hH1.ent ?_
     rw[hJ'];refine(Ent.cons (Ent.cons he)).trans (Ent.perm ?_);have h1:(nG w.heap.size::(pre++(J []++fr))).Perm (pre++(J []++(nG w.heap.size::fr))):=by
      rw[<-List.append_assoc,<-List.append_assoc];exact(List.perm_middle (l₁:=pre++J [])).symm
     refine(List.Perm.cons _ h1).trans ?_;show(_::(pre++_)).Perm (pre++(_::J [])++_);rw[List.append_assoc];exact(List.perm_middle (l₁:=pre)).symm
   · rintro e w3 ⟨v,k,rfl,⟨ss,hS,rfl⟩,hH⟩
     rw[hJ'] at hH;have hH2:Holds E w3 (ob (w.heap.size+1) (.loop (rec .ready none))::nG w.heap.size::(pre++(J ss++fr))):=by
      refine hH.ent<|Ent.perm ?_
      show(pre++(_::J ss)++(nG w.heap.size::fr)).Perm _;rw[List.append_assoc];refine(List.perm_middle (l₁:=pre)).trans (List.Perm.cons _ ?_);show(pre++(J ss++(nG w.heap.size::fr))).Perm (nG w.heap.size::(pre++(J ss++fr)));rw[<-List.append_assoc,<-List.append_assoc];exact List.perm_middle (l₁:=pre++J ss)
     have hL3:=(hH2.ob .head).1;refine⟨none,w3.putObj (w.heap.size+1) (.loop {(rec .ready none) with state:=.exhausted}),by have:=run_endLoop (P:=P) hL3 (by rw[hrec];simp);rw[hrec] at this ⊢;exact this,?_⟩;refine hdone w.heap.size ss hS _ _ ⟨ft.size,by show _::a.defers=_;rw[ft.defers],ft.get⟩ ?_;exact(hH2.putO _).ent Ent.drop
def Cu (P:Program) (fn:Func) (E:Env) (fr:List HP) (R:Value->List HP->Prop):Exit->Act->World->Prop:=
 bodyPostM Fence.wide 0 P fn λe w'=>∃v m,e=.returned v/\R v m/\Holds E w' (m++fr)
theorem tK {c:Code} {args:List Value} (hf:P.funcs[f]?=some fn) (hb:fn.body=some c) (hn:Nat.ble args.length fn.ntmps=true)
 (h:∀E fr,G E->At E fn.ntmps [] (fy 0 args) (pre++fr) (c.wp P (Cu P fn E fr R))):Does P G f args.toArray pre R:=by
 intro E w fr hE hw;refine callsIn_wide.1<|callsIn_of_wp_marks (n:=0) hf hb trivial (wpIn_wide.2 (h E fr hE _ _ ⟨?_,rfl,?_⟩ hw)) Z
 · have:=Nat.le_of_ble_eq_true hn
   simp;omega
 · intro i v hi
   obtain⟨_,h2⟩:=fA args 0 i v hi;rw[Nat.sub_zero] at h2;have hlt:i<args.length:=(gfGet.1 h2).1;simp[Array.getElem?_append,hlt,(gfGet.1 h2).2]
theorem qi {a:Act} {k:List HP} (f:a.defers=[xf b]) (hw:Holds E w l) (s:Sel (nG b) l r) (hv:(results fn a.tmps).run P (w.putObj b (.deferred none))=.ok v (w.putObj b (.deferred none))) (hR:R v k) (hm:Ent r (k++fr)):Cu P fn E fr R .ret a w:=by
 show LeavesInM _ _ _ _ _ _ a.defers _ _;rw[f];have hb:=(hw.ob s).1;refine⟨by simp,.inl ⟨_,_,rfl,run_takeDeferred hb,_,hv,v,k,rfl,hR,?_⟩⟩;exact((hw.sel s).putO _).ent (Ent.drop.trans hm)
theorem zt (k:List HP) (s:Sel (nG b) l r) (hr:fn.results=#[.tmp i]) (hv:look i ts=some v) (hR:R v k) (hm:Ent r (k++fr)):At E n [xf b] ts l (Cu P fn E fr R .ret):=λ_ _ f hw=>
 qi f.defers hw s (by rw[results_tmp hr,fq (f.get i v hv)]) hR hm
theorem zr {u:Value} (k:List HP) (s:Sel (nG b) l r) (hr:fn.results=#[.tmp i,.tmp j]) (hu:look i ts=some u) (hv:look j ts=some v) (hR:R (.tuple #[u,v]) k) (hm:Ent r (k++fr)):At E n [xf b] ts l (Cu P fn E fr R .ret):=λ_ _ f hw=>
 qi f.defers hw s (by rw[results_tmp2 hr,fq (f.get i u hu),fq (f.get j v hv)]) hR hm
end
end
end Go.SL
namespace Go.Y
open Go.Proofs Go.RowKit Go.SL
theorem D9 (a b:Nat):dx G 290 [aQ a,aQ b] [] λv m=>v=.bool (decide (a<b))/\m=[]:=by
 refine bA Tryz.func290 Z λE fr I=>aZ<|sS<|sB Z<|bq Z ?_
 refine bW Z (r9 a) aT ?_;exact aZ<|sM Z<|bg Z<|bg Z<|bg Z<|sP (aF Z Z Z)<|sM Z<|db Z<|db Z<|ci (bz (r:=decide (a<b)) Z Z cY)<|sP (aF (v:=.bool (decide (a<b))) Z Z Z)<|sB Z<|an<|ar [] rfl Z ⟨rfl,rfl⟩ aT
abbrev uV (t:FR.Tmd):Value:=aQ t.due
abbrev z7 (g c n:Nat) (l:List FR.Tmd):HP:=row 51 1 (sV g c n) n (l.map uV)
section
variable {X l:List FR.Tmd}
theorem vC {g c:Nat} {L r:List HP} {x:FR.Tmd} (s:Sel (z7 g c n l) L r) (h:l[i]?=some x):∀w,Holds E w L->cq ⟨g,0+i*1,none⟩ (uV x) w:=il s (by simp[h])
theorem Jt (x:FR.Tmd):(l.map uV).set (0+i*1) (uV x)=(l.set i x).map uV:=by simp[List.map_set]
theorem wJ {g c:Nat} (hn:X.length=n) (hb:n<=100000) (hs:X.Pairwise λx y=>x.seq<y.seq) :
 dx G 284 [sV g c n,aw 0,aw n] [z7 g c n X] λv m=>v=.tuple #[]/\∃Y,FR.Srt X Y/\m=[z7 g c n Y]:=by
 refine bA Tryz.func284 Z λE fr hE=>aa<|bq Z<|sP (bc (r:=((1:Nat):Int)) Z Z Z)<|sB Z<|ag ?_
 refine aO (X:=Nat×List FR.Tmd) (λx=>[(6,aw x.1),(0,sV g c n),(1,aw 0),(2,aw n)]) (λx=>z7 g c n x.2::fr) (λx=>(x.1<=X.length\/x.1=1)/\x.2.length=n/\FR.InsI [] X [] x.1 x.2) (λx=>X.length-x.1) (1,X) ⟨.inr Z,hn,by have:=FR.InsI.first [] X [];simpa using this⟩ bV aT ?_;rintro⟨k,W⟩ ⟨hk,I,hI⟩;replace hk:k<=X.length\/k=1:=hk;replace I:W.length=n:=I;replace hI:FR.InsI [] X [] k W:=hI;refine eQ (ts':=[(6,aw k),(0,sV g c n),(1,aw 0),(2,aw n)]) Z<|aq (l':=z7 g c n W::fr) aT ?_
 refine sQ<|bq Z<|ch Z (bz Z Z Z)<|sN ?_
 refine aB Z (λmt=>?_) λmt=>?_
 ·
  have K:k<X.length:=am;obtain⟨x,T⟩:∃x,X[k]?=some x:=⟨X[k],by simp[K]⟩;refine ae<|sT<|sQ<|ag<|bq Z<|sB Z<|ag ?_
  refine aO (X:=Nat×List FR.Tmd) (λx=>[(7,aw x.1),(6,aw k),(0,sV g c n),(1,aw 0),(2,aw n)]) (λx=>z7 g c n x.2::fr) (λy=>y.2.length=n/\FR.InsJ [] X [] k y.1 x y.2) (λx=>x.1) (k,W) ⟨I,by have:=hI.start T;simpa using this⟩ bV aT ?_;rintro⟨j,W⟩ ⟨I,O⟩;replace I:W.length=n:=I;replace O:FR.InsJ [] X [] k j x W:=O;refine eQ (ts':=[(7,aw j),(6,aw k),(0,sV g c n),(1,aw 0),(2,aw n)]) Z<|aq (l':=z7 g c n W::fr) aT ?_
  obtain⟨g1,g2⟩:=O.at
  have wf:=(O.len T).2;rw[List.length_nil] at wf;refine sQ<|sQ ?_
  by_cases hA:0<j
  ·
   obtain⟨z,g3,g4,g5⟩:=g2 hA;refine sZ Z<|dT Z Z<|cv Z Z<|bC Z (ig Z Z am)<|cv Z Z<|dv 4 Z (bd Z)<|dv 5 Z (bd Z)<|dv 6 Z (aS (z:=1) Z Z Z Z am)<|mg 7 Z (au (v:=uV x) Z) (vC .head g1)<|dv 8 Z (bd Z)<|dv 9 Z (bd Z)<|dv 10 Z (cV (r:=((j-1:Nat):Int)) Z Z dP)<|dv 11 Z (aS (z:=1) Z Z Z Z am)<|mg 12 Z (au (v:=uV z) Z) (vC .head g3) ?_
   refine tv 13 Z Z Z Z eA<|ed Z (D9 x.due z.due) aT ?_
   rintro v m ⟨rfl,rfl⟩;refine aZ<|dK [false,false] ak<|dj 14 Z (aF Z Z Z)<|dE<|sT ?_
   refine aB Z (λJ=>?_) λJ=>?_
   ·
    refine ae<|sT<|sQ<|ag<|sZ Z<|dT Z Z<|cv Z Z<|cv Z Z<|cv Z Z<|bC Z (cV (r:=((j-1:Nat):Int)) Z Z dP)<|cv Z Z<|cv Z Z<|bC Z (cV (r:=((j-1:Nat):Int)) Z Z dP)<|bC Z (aS (z:=1) Z Z Z Z am)<|bQ Z (au (v:=uV z) Z) (vC .head g3)<|cv Z Z<|cv Z Z<|bC Z (aS (z:=1) Z Z Z Z am)<|bQ Z (au (v:=uV x) Z) (vC .head g1)<|bC Z (aS (z:=1) Z Z Z Z am) ?_
    refine dA 15 Z<|fD .head Z Z Z Z am ?_
    rw[Jt];refine dK [false,false] ak<|dj 16 Z (aS (z:=1) Z Z Z Z am) ?_
    refine dA 17 Z<|fD .head Z Z Z Z am ?_
    rw[Jt];refine dK [] ak<|dE<|al<|sT<|sG<|ch Z (cV (r:=((j-1:Nat):Int)) Z Z dP)<|sA Z<|ao ?_
    exact aE (j-1,(W.set j z).set (j-1) x) ⟨by simp[I],g5 J⟩ (by show j-1<j;omega) bV aT
   ·
    refine aL<|aA<|az<|ap<|al<|sT<|sG<|ch Z (bc (r:=((k+1:Nat):Int)) Z Z dP)<|sA Z<|ao ?_
    exact aE (k+1,W) ⟨.inl K,I,O.fin T hs λ_ z' e=>by rw[g3] at e;injection e with e;subst e;exact J⟩ (by show X.length-(k+1)<X.length-k;omega) bV aT
  ·
   refine sZ Z<|dT Z Z<|cv Z Z<|bC Z (lF Z Z am)<|cv Z Z<|dy 4 Z Z<|dy 5 Z Z<|dy 6 Z Z<|dy 7 Z Z<|dy 8 Z Z<|dy 9 Z Z<|dy 10 Z Z<|dy 11 Z Z<|dy 12 Z Z<|dy 13 Z Z<|bC Z (aF Z Z Z)<|dE<|sT<|aj Z<|aL ?_
   refine aA<|az<|ap<|al<|sT<|sG<|ch Z (bc (r:=((k+1:Nat):Int)) Z Z dP)<|sA Z<|ao ?_
   exact aE (k+1,W) ⟨.inl K,I,O.fin T hs λh=>absurd h hA⟩ (by show X.length-(k+1)<X.length-k;omega) bV aT
 ·
  obtain⟨Y,e,s⟩:=hI.fin am;refine aL<|aA<|az<|ap ?_
  exact cW [_] rfl ⟨rfl,Y,s,rfl⟩ (by rw[e];simp;exact aT)
theorem insertU0_does:dx G 284 [d9,aw 0,aw 0] [] λv m=>v=.tuple #[]/\m=[]:=by
 refine bA Tryz.func284 Z λE fr I=>aZ<|bq Z<|sP (bc (r:=1) Z Z Z)<|sB Z<|ag ?_
 refine aO (X:=Unit) (λ_=>[(6,aw 1),(2,aw 0)]) (λ_=>fr) (λ_=>True) (λ_=>0) () trivial bV aT ?_;intro _ _;exact sQ<|bq Z<|ch Z (bz Z Z Z)<|sN<|aj Z<|aL<|aA<|az<|ap<|cW [] rfl ⟨rfl,rfl⟩ aT
theorem ub (O:X.length<=100000) (T:FR.Seqs X):dx G 284 [v,aw 0,aw X.length] [row 51 1 v X.length (X.map uV)] λu m=>u=.tuple #[]/\∃Y,FR.Srt X Y/\m=[row 51 1 v Y.length (Y.map uV)]:=by
 intro E w fr J hw;rcases(hw.row .head).2 with⟨h0,I⟩|⟨g,cap,mt,hv,_⟩
 · obtain rfl:X=[]:=List.eq_nil_of_length_eq_zero I
   subst h0;exact((insertU0_does.frame [row 51 1 d9 0 []]).mono λu m ⟨m',⟨I,h2⟩,hm⟩=>⟨_,⟨I,[],FR.Srt.nil,rfl⟩,by rw[hm,h2];exact aT⟩) E w fr J hw
 · subst hv
   refine((wJ (g:=g) (c:=cap) Z O T).mono ?_) E w fr J hw;rintro u m ⟨rfl,Y,K,rfl⟩;exact⟨_,⟨rfl,Y,K,rfl⟩,by rw[K.len];exact aT⟩
theorem w6 (n:Nat) (h:n<9223372036854775808):dx G 247 [aQ n] [] λv m=>(∃k:Int,v=aw k)/\m=[]:=λE w fr _ hw=>
 (Any.bits_Len (SlLaysF0.n15.bits (P:=Tryz.prog) (ρ:=gS) {lY with}) (n:Int) w am am).mono λ_ _ ⟨I,J⟩=>⟨_,_,I,⟨⟨_,rfl⟩,rfl⟩,J▸hw⟩
theorem DU {I:Int} (O:X.length<=12) (J:FR.Seqs X):dx G 265 [v,aw 0,aw X.length,aw I] [row 51 1 v X.length (X.map uV)] λu m=>u=.tuple #[]/\∃Y,FR.Srt X Y/\m=[row 51 1 v Y.length (Y.map uV)]:=by
 refine bA Tryz.func265 Z λE fr T=>aa<|sS<|sB Z<|sS<|sB Z<|ag ?_
 refine aO (X:=Unit) (λ_=>[(0,v),(1,aw 0),(2,aw X.length)]) (λ_=>row 51 1 v X.length (X.map uV)::fr) (λ_=>True) (λ_=>0) () trivial bV aT ?_;intro _ _;refine ag<|bq Z<|sM Z ?_
 refine sP (cV (r:=(X.length:Int)) Z Z (by rw[Int.sub_zero];exact jf am)) ?_;refine sB Z<|sQ<|bq Z<|sP (nU (r:=true) Z Z (vA am))<|sN<|aM Z<|bq Z<|sM Z<|sM Z ?_
 refine bU Z (ub am J) aT ?_;rintro v m ⟨rfl,Y,K,rfl⟩;exact aa<|sN<|an<|aC<|aH<|bP<|aH<|cW [_] rfl ⟨rfl,Y,K,rfl⟩ aT
theorem AM (I:X.length<=12) (J:FR.Seqs X):dx G 244 [v] [row 51 1 v X.length (X.map uV)] λu m=>u=.tuple #[]/\∃Y,FR.Srt X Y/\m=[row 51 1 v Y.length (Y.map uV)]:=by
 refine bA Tryz.func244 Z λE fr O=>aa<|aK .head ?_
 rintro A c rfl - - - - -
 refine bq Z<|sP (bp Z Z)<|sB Z<|sG<|sM Z<|sM Z<|ch Z (dN (r:=(X.length:Int)) Z Z Z (wu64 am)) ?_
 refine bU Z (w6 X.length am) aT ?_;rintro v m ⟨⟨k,rfl⟩,rfl⟩;refine aZ ?_;refine bU Z (DU I J) aT ?_;rintro v m ⟨rfl,Y,K,rfl⟩;exact aa<|ao<|cW [_] rfl ⟨rfl,Y,K,rfl⟩ aT
end
end Go.Y
namespace FR
def g8:Nat->List Nat->List Tmd
 | _,[]=>[]
 | i,k::l=>⟨0,0,k,i⟩::g8 (i+1) l
theorem xq:∀(i:Nat) (l:List Nat),(g8 i l).map Tmd.due=l
 | _,[]=>rfl
 | i,k::l=>by simp[g8,xq]
theorem uA:∀(i:Nat) (l:List Nat),(∀t∈g8 i l,i<=t.seq)/\Seqs (g8 i l)
 | _,[]=>⟨λ_ h=>(by cases h),List.Pairwise.nil⟩
 | i,k::l=>by
  obtain⟨I,J⟩:=uA (i+1) l;refine⟨λt E=>?_,List.pairwise_cons.2 ⟨λt E=>?_,J⟩⟩
  · rcases List.mem_cons.1 E with rfl|E
    · exact cu _
    · have:=I t E;omega
  · have:=I t E
    show i<t.seq;omega
end FR
namespace Go.SL
theorem eo {p:HP}:∀{l r:List HP},Ent (p::(l++r)) (l++p::r):=Ent.perm List.perm_middle.symm
theorem Ent.back {p:HP}:∀{l r:List HP},Ent (l++p::r) (p::(l++r)):=Ent.perm List.perm_middle
end Go.SL
namespace Go.Y
open Go.Proofs
open Go Go.RowKit Go.SL
abbrev vz (c b:Nat):HP:=blk c 245 #[.map (some b)]
theorem BD {c:Nat} {mm:List (Nat×Value)}:Seqs Tryz.prog G 245 #[aX c] aQ (λss=>ss.Perm (mm.map (·.1))) mm.length [vz c b,cP aQ b mm]:=by
 intro lo J hY;have e:(#[.func (.yield lo) #[] #[]]++#[aX c]:Array Value)=[.func (.yield lo) #[] #[],aX c].toArray:=by simp
 rw[e];refine bA Tryz.func245 Z λE fr hE=>aq (l':=vz c b::cP aQ b mm::(J []++fr)) aT ?_;refine sS<|bF (au (v:=.map (some b)) Z) (ah Z)<|sO (ox (b:=b) Z Z Z bJ λO=>(sN (ag ?_)))
 refine aO (X:=List (Nat×Value)×Option (Nat×Value)×List Nat) (λ_=>[(5,aX O),(0,.func (.yield lo) #[] #[])]) (λx=>ek aQ O b mm x.1 x.2.1::vz c b::(J x.2.2++fr)) (λx=>(mm.map (·.1)).Perm (x.2.2++x.1.map (·.1))) (λx=>x.1.length) (mm,none,[]) (List.Perm.refl _) bV aT ?_;rintro⟨left,T,done⟩ I;replace I:(mm.map (·.1)).Perm (done++left.map (·.1)):=I;have K:=I.length_eq;rw[List.length_append,List.length_map,List.length_map] at K;refine aq (l':=ek aQ O b mm left T::vz c b::(J done++fr)) aT ?_;refine sQ ?_
 by_cases HL:left=[]
 ·
  subst HL;refine sG ?_;refine sO<|lD Z Z .head (λ_=>?_) (λj q hj=>by simp at hj)
  refine bT Z Z<|sN<|sQ<|aj Z<|aL<|aA<|az<|ap ?_
  rw[List.map_nil,List.append_nil] at I;exact cW ([vz c b,cP aQ b mm]++J done) Z ⟨done,I.symm,rfl⟩<|Ent.ranged.trans<|Ent.perm<|List.Perm.swap _ _ _
 ·
  refine sG ?_;refine sO<|lD Z Z .head (λh=>absurd h HL) λj x hx=>?_
  have Y:=(gfGet.1 hx).1;have mt:(mm.map (·.1)).Perm ((done++[x.1])++(left.eraseIdx j).map (·.1)):=by
   rw[List.append_assoc];exact I.trans<|List.Perm.append_left done ((lN hx).map (·.1))
  refine bT Z Z<|sN<|sQ<|aM Z<|ae<|sT<|ag<|sS<|bF (oI (p:=x) Z) (m0 .head)<|bT Z Z<|sB Z<|sQ<|nM ?_
  refine LI.pure Z (bd Z) ?_;refine LI.pure Z (bd Z) ?_;refine LI.yield Z Z Z (hY done x.1 am) ((Ent.cons eo).trans eo) ?_;refine LI.pure Z (cD (r:=false) Z Z) ?_;refine LI.nil ?_;refine sT<|aj Z<|ae<|al ?_
  exact aE (left.eraseIdx j,some x,done++[x.1]) mt (by show(left.eraseIdx j).length<left.length;rw[List.length_eraseIdx_of_lt Y];omega) bV<|Ent.back.trans<|Ent.cons Ent.back
def toldU (b:Nat) (l:List Nat):HP:=HP.ex λv:Value=>HP.all [blk b 90 #[v],row 51 1 v l.length (l.map aQ)]
theorem Ent.toldU {b:Nat} {l:List Nat} {v:Value} {r:List HP}:Ent (blk b 90 #[v]::row 51 1 v l.length (l.map aQ)::r) (toldU b l::r):=
 (Ent.all (m:=[blk b 90 #[v],row 51 1 v l.length (l.map aQ)])).trans (Ent.ex (f:=λv:Value=>HP.all [blk b 90 #[v],row 51 1 v l.length (l.map aQ)]) v)
theorem JC:fd Tryz.prog 51 (aQ 0) 1 8:=by unfold fd;kernel_rfl
theorem Fy (b:Nat) (x:Operand):Instr.fill (λi=>some (i*1,1)) (Array.map (λx=>(aQ 0).cells[x%(aQ 0).cells.size]!) (Array.range (1*1))) ((List.map (λx=>x.fst) [((0:Nat),x)]).zip [aQ b])=some #[aQ b]:=by
 have e1:Array.range (1*1)=#[0]:=rfl;rw[e1];simp[Instr.fill,Value.cells]
theorem tS {cap:Array Value} {pre:List HP} {S:List Nat->Prop} (hN:N<=100000) (hb:eB Tryz.prog f=true) (mt:Seqs Tryz.prog G f cap aQ S N pre) :
 dx G 264 [d9,.func (.func f) #[] cap] pre λv m=>∃I,S I/\m=row 51 1 v I.length (I.map aQ)::pre:=by
 refine tK Tryz.func264 Z Z λE fr hE=>?_;refine aZ<|sS<|sO (cR Z Z λT=>(sB Z (sQ (sS (sM Z (sN (ag ?_)))))))
 refine oT (pre:=pre) (fr:=fr) (j:=5) (λdone=>[toldU T done]) Z hb hE Z mt ((Ent.row0 (e:=51) (size:=1)).trans (gfE1.trans ((Ent.toldU (l:=[])).trans eo))) (λlo E' L x K h=>AI.region (LI.pure Z (aU Z) (LI.nil (tw h)))) (λlo E' Y done x Fd=>?_) λbb I hS=>?_
 · refine AI.block<|AI.region ?_
   refine dI .head λy=>bH ?_;refine aq (l':=blk T 90 #[y]::row 51 1 y done.length (done.map aQ)::Y) aT ?_;refine LI.val Z (au (v:=y) Z) (ah Z) ?_;refine LI.pure Z (bd Z) ?_;refine LI.op Z (dh (m:=1) (z:=aQ 0) (size:=1) (ps:=[(0,.tmp 9)]) (vs:=[aQ x]) (cs:=#[aQ x]) Z Z Z Z am am Z (Fy _ _) λIn=>?_);refine LI.op rfl (bZ rfl rfl JC rfl am rfl rfl (HasVal.sel (v:=y)) (news:=[aQ x]) rfl (λh=>by cases h) (eO (λj u h=>by simpa using h)) er (by unfold maxLen;omega) am λwf BT=>?_);refine aK (HasVal.sel (v:=wf)) ?_;rintro J O rfl - - - - -
   refine LI.op Z<|co Z Z Z Z Z cY ?_
   refine aG T #[.slice J (done.length+1) O] rfl ?_;refine LI.nil<|al<|mZ ?_
   refine Ent.trans (Ent.trans ?_ (Ent.toldU (v:=.slice J (done.length+1) O) (l:=done++[x]))) aT;rw[List.length_append,List.map_append];show Ent _ (blk T 90 #[.slice J (done.length+1) O]::row 51 1 (.slice J (done.length+1) O) (done.length+1) (done.map aQ++[aQ x])::Y);exact aJ
 refine aq (l':=toldU T I::nG bb::(pre++fr)) ((Ent.cons Ent.back).trans (Ent.perm (List.Perm.swap _ _ _))) ?_;refine dI .head λy=>bH ?_;refine aq (l':=blk T 90 #[y]::row 51 1 y I.length (I.map aQ)::nG bb::(pre++fr)) aT ?_;exact al<|sT<|sS<|bF (au (v:=y) Z) (ah Z)<|sB Z<|an<|zt (row 51 1 y I.length (I.map aQ)::pre) de Z Z ⟨I,hS,rfl⟩ Ent.drop
end Go.Y
