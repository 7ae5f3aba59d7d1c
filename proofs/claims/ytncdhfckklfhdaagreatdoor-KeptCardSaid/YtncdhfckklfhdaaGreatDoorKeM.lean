/- Both engines, called alike: an engine's host over a disk that is well, the document's. -/
import Derived.Test.YtncdhfckklfhdaaGreatDoorKeL
import Derived.Test.YtncdhfckklfhdaaGreatDoorKeK
import Derived.Test.YtncdhfckklfhdaaGreatDoorKeC
set_option linter.defProp false
set_option maxHeartbeats 8000000
set_option maxRecDepth 20000
variable{σ:FK.Dsk}{ns:List Go.Y.ND}{N c d e eb f h n:Nat}{S U:FK.En}{M:FR.En}{l:List (List UInt8)}{J:FK.Jn}{p:Go.Y.EA}{G:Go.SL.Env->Prop}{K dl x:Int}{a:Go.Y.RfA}{A:Option Go.Addr}{s:ByteArray}{w0:Go.World}{E0:Go.SL.Env}{m:List Go.SL.HP}{v:Go.Value}
namespace FK
def Klo.logs{l:List (List UInt8)}{σ:Dsk}(h:Klo l σ)(b:List UInt8):Klo (l++[b]) (σ.logs 0 (Go.Y.gD (frame b))):=by
 have e:(cm 0==cm 0)=true:=(Go.MapKept.bytes_beq _ _).2 rfl;have key:fx σ.dur ⟨2,cm 0,Go.Y.gD (frame b)⟩=[(cm 0,Go.Y.gD (frames (l++[b])))]:=by
  rw[rZ,EP];rcases h.files with E|⟨rfl,E⟩
  ·rw[E];simp[fx,jF,fG,List.findIdx?_cons,e]
  ·rw[E]
   have e0:Go.Y.gD (frames [])++Go.Y.gD (frame b)=Go.Y.gD (frame b):=by rw[<-EP];rfl
   rw[e0];simp[fx,jF,fG]
 exact⟨.inl key,congrArg (λfs=>fx fs ⟨2,cm 0,Go.Y.gD (frame b)⟩) h.now,h.pend⟩
structure Lg(N:Nat)(l:List (List UInt8))(S:En):Prop where
 reds:Reds En.fresh l S
 len:(frames l).length<=N
def Lg.snoc{N:Nat}{l:List (List UInt8)}{S U:En}(h:Lg N l S)(E:Fine S){b:List UInt8}(K:b.length<=20001)(I:Redo S b U):Lg (N+30000) (l++[b]) U:=by
 refine⟨h.reds.snoc E am I,?_⟩;have O:=h.len;have T:=Go.Y.oM b am;rw[rZ,List.length_append];omega
def GZ{op:Nat}(E:n<18446744073709551616):(cS op n).length<=11:=by
 have:=Go.Y.gC E;unfold cS;simp only[List.length_cons];omega
end FK
namespace FR
def qj{α:Type}{P:α->α->Prop}{x y:α}(K:¬P x y)(O:¬P y x):∀{l:List α},l.Pairwise P->x∈l->y∈l->x=y
 | [],_,hx,_=>by cases hx
 |a::l,h,hx,hy=>by
  obtain⟨h3,T⟩:=List.pairwise_cons.1 h;rcases List.mem_cons.1 hx with rfl|E<;>rcases List.mem_cons.1 hy with rfl|I
  ·rfl
  ·exact absurd (h3 _ I) K
  ·exact absurd (h3 _ E) O
  ·exact qj K O T E I
def Pair.cut_one(h:Pair N S M){S2:FK.En}(E:FK.Cut S U)(I:FK.Cut S S2):U=S2:=by
 have hp:S.runs.Pairwise λa b=>0<a.2.ended->a.2.ended≠b.2.ended:=by
  rw[h.sim.runs];exact List.pairwise_map.2 ((List.pairwise_map.1 h.ke).imp λK=>K.2)
 unfold FK.Cut at E I
 by_cases h6:S.runs.length=6
 ·rw[if_pos h6]at E I
  obtain⟨o1,i1,rfl⟩:=E;obtain⟨o2,i2,rfl⟩:=I;have d6:o1=o2:=by
   cases o1 with
   |none=>
    cases o2 with
    |none=>rfl
    |some O=>
     obtain⟨T,Y⟩:=i2.1 O rfl;obtain⟨_,e,_⟩:=i1.2 O T Y;cases e
   |some m1=>
    obtain⟨T,Y⟩:=i1.1 m1 rfl;obtain⟨O,rfl,l2⟩:=i2.2 m1 T Y;obtain⟨b1,b2⟩:=i2.1 O rfl;obtain⟨m3,e3,l3⟩:=i1.2 O b1 b2;injection e3 with e3;subst e3;rw[qj (λK=>K Y am) (λK=>K b2 am) hp T b1]
  rw[d6]
 ·rw[if_neg h6]at E I
  rw[E,I]
end FR
namespace Go.Y
open Go.Proofs Tryz
open Go Go.RowKit Go.SL
structure Live(N:Nat)(S:FK.En)(M:FR.En)(J:FK.Jn)(σ:FK.Dsk):Prop where
 pair:FR.Pair N S M
 dk:FK.Dk (100000*N) σ
 jn:J.n<1000000
 jb:J.broken=0
 j0:J=FK.J0
 lg:∃l,FK.Lg (30000*N) l S/\FK.Klo l σ
abbrev qJ(h f e j d N:Nat)(p:EA)(x:Int)(M:FR.En)(v:Value)(m:List HP):Prop:=v=aA x/\∃U E I,Live (N+1) U M E I/\m=cr h f e j d p U E I
abbrev zp(E:Nat)(ns:List ND)(x:Int)(M:FR.En)(v:Value)(m:List HP):Prop:=v=aA x/\∃a,m=[aZ E a ns M,bx ns]
section
variable{j t:Nat}
section
variable{F:FuncId}{A:Array Value}{V:FR.En}
def Live.roomy(E:Live N S M J σ)(I:N<=100000):Roomy σ:=J7 E.dk am
def Live.succ(E:Live N S M J σ):Live (N+1) S M J σ:=⟨E.pair.succ,⟨E.dk.quiet,by have:=E.dk.now;omega,by have:=E.dk.dur;omega⟩,E.jn,E.jb,E.j0,let⟨l,h1,h2⟩:=E.lg;⟨l,⟨h1.reds,by have:=h1.len;omega⟩,h2⟩⟩
def Live.fineS(E:Live N S M J σ)(I:N<=100000):FK.Fine S:=⟨E.pair.ok,by have:=E.pair.sets;omega,by have:=E.pair.ends;omega,by have:=E.pair.lt;omega,by have:=E.pair.lr;omega⟩
def Live.log(E:Live N S M J σ)(I:N<=100000){b:List UInt8}(K:b.length<=20001)(O:FK.Redo S b U):∃l,FK.Lg (30000*(N+1)) l U/\FK.Klo l (σ.logs J.n (gD (FK.frame b))):=by
 obtain⟨l,T,Y⟩:=E.lg;rw[show 30000*(N+1)=30000*N+30000 by omega,E.j0];exact⟨_,T.snoc (E.fineS I) K O,Y.logs b⟩
def Live.noted(E:Live N S M J σ)(K:N<=100000){U:FK.En}{V:FR.En}(O:FR.Pair (N+1) U V)(op:Nat)(I:t<18446744073709551616)(T:FK.Redo S (FK.cS op t) U):Live (N+1) U V J (noted σ J op t):=⟨O,by have:=J8 E.dk J op I;rwa [show 100000*(N+1)=100000*N+100000 by omega],E.jn,E.jb,E.j0,E.log K (by have:=FK.GZ (op:=op) I;omega) T⟩
def Kw{Q:Int->FK.En->FK.Jn->FK.Dsk->Prop}
(hG:∀{aft:FK.Dsk->Option Addr×FK.Dsk} {Q:Int->FK.En->FK.Jn->FK.Dsk->Prop},(Does prog Good F [aY f,aU t].toArray (ch f e j d p S J {σ with left:=-1,full:=-1}) λv m=>∃c U E ω,v=dU c/\Q c U E ω/\m=ch f e j d p U E ω)->(∀c U E ω,Q c U E ω->tP f h d (-1) (-1) 0 0 aft ω)->dS 37 [aY h,aA K,aU t,jC] (cr h f e j d p S J σ) λv m=>∃c U E ω,v=aA c/\Q c U E ω/\m=[db h d (aft ω).1,dO f e j,aP e p U,aS j d E,aI d (aft ω).2])
(hQ:FK.Quiet σ)(hC:Does prog Good F [aY f,aU t].toArray (ch f e j d p S J σ) λv m=>∃c U E ω,v=dU c/\ω.down=false/\Q c U E ω.rested/\m=ch f e j d p U E ω) :
 dS 37 [aY h,aA K,aU t,jC] (cr h f e j d p S J σ) λv m=>∃c U E Y,v=aA c/\Q c U E Y/\m=cr h f e j d p U E Y:=by
 refine(hG (aft:=λω=>(some ⟨f,0,none⟩,ω.rested)) (Q:=λc U E ω=>ω.down=false/\Q c U E ω.rested) ?_ λc U E ω hq=>fE (-1) (-1) 0 0 hq.1).mono ?_
 ·rw[nD hQ]
  exact hC.mono λv m ⟨c,U,E,ω,I,T,h3,O⟩=>⟨m,⟨c,U,E,ω,I,⟨T,h3⟩,O⟩,aQ⟩
 ·rintro v m ⟨c,U,E,ω,I,⟨T,h3⟩,O⟩
  exact⟨m,⟨c,U,E,ω.rested,I,h3,O⟩,aQ⟩
def Live.anew{E:FK.Dsk}(O:Live N S M J σ)(T:FK.Quiet E)(I:FK.Lg (30000*N) l S)(K:FK.Klo l E):Live N S M FK.J0 E:=⟨O.pair,⟨T,by rw[K.vols.1];have:=I.len;omega,by rw[K.vols.2.1];have:=I.len;omega⟩,by decide,rfl,rfl,l,I,K⟩
def Live.call(I:Live N S M J σ)(T:N<=100000){op:Nat}{Q:FK.En->Prop}(K:∀U,Q U->FR.Pair (N+1) U V/\FK.Redo S (FK.cS op t) U)(Y:t<18446744073709551616)(hC:CallPost f e j d p S J σ op t Q v m):∃c U E ω,v=dU c/\ω.down=false/\(c=0/\Live (N+1) U V E ω.rested)/\m=ch f e j d p U E ω:=by
 obtain⟨c,U,E,ω,h1,h2,⟨h3,O,rfl,h6⟩,h7⟩:=hC.well I.dk.quiet I.jb;exact⟨c,U,E,ω,h1,h2,⟨h3,h6▸I.noted T (K U O).1 op Y (K U O).2⟩,h7⟩
def Live.not(E:Live N S M J σ)(I:v=dU x/\m=ch f e j d p S J σ):∃c U K ω,v=dU c/\ω.down=false/\(c=x/\Live (N+1) U M K ω.rested)/\m=ch f e j d p U K ω:=
 ⟨x,S,J,σ,I.1,E.dk.quiet.down,⟨rfl,by rw[E.dk.quiet.rested];exact E.succ⟩,I.2⟩
def lX{l:List HP}(K:Does prog Good F A l λv m=>∃c U E I,v=aA c/\(c=x/\Live (N+1) U V E I)/\m=cr h f e j d p U E I):Does prog Good F A l (qJ h f e j d N p x V):=
 K.mono λv m ⟨c,U,E,I,O,⟨T,h3⟩,Y⟩=>⟨m,⟨by rw[O,T],U,E,I,h3,Y⟩,aQ⟩
def xI(h:Does prog Good F A [aZ n a ns M] λv m=>v=aA x/\m=[aZ n a ns M]):Does prog Good F A [aZ n a ns M,bx ns] (zp n ns x M):=
 (h.frame [bx ns]).mono λv m ⟨O,⟨I,K⟩,h3⟩=>⟨m,⟨I,a,by rw[h3,K];rfl⟩,aQ⟩
def beat2(E:Live N S M J σ)(hN:N<=100000)(ht:t<18446744073709551616):∃(x:Int) (V:FR.En),(x≠0->V=M)/\dS 37 [aY h,aA 3,aU t,jC] (cr h f e j d p S J σ) (qJ h f e j d N p x V)/\∀T a ns,dS 38 [aY T,aU t] [aZ T a ns M,bx ns] (zp T ns x V):=by
 have I:=E.pair;have K:=I.fine am;rcases I.work t with⟨i,k,u,s,nd,hw,O⟩|⟨hw,hno⟩
 ·obtain⟨Y,h2,h3⟩:=hw.get I
  have hb:=((K.fit u (cg hw.run)).1.NO k nd (gfGet.1 O).1 O).1.2.2.2.1.2;exact⟨0,M.beat i k u s nd,λh=>absurd rfl h,lX (Kw Mm E.dk.quiet ((B6 I.ok ht E.jn (E.roomy hN) h3 Y O (by have:=I.sets;omega)).mono λv m hC=>⟨m,E.call hN (λU hU=>by subst hU;exact⟨I.beat hw O 0,.beat ht h3 Y O⟩) ht hC,aQ⟩)),λT a ns=>(Bo K.runs (fv K) hw (hw.only I) O K.time am (by have:=K.timers;omega)).mono λv m ⟨Y,h2⟩=>⟨m,⟨Y,a,h2⟩,aQ⟩⟩
 ·exact⟨7,M,λ_=>rfl,lX (Kw Mm E.dk.quiet ((B7 hno).mono λv m hC=>⟨m,E.not hC,aQ⟩)),λT a ns=>xI (Bp K.runs (fv K) hw)⟩
def Hb(E:Live N S M J σ)(hN:N<=100000)(T:t<18446744073709551616):∃(x:Int) (V:FR.En),(x≠0->V=M)/\dS 37 [aY h,aA 4,aU t,jC] (cr h f e j d p S J σ) (qJ h f e j d N p x V)/\∀O a ns,dS 39 [aY O,aU t] [aZ O a ns M,bx ns] (zp O ns x V):=by
 have I:=E.pair;have K:=I.fine am;rcases I.work t with⟨i,k,u,s,nd,hw,hn⟩|⟨hw,hno⟩
 ·obtain⟨h1,h2,h3⟩:=hw.get I
  obtain⟨hf,hl⟩:=K.fit u (cg hw.run);exact⟨0,M.complete i k u s,λh=>absurd rfl h,lX (Kw Ml E.dk.quiet ((sH I.ok T E.jn (E.roomy hN) h3 (by have:=I.ends;omega)).mono λv m Y=>⟨m,E.call hN (λU hU=>by subst hU;exact⟨I.complete hw hn,.complete T h3⟩) T Y,aQ⟩)),λO a ns=>(sC K.runs (fv K) hw (hw.only I) hl (yd hf) hf.head.2.2 K.NP (by have:=K.ends;omega)).mono λv m ⟨h1,g,c,h2⟩=>⟨m,⟨h1,a.q g c,h2⟩,aQ⟩⟩
 ·exact⟨7,M,λ_=>rfl,lX (Kw Ml E.dk.quiet ((sI hno).mono λv m Y=>⟨m,E.not Y,aQ⟩)),λO a ns=>xI (sD K.runs (fv K) hw)⟩
def fail2(I:Live N S M J σ)(hN:N<=100000)(T:t<18446744073709551616):∃(x:Int) (V:FR.En),(x≠0->V=M)/\dS 37 [aY h,aA 5,aU t,jC] (cr h f e j d p S J σ) (qJ h f e j d N p x V)/\∀K a ns,dS 40 [aY K,aU t] [aZ K a ns M,bx ns] (zp K ns x V):=by
 have E:=I.pair;have O:=E.fine am;rcases E.work t with⟨i,k,u,s,nd,hw,hn⟩|⟨hw,hno⟩
 ·obtain⟨h1,h2,h3⟩:=hw.get E
  exact⟨0,M.fails i k u s nd,λh=>absurd rfl h,lX (Kw Mk I.dk.quiet ((B3 E.ok T I.jn (I.roomy hN) h3 (by have:=E.sets;omega) (by have:=E.ends;omega)).mono λv m Y=>⟨m,I.call hN (λU hU=>by subst hU;exact⟨E.fail hw hn,.fail T h3⟩) T Y,aQ⟩)),λK a ns=>(Bf O.runs (fv O) hw (hw.only E) (rN O hw.run hw.step hn)).mono λv m ⟨h1,g,c,h2⟩=>⟨m,⟨h1,a.q g c,h2⟩,aQ⟩⟩
 ·exact⟨7,M,λ_=>rfl,lX (Kw Mk I.dk.quiet ((B4 hno).mono λv m Y=>⟨m,I.not Y,aQ⟩)),λK a ns=>xI (Bg O.runs (fv O) hw)⟩
def LU(K:Live N S M J σ)(hN:N<=100000)(ht:t<18446744073709551616):∃(x:Int) (V:FR.En),(x≠0->V=M)/\dS 37 [aY h,aA 6,aU t,jC] (cr h f e j d p S J σ) (qJ h f e j d N p x V)/\∀I a ns,dS 41 [aY I,aU t] [aZ I a ns M,bx ns] (zp I ns x V):=by
 have T:=K.pair;have hF:=T.fine am
 by_cases hx:∃(i:Nat) (u:FR.Rn),M.runs[i]?=some u/\u.id=t
 ·obtain⟨i,u,O,rfl⟩:=hx
  have hR:=T.sim.toAb.get O;have hr:=λ(I:Nat) (a:RfA) (ns:List ND)=>((vP (G:=Good) (e:=I) (a:=a) (ns:=ns) hF.runs T.nd O (by have:=hF.ends;omega) (fv hF u (cg O)) (by have:=hF.NP;omega)).frame [bx ns])
  by_cases E:u.state=1
  ·exact⟨0,M.endr i u 4,λh=>absurd rfl h,lX (Kw Hz K.dk.quiet ((vV T.ok ht K.jn (K.roomy hN) hR E (by have:=T.ends;omega)).mono λv m Y=>⟨m,K.call hN (λU hU=>by subst hU;exact⟨T.cancel O E,.cancel ht hR⟩) ht Y,aQ⟩)),λI a ns=>(hr I a ns).mono λv m ⟨m',hm,e⟩=>by
    obtain⟨h1,g,c,rfl⟩:=hm.2 E;exact⟨m,⟨h1,a.q g c,e⟩,aQ⟩⟩
  ·exact⟨6,M,λ_=>rfl,lX (Kw Hz K.dk.quiet ((pf λR h=>by rw[hR]at h;injection h with h;subst h;exact E).mono λv m Y=>⟨m,K.not Y,aQ⟩)),λI a ns=>(hr I a ns).mono λv m ⟨m',hm,e⟩=>by
    obtain⟨h1,rfl⟩:=hm.1 E;exact⟨m,⟨h1,a,e⟩,aQ⟩⟩
 ·exact⟨6,M,λ_=>rfl,lX (Kw Hz K.dk.quiet ((pf λR h=>by obtain⟨i,u,O,e,_⟩:=T.sim.toAb.back h;exact absurd ⟨i,u,O,e⟩ hx).mono λv m Y=>⟨m,K.not Y,aQ⟩)),λI a ns=>xI (vQ hF.runs λu O e=>by obtain⟨i,hi⟩:=List.getElem?_of_mem O;exact hx ⟨i,u,hi,e⟩)⟩
def seed2(E:Live N S M J σ)(K:N<=100000)(I:t<18446744073709551616):dS 37 [aY h,aA 8,aU t,jC] (cr h f e j d p S J σ) (qJ h f e j d N p 0 {M with seed:=t}):=
 lX (Kw hdo8G E.dk.quiet ((D7 I E.jn (E.roomy K)).mono λv m O=>⟨m,E.call K (λU T=>by subst T;exact⟨E.pair.seed I,.seed I⟩) I O,aQ⟩))
def tick2(E:Live N S M J σ)(Y:N<=100000)(K:t<18446744073709551616):dS 37 [aY h,aA 7,aU t,jC] (cr h f e j d p S J σ) λv m=>v=aA 0/\∃U V J' σ',Live (N+1) U V J' σ'/\m=cr h f e j d p U J' σ'/\∀O a ns,dS 42 [aY O,aU t] [aZ O a ns M,bx ns] λv m=>v=.tuple #[]/\∃a,m=[aZ O a ns V,bx ns]:=by
 have I:=E.pair;have hF:=I.fine am;refine(DS I.ok K E.jn E.jb (E.roomy Y) E.dk.quiet (by have:=I.sets;omega) (by have:=I.ends;omega)).mono ?_;rintro v m ⟨rfl,U,hT,rfl⟩;obtain⟨k,V,hV,T⟩:=I.tick am (FK.nP S t) hT;refine⟨_,⟨rfl,U,V,J,_,E.noted Y T 7 K (.tick K hT),rfl,λO a ns=>?_⟩,aQ⟩;have e:S.later t=min (M.time+t) 4611686018427387904:=by unfold FK.En.later;rw[I.sim.now]
 rw[e]at hV;exact(De t K hF.time hV).mono λv m ⟨h1,g,c,h2⟩=>⟨m,⟨h1,a.q g c,h2⟩,aQ⟩
def poll2(O:Live N S M J σ)(hN:N<=100000) :
 (dS 35 [aY h,jC] (cr h f e j d p S J σ) (λv m=>v=.tuple #[gA 0 0 0 0,.bool false,aA 0]/\m=cr h f e j d p S J σ)/\∀I a ns,dS 36 [aY I] [aZ I a ns M,bx ns] λv m=>v=.tuple #[gA 0 0 0 0,.bool false]/\∃a,m=[aZ I a ns M,bx ns])\/
 ∃(a:Nat) (b c:Int) (t:Nat) (V:FR.En),(dS 35 [aY h,jC] (cr h f e j d p S J σ) (λv m=>v=.tuple #[gA a b c t,.bool true,aA 0]/\∃U J' σ',Live (N+1) U V J' σ'/\m=cr h f e j d p U J' σ')/\∀I x ns,dS 36 [aY I] [aZ I x ns M,bx ns] λv m=>v=.tuple #[gA a b c t,.bool true]/\∃x,m=[aZ I x ns V,bx ns]):=by
 have E:=O.pair;have Y:=E.fine am;cases hq:M.NP with
 |nil=>
  refine .inl ⟨BJ O.dk.quiet (by rw[E.sim.NP,hq];rfl),λI a ns=>?_⟩;exact((Bb hq).frame [bx ns]).mono λv m ⟨m',⟨h1,h2⟩,h3⟩=>⟨m,⟨h1,a,by rw[h3,h2];rfl⟩,aQ⟩
 |cons y q=>
  obtain⟨i,k,u,s,hu,e1,e2,T,h2⟩:=E.NQ (p:=y) (by rw[hq];exact .head _);obtain⟨y1,y2⟩:=y;subst e1;subst e2;have hR:=E.sim.toAb.get hu;obtain⟨nd,K,_⟩:=E.ok.node hR (FR.gg T);have K:u.fl.NO[k]?=some nd:=K;obtain⟨d6,d7⟩:=E.hand hq hu T K;have hb:=((Y.fit u (cg hu)).1.NO k nd (gfGet.1 K).1 K).1;obtain⟨_,_,⟨c1,c2⟩,⟨c3,c4⟩,_⟩:=hb;have d8:=Y.NM u (cg hu) s (cg T);refine .inr ⟨u.id,k,s.NM+1,M.NK+1,M.hand q i k u s nd,(BI E.ok O.jn O.jb (O.roomy hN) O.dk.quiet d6 hR (FR.gg T) K (by have:=E.sets;omega) (by have:=E.lt;omega)).mono ?_,λI a ns=>?_⟩
  ·rintro v m ⟨rfl,rfl⟩
   exact⟨_,⟨by rw[E.sim.lt];rfl,_,J,_,O.noted hN d7 2 fh (.poll d6 hR (FR.gg T) K),rfl⟩,aQ⟩
  ·have:=E.lt
   have:=E.sim.lt;refine(Ba Y.runs E.nd hq hu T K (by have:=Y.NP;omega) Y.time am am am (by have:=Y.timers;omega) am d8.1 am).mono ?_;rintro v m ⟨rfl,g,c,rfl⟩;exact⟨_,⟨rfl,a.q g c,rfl⟩,aQ⟩
def poll3(O:Live N S M J σ)(hN:N<=100000):∃(a:Nat) (b c:Int) (t:Nat) (ok:Bool) (V:FR.En),(ok=false->V=M/\a=0/\b=0/\c=0/\t=0)/\(dS 35 [aY h,jC] (cr h f e j d p S J σ) (λv m=>v=.tuple #[gA a b c t,.bool ok,aA 0]/\∃U T Y,Live (N+1) U V T Y/\m=cr h f e j d p U T Y))/\∀E x ns,dS 36 [aY E] [aZ E x ns M,bx ns] λv m=>v=.tuple #[gA a b c t,.bool ok]/\∃x,m=[aZ E x ns V,bx ns]:=by
 rcases poll2 (h:=h) (f:=f) (e:=e) (j:=j) (d:=d) (p:=p) O hN with⟨I,K⟩|⟨a,b,c,t,V,I,K⟩
 ·exact⟨0,0,0,0,false,M,λ_=>⟨rfl,rfl,rfl,rfl,rfl⟩,I.mono λv m ⟨e1,e2⟩=>⟨m,⟨e1,S,J,σ,O.succ,e2⟩,aQ⟩,K⟩
 ·exact⟨a,b,c,t,true,V,λh=>Bool.noConfusion h,I,K⟩
def ER{bs:List UInt8}{A:Option Addr}{pb:HP}(O:Live N S M J σ)(hN:N<=100000)(hp:Reads pb A bs)(hA:A=none->bs=[])(hl:bs.length<=20000) :
 ∃(n:Nat) (x d8:Int) (W1:FK.En->FK.Jn->FK.Dsk->Prop) (W2:FR.En->Prop),(∀U E K V,W1 U E K->W2 V->Live (N+1) U V E K/\(x≠0->V=M)/\(x≠0->n=0))/\
  (dS 32 [aY h,.slice A bs.length c,jC] (cr h f e j d p S J σ++[pb]) λv m=>v=.tuple #[aU n,aA x,aA d8]/\∃T U E K,W1 U E K/\m=cr h f e j d T U E K++[pb])/\
  ∀Y a ns,dS 33 [aY Y,.slice A bs.length c] [aZ Y a ns M,bx ns,pb] λv m=>v=.tuple #[aU n,aA x,aA d8]/\∃a' d7 V,W2 V/\(x≠0->d7=ns)/\m=[aZ Y a' d7 V,bx d7,pb]:=by
 have I:=O.pair;have hF:=I.fine am;have f9:=I.lr;have f8:=I.sim.lr;have hQ:=O.dk.quiet;have hR:=λ(Y:Nat) (a:RfA) (ns:List ND)=>yu (e:=Y) (a:=a) (ns:=ns) (c:=c) hp am hF I.nd (λu hu=>by obtain⟨i,hi⟩:=List.getElem?_of_mem hu;have:=(I.ok.low u.id (by rw[I.sim.toAb.keys];exact List.mem_map_of_mem hu)).2;omega) am I.six (by have:=I.ok.queueLe;have e:M.NP.length=S.NP.length:=(by rw[I.sim.NP,List.length_map]);omega);cases hd:FK.nl bs with
 |error xy=>
  obtain⟨x,y⟩:=xy;refine⟨0,x,y,λU E K=>U=S/\E=J/\K=σ,λV=>V=M,?_,?_,λY a ns=>(hR Y a ns).mono ?_⟩
  ·rintro U E K V ⟨rfl,rfl,rfl⟩ rfl
   exact⟨O.succ,λ_=>rfl,λ_=>rfl⟩
  ·refine(uw (aft:=λω=>(some ⟨f,0,none⟩,ω.rested)) hp hA am (λA9 c9 h1 h2=>by rw[nD hQ];exact JP h1 am hd) ?_).mono ?_
   ·rintro n x' a' T U E ω ⟨_,_,_,_,_,_,rfl⟩
    exact fE _ _ _ _ hQ.down
   ·rintro v m ⟨n,x',a',T,U,E,ω,rfl,⟨rfl,rfl,rfl,rfl,rfl,rfl,rfl⟩,rfl⟩
    exact⟨_,⟨rfl,T,U,E,ω,⟨rfl,rfl,rfl⟩,by show _=bE h d f::dO f e j::aP e T U::aS j d E::aI d ω::[pb];rw[hQ.rested]⟩,aQ⟩
  ·rintro v m (⟨x',y',h,rfl,rfl⟩|⟨fl,h,_⟩|⟨fl,M0,a',nd,h,_⟩)
   ·rw[hd]at h
    injection h with h;injection h with h1 h2;subst h1;subst h2;exact⟨_,⟨rfl,a,ns,M,rfl,λ_=>rfl,rfl⟩,aQ⟩
   ·rw[hd]at h;cases h
   ·rw[hd]at h;cases h
 |ok fl=>
  have d6:=dec_fit hd;cases hroom:S.roomy with
  |false=>
   refine⟨0,5,-1,λU E K=>U=S/\E=J/\K=σ,λV=>V=M,?_,?_,λY a ns=>(hR Y a ns).mono ?_⟩
   ·rintro U E K V ⟨rfl,rfl,rfl⟩ rfl
    exact⟨O.succ,λ_=>rfl,λ_=>rfl⟩
   ·refine(uw (aft:=λω=>(some ⟨f,0,none⟩,ω.rested)) hp hA am (λA9 c9 h1 h2=>by rw[nD hQ];exact JO h1 am hd hroom) ?_).mono ?_
    ·rintro n x' a' T U E ω ⟨_,_,_,_,_,_,rfl⟩
     exact fE _ _ _ _ hQ.down
    ·rintro v m ⟨n,x',a',T,U,E,ω,rfl,⟨rfl,rfl,rfl,rfl,rfl,rfl,rfl⟩,rfl⟩
     exact⟨_,⟨rfl,T,U,E,ω,⟨rfl,rfl,rfl⟩,by show _=bE h d f::dO f e j::aP e T U::aS j d E::aI d ω::[pb];rw[hQ.rested]⟩,aQ⟩
   ·rintro v m (⟨x',y',h,_⟩|⟨fl,h,h6,ho,rfl,rfl⟩|⟨fl,M0,a',nd,h,hc,_⟩)
    ·rw[hd]at h;cases h
    ·exact⟨_,⟨rfl,a,ns,M,rfl,λ_=>rfl,rfl⟩,aQ⟩
    ·rw[I.room hc]at hroom;cases hroom
  |true=>
   refine⟨M.NL+1,0,-1,λU E K=>E=J/\K=σ.logs J.n (gD (FK.frame (1::bs)))/\∃S0,FK.Cut S S0/\U=S0.submit fl,λV=>∃M0,FR.Cutd M M0/\V=M0.submit fl,?_,?_,λY a ns=>(hR Y a ns).mono ?_⟩
   ·rintro U E K V ⟨rfl,rfl,S0,hc,rfl⟩ ⟨M0,hm,rfl⟩
    refine⟨⟨I.submit d6 hroom hc hm,?_,O.jn,O.jb,O.j0,O.log hN (by simp only[List.length_cons];omega) (.submit hd d6 am hc λS1 h1=>I.cut_one h1 hc)⟩,λh=>absurd Z h,λh=>absurd Z h⟩;rw[show 100000*(N+1)=100000*N+100000 by omega];refine O.dk.logs _ ?_;have h3:=oM (1::bs) (by simp;omega);rw[pU];simp only[List.length_cons]at h3;omega
   ·have d9:=hQ.add O.jb (gD (FK.frame (1::bs)))
    refine(uw (aft:=λω=>(some ⟨f,0,none⟩,ω.rested)) hp hA am (λA9 c9 h1 h2=>by rw[nD hQ];exact(yM I.ok O.jn (O.roomy hN) h1 h2 am hd d6 hroom (by have:=I.sets;omega) am).mono λv m hm=>⟨m,hm.to,aQ⟩) ?_).mono ?_
    ·rintro n x' a' T U E ω ⟨_,_,rfl,_⟩
     rw[d9];exact fE _ _ _ _ hQ.down
    ·rintro v m ⟨n,x',a',T,U,E,ω,rfl,⟨rfl,rfl,rfl,rfl,hc⟩,rfl⟩
     rw[d9]at hc ⊢;rcases hc with⟨_,rfl,S0,hc,rfl⟩|⟨h,_⟩
     ·exact⟨_,⟨by rw[f8],T,_,J,σ.logs J.n (gD (FK.frame (1::bs))),⟨rfl,rfl,S0,hc,rfl⟩,by show[db h d _,_,_,_,aI d (σ.logs J.n (gD (FK.frame (1::bs)))).spent.rested,pb]=_;rw[xZ (hQ.logs _ _)];rfl⟩,aQ⟩
     ·exact absurd Z h
   ·rintro v m (⟨x',y',h,_⟩|⟨f7,h,h6,ho,_⟩|⟨f7,M0,a',nd,h,hc,rfl,rfl⟩)
    ·rw[hd]at h;cases h
    ·rw[I.full ⟨h6,ho⟩]at hroom;cases hroom
    ·rw[hd]at h
     injection h with h;subst h;exact⟨_,⟨rfl,a',_,_,⟨M0,hc,rfl⟩,λh=>absurd Z h,rfl⟩,aQ⟩
end
end
abbrev dA:Value:=.pointer none
abbrev gh(w h f e j d:Nat)(p:EA)(S:FK.En)(J:FK.Jn)(σ:FK.Dsk)(eb:Nat)(a:RfA)(ns:List ND)(M:FR.En):List HP:=cr h f e j d p S J σ++[cH w h (aY eb) dA false false,aZ eb a ns M,bx ns]
abbrev da(K:Int)(n:Nat)(dl:Int)(nv sv:Value):List Value:=[aA K,aU n,aA dl,nv,sv,aA (-1),aA (-1),aA 0,aA 0]
abbrev lJ(K:Int)(n:Nat)(dl:Int)(nv sv:Value):Value:=.agg (da K n dl nv sv).toArray
def j6{nv sv:Value}:∀j v,(ct (-1) (-1) 0 0)[j]?=some v->(da K n dl nv sv).toArray[5+j]?=some v:=λj v h=>by
 match j,h with
 |0,h=>exact h
 |1,h=>exact h
 |2,h=>exact h
 |3,h=>exact h
 |_+4,h=>cases h
def Lz{nv sv:Value}:∀j v,([aA dl,nv]:List Value)[j]?=some v->(da K n dl nv sv).toArray[2+j]?=some v:=λj v h=>by
 match j,h with
 |0,h=>exact h
 |1,h=>exact h
 |_+2,h=>cases h
def Stepped(w h f e j d N:Nat)(c:List HP)(v:Value)(m:List HP):Prop:=v=.bool true/\∃p U E I eb a ns V,Live (N+1) U V E I/\m=gh w h f e j d p U E I eb a ns V++c
abbrev back(a b:Nat):Nat:=(((a:Int)-b)%18446744073709551616).toNat
def fC{w:Nat}{mv O:Value}{T:Bool}:dS 34 [aY w,aY n,aA x,aA x] [cH w h mv O T false] λv m=>v=.bool true/\m=[cH w h (if x=0 then aY n else mv) O T false]:=by
 refine bz func34 Z λE fr Y=>ae<|sS<|sB Z<|sQ<|sQ ?_
 by_cases I:x=0
 ·refine sG<|bY Z (cy (r:=false) Z Z (by simp[I]))<|sN<|ag Z<|aa<|sT<|sQ<|bp Z<|sP (bc (r:=true) Z Z (by simp[I]))<|sN<|aK Z<|bp Z<|sM Z<|cZ Z<|bm 1 Z<|bD Z Z Z Z fW<|sN<|sS<|cE 4 Z Z<|bF (au (v:=.bool false) Z) (ah Z)<|sP (cA Z Z)<|sB Z<|an<|aD<|ar [cH w h (if x=0 then aY n else mv) O T false] rfl Z ec (by rw[if_pos I];exact aQ)
 ·refine sG<|bY Z (cy (r:=true) Z Z (by simp[I]))<|sN<|aK Z<|bp Z<|bY Z (bc (r:=true) Z Z di)<|sB Z<|an<|aD<|ar [cH w h (if x=0 then aY n else mv) O T false] rfl Z ec (by rw[if_neg I];exact aQ)
section
variable{w j:Nat}{nv sv:Value}
def CT(hL:Live N S M J σ)(hN:N<=100000):dS 12 [aY w,lJ 4 n dl nv sv] (gh w h f e j d p S J σ eb a ns M) (Stepped w h f e j d N []):=by
 have hP:=hL.pair;have hF:=hP.fine am;obtain⟨x,V,hx,hH,hR⟩:=beat2 (h:=h) (f:=f) (e:=e) (j:=j) (d:=d) (p:=p) hL hN (t:=back M.NK n) (by unfold back;omega);refine bz func12 Z λE fr hE=>ge<|sS<|sO (cP Z Z λT=>(aB T (da 4 n dl nv sv).toArray Z (sB Z (sS (sM Z (cZ Z (bm 1 Z (bF (au (v:=aY eb) Z) (ah Z) (bQ Z (fZ hF hP.nd) sw ?_)))))))))
 rintro v m ⟨e2,Y,rfl,rfl⟩;refine aE<|ao (l':=bE h d f::dO f e j::aP e p S::aS j d J::aI d σ::aZ eb a ns M::aZ e2 Y ns M::bx ns::cH w h (aY eb) dA false false::blk T 48 (da 4 n dl nv sv).toArray::fr) (by show Ent (aZ eb a ns M::aZ e2 Y ns M::blk T 48 (da 4 n dl nv sv).toArray::bE h d f::dO f e j::aP e p S::aS j d J::aI d σ::cH w h (aY eb) dA false false::bx ns::fr) _;exact aG)<|sB Z<|sQ<|sS<|bm 0 Z<|bF (au (v:=aA 4) Z) (ah Z)<|sN<|ai<|sQ<|sS<|sP (bc Z Z Z)<|sB Z<|ag Z<|sG<|sP (bc Z Z Z)<|sB Z<|ag Z<|sS<|sP (bc Z Z Z)<|sB Z<|ag Z<|sS<|sP (bc Z Z Z)<|sB Z<|aK Z<|sQ<|sZ Z<|ea Z Z<|dy 1 Z Z Z<|bN Z (au (v:=aY eb) Z) (ah Z)<|dy 5 Z Z Z<|bN Z (au (v:=aU M.NK) Z) (ck Z)<|bB Z (bd 1 Z)<|bN Z (au (v:=aU n) Z) (ah Z)<|dx 9 Z (dd (r:=((back M.NK n:Nat):Int)) Z Z (by rw[li];unfold back;omega))<|dx 10 Z (aX Z)<|dE<|sT<|sQ<|sZ Z<|ea Z Z<|dy 0 Z Z Z<|bN Z (au (v:=aY h) Z) (ah Z)<|cC Z Z<|bB Z (bd 5 Z)<|bN Z (bR (vs:=ct (-1) (-1) 0 0) Z) (kF j6)<|dI 7 Z<|dP Z hH aQ ?_
 rintro v m ⟨rfl,U,I,K,O,rfl⟩;refine ao (l':=bE h d f::dO f e j::aP e p U::aS j d I::aI d K::aZ eb a ns M::aZ e2 Y ns M::bx ns::cH w h (aY eb) dA false false::blk T 48 (da 4 n dl nv sv).toArray::fr) aQ<|dK [false,false] ak<|dx 8 Z (aX Z)<|dE<|sT<|bp Z<|sM Z<|bQ Z (hR e2 Y ns) (bo oX oX) ?_
 rintro v m ⟨rfl,a3,rfl⟩;refine aE<|sB Z<|bp Z<|sM Z<|sM Z<|sM Z<|bV Z fC zh<|ae<|sB Z<|an<|aJ<|aD ?_
 by_cases h0:x=0
 ·subst h0
  refine ar (gh w h f e j d p U I K e2 a3 ns V++[]) Z Z ⟨rfl,p,U,I,K,e2,a3,ns,V,O,rfl⟩ ?_;rw[if_pos rfl];exact aG
 ·obtain rfl:=hx h0
  refine ar (gh w h f e j d p U I K eb a ns V++[]) Z Z ⟨rfl,p,U,I,K,eb,a,ns,V,O,rfl⟩ ?_;rw[if_neg h0];exact aG
def CS(hL:Live N S M J σ)(hN:N<=100000):dS 12 [aY w,lJ 5 n dl nv sv] (gh w h f e j d p S J σ eb a ns M) (Stepped w h f e j d N []):=by
 have hP:=hL.pair;have hF:=hP.fine am;obtain⟨x,V,hx,hH,hR⟩:=Hb (h:=h) (f:=f) (e:=e) (j:=j) (d:=d) (p:=p) hL hN (t:=back M.NK n) (by unfold back;omega);refine bz func12 Z λE fr hE=>ge<|sS<|sO (cP Z Z λT=>(aB T (da 5 n dl nv sv).toArray Z (sB Z (sS (sM Z (cZ Z (bm 1 Z (bF (au (v:=aY eb) Z) (ah Z) (bQ Z (fZ hF hP.nd) sw ?_)))))))))
 rintro v m ⟨e2,Y,rfl,rfl⟩;refine aE<|ao (l':=bE h d f::dO f e j::aP e p S::aS j d J::aI d σ::aZ eb a ns M::aZ e2 Y ns M::bx ns::cH w h (aY eb) dA false false::blk T 48 (da 5 n dl nv sv).toArray::fr) (by show Ent (aZ eb a ns M::aZ e2 Y ns M::blk T 48 (da 5 n dl nv sv).toArray::bE h d f::dO f e j::aP e p S::aS j d J::aI d σ::cH w h (aY eb) dA false false::bx ns::fr) _;exact aG)<|sB Z<|sQ<|sS<|bm 0 Z<|bF (au (v:=aA 5) Z) (ah Z)<|sN<|ai<|sQ<|sS<|sP (bc Z Z Z)<|sB Z<|ag Z<|sG<|sP (bc Z Z Z)<|sB Z<|ag Z<|sS<|sP (bc Z Z Z)<|sB Z<|ag Z<|sS<|sP (bc Z Z Z)<|sB Z<|ag Z<|sQ<|sG<|sP (bc Z Z Z)<|sB Z<|aK Z<|sQ<|sZ Z<|ea Z Z<|dy 1 Z Z Z<|bN Z (au (v:=aY eb) Z) (ah Z)<|dy 5 Z Z Z<|bN Z (au (v:=aU M.NK) Z) (ck Z)<|bB Z (bd 1 Z)<|bN Z (au (v:=aU n) Z) (ah Z)<|dx 9 Z (dd (r:=((back M.NK n:Nat):Int)) Z Z (by rw[li];unfold back;omega))<|dx 10 Z (aX Z)<|dE<|sT<|sQ<|sZ Z<|ea Z Z<|dy 0 Z Z Z<|bN Z (au (v:=aY h) Z) (ah Z)<|cC Z Z<|bB Z (bd 5 Z)<|bN Z (bR (vs:=ct (-1) (-1) 0 0) Z) (kF j6)<|dI 7 Z<|dP Z hH aQ ?_
 rintro v m ⟨rfl,U,I,K,O,rfl⟩;refine ao (l':=bE h d f::dO f e j::aP e p U::aS j d I::aI d K::aZ eb a ns M::aZ e2 Y ns M::bx ns::cH w h (aY eb) dA false false::blk T 48 (da 5 n dl nv sv).toArray::fr) aQ<|dK [false,false] ak<|dx 8 Z (aX Z)<|dE<|sT<|bp Z<|sM Z<|bQ Z (hR e2 Y ns) (bo oX oX) ?_
 rintro v m ⟨rfl,a3,rfl⟩;refine aE<|sB Z<|bp Z<|sM Z<|sM Z<|sM Z<|bV Z fC zh<|ae<|sB Z<|an<|aJ<|aD ?_
 by_cases h0:x=0
 ·subst h0
  refine ar (gh w h f e j d p U I K e2 a3 ns V++[]) Z Z ⟨rfl,p,U,I,K,e2,a3,ns,V,O,rfl⟩ ?_;rw[if_pos rfl];exact aG
 ·obtain rfl:=hx h0
  refine ar (gh w h f e j d p U I K eb a ns V++[]) Z Z ⟨rfl,p,U,I,K,eb,a,ns,V,O,rfl⟩ ?_;rw[if_neg h0];exact aG
def CR(hL:Live N S M J σ)(hN:N<=100000):dS 12 [aY w,lJ 6 n dl nv sv] (gh w h f e j d p S J σ eb a ns M) (Stepped w h f e j d N []):=by
 have hP:=hL.pair;have hF:=hP.fine am;obtain⟨x,V,hx,hH,hR⟩:=fail2 (h:=h) (f:=f) (e:=e) (j:=j) (d:=d) (p:=p) hL hN (t:=back M.NK n) (by unfold back;omega);refine bz func12 Z λE fr hE=>ge<|sS<|sO (cP Z Z λT=>(aB T (da 6 n dl nv sv).toArray Z (sB Z (sS (sM Z (cZ Z (bm 1 Z (bF (au (v:=aY eb) Z) (ah Z) (bQ Z (fZ hF hP.nd) sw ?_)))))))))
 rintro v m ⟨e2,Y,rfl,rfl⟩;refine aE<|ao (l':=bE h d f::dO f e j::aP e p S::aS j d J::aI d σ::aZ eb a ns M::aZ e2 Y ns M::bx ns::cH w h (aY eb) dA false false::blk T 48 (da 6 n dl nv sv).toArray::fr) (by show Ent (aZ eb a ns M::aZ e2 Y ns M::blk T 48 (da 6 n dl nv sv).toArray::bE h d f::dO f e j::aP e p S::aS j d J::aI d σ::cH w h (aY eb) dA false false::bx ns::fr) _;exact aG)<|sB Z<|sQ<|sS<|bm 0 Z<|bF (au (v:=aA 6) Z) (ah Z)<|sN<|ai<|sQ<|sS<|sP (bc Z Z Z)<|sB Z<|ag Z<|sG<|sP (bc Z Z Z)<|sB Z<|ag Z<|sS<|sP (bc Z Z Z)<|sB Z<|ag Z<|sS<|sP (bc Z Z Z)<|sB Z<|ag Z<|sQ<|sG<|sP (bc Z Z Z)<|sB Z<|ag Z<|sS<|sP (bc Z Z Z)<|sB Z<|aK Z<|sQ<|sZ Z<|ea Z Z<|dy 1 Z Z Z<|bN Z (au (v:=aY eb) Z) (ah Z)<|bB Z (cI Z)<|dx 5 Z (bd 5 Z)<|bN Z (au (v:=aU M.NK) Z) (ck Z)<|bB Z (bd 1 Z)<|bN Z (au (v:=aU n) Z) (ah Z)<|dx 9 Z (dd (r:=((back M.NK n:Nat):Int)) Z Z (by rw[li];unfold back;omega))<|dx 10 Z (aX Z)<|dE<|sT<|sQ<|sZ Z<|ea Z Z<|dy 0 Z Z Z<|bN Z (au (v:=aY h) Z) (ah Z)<|cC Z Z<|bB Z (bd 5 Z)<|bN Z (bR (vs:=ct (-1) (-1) 0 0) Z) (kF j6)<|dI 7 Z<|dP Z hH aQ ?_
 rintro v m ⟨rfl,U,I,K,O,rfl⟩;refine ao (l':=bE h d f::dO f e j::aP e p U::aS j d I::aI d K::aZ eb a ns M::aZ e2 Y ns M::bx ns::cH w h (aY eb) dA false false::blk T 48 (da 6 n dl nv sv).toArray::fr) aQ<|dK [false,false] ak<|dx 8 Z (aX Z)<|dE<|sT<|bp Z<|sM Z<|bQ Z (hR e2 Y ns) (bo oX oX) ?_
 rintro v m ⟨rfl,a3,rfl⟩;refine aE<|sB Z<|bp Z<|sM Z<|sM Z<|sM Z<|bV Z fC zh<|ae<|sB Z<|an<|aJ<|aD ?_
 by_cases h0:x=0
 ·subst h0
  refine ar (gh w h f e j d p U I K e2 a3 ns V++[]) Z Z ⟨rfl,p,U,I,K,e2,a3,ns,V,O,rfl⟩ ?_;rw[if_pos rfl];exact aG
 ·obtain rfl:=hx h0
  refine ar (gh w h f e j d p U I K eb a ns V++[]) Z Z ⟨rfl,p,U,I,K,eb,a,ns,V,O,rfl⟩ ?_;rw[if_neg h0];exact aG
def CQ(hL:Live N S M J σ)(hN:N<=100000):dS 12 [aY w,lJ 7 n dl nv sv] (gh w h f e j d p S J σ eb a ns M) (Stepped w h f e j d N []):=by
 have hP:=hL.pair;have hF:=hP.fine am;obtain⟨x,V,hx,hH,hR⟩:=LU (h:=h) (f:=f) (e:=e) (j:=j) (d:=d) (p:=p) hL hN (t:=back M.NL n) (by unfold back;omega);refine bz func12 Z λE fr hE=>ge<|sS<|sO (cP Z Z λT=>(aB T (da 7 n dl nv sv).toArray Z (sB Z (sS (sM Z (cZ Z (bm 1 Z (bF (au (v:=aY eb) Z) (ah Z) (bQ Z (fZ hF hP.nd) sw ?_)))))))))
 rintro v m ⟨e2,Y,rfl,rfl⟩;refine aE<|ao (l':=bE h d f::dO f e j::aP e p S::aS j d J::aI d σ::aZ eb a ns M::aZ e2 Y ns M::bx ns::cH w h (aY eb) dA false false::blk T 48 (da 7 n dl nv sv).toArray::fr) (by show Ent (aZ eb a ns M::aZ e2 Y ns M::blk T 48 (da 7 n dl nv sv).toArray::bE h d f::dO f e j::aP e p S::aS j d J::aI d σ::cH w h (aY eb) dA false false::bx ns::fr) _;exact aG)<|sB Z<|sQ<|sS<|bm 0 Z<|bF (au (v:=aA 7) Z) (ah Z)<|sN<|ai<|sQ<|sS<|sP (bc Z Z Z)<|sB Z<|ag Z<|sG<|sP (bc Z Z Z)<|sB Z<|ag Z<|sS<|sP (bc Z Z Z)<|sB Z<|ag Z<|sS<|sP (bc Z Z Z)<|sB Z<|ag Z<|sQ<|sG<|sP (bc Z Z Z)<|sB Z<|ag Z<|sS<|sP (bc Z Z Z)<|sB Z<|ag Z<|sS<|sP (bc Z Z Z)<|sB Z<|aK Z<|sQ<|sZ Z<|ea Z Z<|dy 1 Z Z Z<|bN Z (au (v:=aY eb) Z) (ah Z)<|dy 4 Z Z Z<|bN Z (au (v:=aU M.NL) Z) (ck Z)<|bB Z (bd 1 Z)<|bN Z (au (v:=aU n) Z) (ah Z)<|dx 9 Z (dd (r:=((back M.NL n:Nat):Int)) Z Z (by rw[li];unfold back;omega))<|dx 10 Z (aX Z)<|dE<|sT<|sQ<|sZ Z<|ea Z Z<|dy 0 Z Z Z<|bN Z (au (v:=aY h) Z) (ah Z)<|cC Z Z<|bB Z (bd 5 Z)<|bN Z (bR (vs:=ct (-1) (-1) 0 0) Z) (kF j6)<|dI 7 Z<|dP Z hH aQ ?_
 rintro v m ⟨rfl,U,I,K,O,rfl⟩;refine ao (l':=bE h d f::dO f e j::aP e p U::aS j d I::aI d K::aZ eb a ns M::aZ e2 Y ns M::bx ns::cH w h (aY eb) dA false false::blk T 48 (da 7 n dl nv sv).toArray::fr) aQ<|dK [false,false] ak<|dx 8 Z (aX Z)<|dE<|sT<|bp Z<|sM Z<|bQ Z (hR e2 Y ns) (bo oX oX) ?_
 rintro v m ⟨rfl,a3,rfl⟩;refine aE<|sB Z<|bp Z<|sM Z<|sM Z<|sM Z<|bV Z fC zh<|ae<|sB Z<|an<|aJ<|aD ?_
 by_cases h0:x=0
 ·subst h0
  refine ar (gh w h f e j d p U I K e2 a3 ns V++[]) Z Z ⟨rfl,p,U,I,K,e2,a3,ns,V,O,rfl⟩ ?_;rw[if_pos rfl];exact aG
 ·obtain rfl:=hx h0
  refine ar (gh w h f e j d p U I K eb a ns V++[]) Z Z ⟨rfl,p,U,I,K,eb,a,ns,V,O,rfl⟩ ?_;rw[if_neg h0];exact aG
end
def tz{a:Nat}{b c:Int}{t:Nat}:kA prog (ci a b c t).toArray (ci a b c t).toArray (prog.fieldsOf 95).toList=some true:=by
 have:=Fu (a,b,c,t) (a,b,c,t);simpa using this
section
variable{w j:Nat}{nv sv:Value}
def CP(hL:Live N S M J σ)(hN:N<=100000)(hn:n<18446744073709551616):dS 12 [aY w,lJ 8 n dl nv sv] (gh w h f e j d p S J σ eb a ns M) (Stepped w h f e j d N []):=by
 have hP:=hL.pair;have hF:=hP.fine am;refine bz func12 Z λE fr hE=>ge<|sS<|sO (cP Z Z λK=>(aB K (da 8 n dl nv sv).toArray Z (sB Z (sS (sM Z (cZ Z (bm 1 Z (bF (au (v:=aY eb) Z) (ah Z) (bQ Z (fZ hF hP.nd) sw ?_)))))))))
 rintro v m ⟨e2,I,rfl,rfl⟩;refine aE<|ao (l':=bE h d f::dO f e j::aP e p S::aS j d J::aI d σ::aZ eb a ns M::aZ e2 I ns M::bx ns::cH w h (aY eb) dA false false::blk K 48 (da 8 n dl nv sv).toArray::fr) (by show Ent (aZ eb a ns M::aZ e2 I ns M::blk K 48 (da 8 n dl nv sv).toArray::bE h d f::dO f e j::aP e p S::aS j d J::aI d σ::cH w h (aY eb) dA false false::bx ns::fr) _;exact aG)<|sB Z<|sQ<|sS<|bm 0 Z<|bF (au (v:=aA 8) Z) (ah Z)<|sN<|ai<|sQ<|sS<|sP (bc Z Z Z)<|sB Z<|ag Z<|sG<|sP (bc Z Z Z)<|sB Z<|ag Z<|sS<|sP (bc Z Z Z)<|sB Z<|ag Z<|sS<|sP (bc Z Z Z)<|sB Z<|ag Z<|sQ<|sG<|sP (bc Z Z Z)<|sB Z<|ag Z<|sS<|sP (bc Z Z Z)<|sB Z<|ag Z<|sS<|sP (bc Z Z Z)<|sB Z<|ag Z<|sS<|sP (bc Z Z Z)<|sB Z<|aK Z<|sQ<|sZ Z<|ea Z Z<|dy 0 Z Z Z<|bN Z (au (v:=aY h) Z) (ah Z)<|bB Z (bd 1 Z)<|bN Z (au (v:=aU n) Z) (ah Z)<|bB Z (bd 5 Z)<|bN Z (bR (vs:=ct (-1) (-1) 0 0) Z) (kF j6)<|dI 8 Z<|dP Z (seed2 hL hN hn) aQ ?_
 rintro v m ⟨rfl,U,O,T,Y,rfl⟩;refine ao (l':=aZ e2 I ns M::bx ns::bE h d f::dO f e j::aP e p U::aS j d O::aI d T::aZ eb a ns M::cH w h (aY eb) dA false false::blk K 48 (da 8 n dl nv sv).toArray::fr) (by show Ent (bE h d f::dO f e j::aP e p U::aS j d O::aI d T::aZ eb a ns M::aZ e2 I ns M::bx ns::cH w h (aY eb) dA false false::blk K 48 (da 8 n dl nv sv).toArray::fr) _;exact aG)<|dK [false,false,false] ak<|dx 9 Z (aX Z)<|dE<|sT<|bp Z<|bm 1 Z<|bF (au (v:=aU n) Z) (ah Z)<|cZ Z<|bm 1 Z<|sO<|tO (a:=I) (M:=M) (M':={M with seed:=n}) Z Z Z am Z Z Z Z<|sN<|bp Z<|sM Z<|sM Z<|bV Z fC zh<|ae ?_
 rw[if_pos rfl];refine sB Z<|an<|aJ<|aD<|ar (gh w h f e j d p U O T e2 I ns {M with seed:=n}++[]) Z Z ⟨rfl,p,U,O,T,e2,I,ns,{M with seed:=n},Y,rfl⟩ ?_
 exact aG
def CO(hL:Live N S M J σ)(hN:N<=100000)(hn:n<18446744073709551616):dS 12 [aY w,lJ 9 n dl nv sv] (gh w h f e j d p S J σ eb a ns M) (Stepped w h f e j d N []):=by
 have hP:=hL.pair;have hF:=hP.fine am;refine bz func12 Z λE fr hE=>ge<|sS<|sO (cP Z Z λI=>(aB I (da 9 n dl nv sv).toArray Z (sB Z (sS (sM Z (cZ Z (bm 1 Z (bF (au (v:=aY eb) Z) (ah Z) (bQ Z (fZ hF hP.nd) sw ?_)))))))))
 rintro v m ⟨e2,K,rfl,rfl⟩;refine aE<|ao (l':=bE h d f::dO f e j::aP e p S::aS j d J::aI d σ::aZ eb a ns M::aZ e2 K ns M::bx ns::cH w h (aY eb) dA false false::blk I 48 (da 9 n dl nv sv).toArray::fr) (by show Ent (aZ eb a ns M::aZ e2 K ns M::blk I 48 (da 9 n dl nv sv).toArray::bE h d f::dO f e j::aP e p S::aS j d J::aI d σ::cH w h (aY eb) dA false false::bx ns::fr) _;exact aG)<|sB Z<|sQ<|sS<|bm 0 Z<|bF (au (v:=aA 9) Z) (ah Z)<|sN<|ai<|sQ<|sS<|sP (bc Z Z Z)<|sB Z<|ag Z<|sG<|sP (bc Z Z Z)<|sB Z<|ag Z<|sS<|sP (bc Z Z Z)<|sB Z<|ag Z<|sS<|sP (bc Z Z Z)<|sB Z<|ag Z<|sQ<|sG<|sP (bc Z Z Z)<|sB Z<|ag Z<|sS<|sP (bc Z Z Z)<|sB Z<|ag Z<|sS<|sP (bc Z Z Z)<|sB Z<|ag Z<|sS<|sP (bc Z Z Z)<|sB Z<|ag Z<|sS<|sP (bc Z Z Z)<|sB Z<|aK Z<|sQ<|sZ Z<|ea Z Z<|dy 0 Z Z Z<|bN Z (au (v:=aY h) Z) (ah Z)<|dx 4 Z (bd 1 Z)<|bN Z (au (v:=aU n) Z) (ah Z)<|bB Z (bd 5 Z)<|bN Z (bR (vs:=ct (-1) (-1) 0 0) Z) (kF j6)<|dI 8 Z<|dP Z (tick2 hL hN hn) aQ ?_
 rintro v m ⟨rfl,U,V,O,T,Y,rfl,hR⟩;refine ao (l':=bE h d f::dO f e j::aP e p U::aS j d O::aI d T::aZ eb a ns M::aZ e2 K ns M::bx ns::cH w h (aY eb) dA false false::blk I 48 (da 9 n dl nv sv).toArray::fr) aQ<|dK [false,false,false] ak<|dx 9 Z (aX Z)<|dE<|sT<|bp Z<|bm 1 Z<|bF (au (v:=aU n) Z) (ah Z)<|bQ Z (hR e2 K ns) (bo oX oX) ?_
 rintro v m ⟨rfl,a3,rfl⟩;refine aE<|sN<|bp Z<|sM Z<|sM Z<|bV Z fC zh<|ae ?_
 rw[if_pos rfl];refine sB Z<|an<|aJ<|aD<|ar (gh w h f e j d p U O T e2 a3 ns V++[]) Z Z ⟨rfl,p,U,O,T,e2,a3,ns,V,Y,rfl⟩ ?_
 exact aG
def CX(I:∀i:Int,1<=i->i<=10->K≠i)(T:Live N S M J σ)(hN:N<=100000):dS 12 [aY w,lJ K n dl nv sv] (gh w h f e j d p S J σ eb a ns M) (Stepped w h f e j d N []):=by
 have hP:=T.pair;have hF:=hP.fine am;refine bz func12 Z λE fr hE=>ge<|sS<|sO (cP Z Z λO=>(aB O (da K n dl nv sv).toArray Z (sB Z (sS (sM Z (cZ Z (bm 1 Z (bF (au (v:=aY eb) Z) (ah Z) (bQ Z (fZ hF hP.nd) sw ?_)))))))))
 rintro v m ⟨e2,Y,rfl,rfl⟩;refine aE<|ao (l':=bE h d f::dO f e j::aP e p S::aS j d J::aI d σ::aZ eb a ns M::aZ e2 Y ns M::bx ns::cH w h (aY eb) dA false false::blk O 48 (da K n dl nv sv).toArray::fr) (by show Ent (aZ eb a ns M::aZ e2 Y ns M::blk O 48 (da K n dl nv sv).toArray::bE h d f::dO f e j::aP e p S::aS j d J::aI d σ::cH w h (aY eb) dA false false::bx ns::fr) _;exact aG)<|sB Z<|sQ<|sS<|bm 0 Z<|bF (au (v:=aA K) Z) (ah Z)<|sN<|ai<|sQ<|sS<|sP (bc (r:=false) Z Z (qF (I 1 fh fh)))<|sB Z<|ag Z<|sG<|sP (bc (r:=false) Z Z (qF (I 2 fh fh)))<|sB Z<|ag Z<|sS<|sP (bc (r:=false) Z Z (qF (I 3 fh fh)))<|sB Z<|ag Z<|sS<|sP (bc (r:=false) Z Z (qF (I 4 fh fh)))<|sB Z<|ag Z<|sQ<|sG<|sP (bc (r:=false) Z Z (qF (I 5 fh fh)))<|sB Z<|ag Z<|sS<|sP (bc (r:=false) Z Z (qF (I 6 fh fh)))<|sB Z<|ag Z<|sS<|sP (bc (r:=false) Z Z (qF (I 7 fh fh)))<|sB Z<|ag Z<|sS<|sP (bc (r:=false) Z Z (qF (I 8 fh fh)))<|sB Z<|ag Z<|sS<|sP (bc (r:=false) Z Z (qF (I 9 fh fh)))<|sB Z<|ag Z<|sS<|sP (bc (r:=false) Z Z (qF (I 10 fh fh)))<|sB Z<|ag Z<|aa<|al<|sT<|sS<|sB Z<|an<|ar (gh w h f e j d p S J σ eb a ns M++[]) Z Z ⟨rfl,p,S,J,σ,eb,a,ns,M,T.succ,rfl⟩ ?_
 exact aG
def CU(hL:Live N S M J σ)(hN:N<=100000):dS 12 [aY w,lJ 3 n dl nv sv] (gh w h f e j d p S J σ eb a ns M) (Stepped w h f e j d N []):=by
 have hP:=hL.pair;have hF:=hP.fine am;obtain⟨K,tb,O,T,ok,V,d8,hH,hR⟩:=poll3 (h:=h) (f:=f) (e:=e) (j:=j) (d:=d) (p:=p) hL hN;refine bz func12 Z λE fr hE=>ge<|sS<|sO (cP Z Z λb3=>(aB b3 (da 3 n dl nv sv).toArray Z (sB Z (sS (sM Z (cZ Z (bm 1 Z (bF (au (v:=aY eb) Z) (ah Z) (bQ Z (fZ hF hP.nd) sw ?_)))))))))
 rintro v m ⟨e2,a2,rfl,rfl⟩;refine aE<|ao (l':=bE h d f::dO f e j::aP e p S::aS j d J::aI d σ::aZ eb a ns M::aZ e2 a2 ns M::bx ns::cH w h (aY eb) dA false false::blk b3 48 (da 3 n dl nv sv).toArray::fr) (by show Ent (aZ eb a ns M::aZ e2 a2 ns M::blk b3 48 (da 3 n dl nv sv).toArray::bE h d f::dO f e j::aP e p S::aS j d J::aI d σ::cH w h (aY eb) dA false false::bx ns::fr) _;exact aG)<|sB Z<|sQ<|sS<|bm 0 Z<|bF (au (v:=aA 3) Z) (ah Z)<|sN<|ai<|sQ<|sS<|sP (bc Z Z Z)<|sB Z<|ag Z<|sG<|sP (bc Z Z Z)<|sB Z<|ag Z<|sS<|sP (bc Z Z Z)<|sB Z<|aK Z<|sQ<|sZ Z<|ea Z Z<|dy 0 Z Z Z<|bN Z (au (v:=aY h) Z) (ah Z)<|bB Z (bd 5 Z)<|bN Z (bR (vs:=ct (-1) (-1) 0 0) Z) (kF j6)<|i7 6 11 Z Z Z Z eS (dP Z hH aQ ?_) (cO (z:=.agg #[cd 0,aA 0,aA 0,cd 0]) Z λI=>?_)
 ·rintro v m ⟨rfl,U,Y,σ',d7,rfl⟩;refine ao (l':=bE h d f::dO f e j::aP e p U::aS j d Y::aI d σ'::aZ eb a ns M::aZ e2 a2 ns M::bx ns::cH w h (aY eb) dA false false::blk b3 48 (da 3 n dl nv sv).toArray::fr) aQ<|dK [false,false] ak<|dx 7 Z (bg Z)<|bB Z (bZ Z Z)<|bB Z (bZ Z Z)<|bB Z (bZ Z Z)<|xx Z (cO (z:=.agg #[cd 0,aA 0,aA 0,cd 0]) Z λI=>(aB I (ci 0 0 0 0).toArray Z (dK [] ak (dI 12 Z<|bk Z (m:=4) (vs:=ci K tb O T) Z Z Z Z eG (by show 0+4<=4;omega) ?_))))
  refine dK [] ak<|dx 13 Z (aX Z)<|bB Z (aX Z)<|dE<|sT<|sQ<|aB I (ci K tb O T).toArray Z<|sG<|sM Z<|bQ Z (hR e2 a2 ns) (bo zg zg) ?_
  rintro v m ⟨rfl,a3,rfl⟩;refine aE<|sM Z<|bG Z Z<|bG Z Z<|sO (cO (z:=.agg #[cd 0,aA 0,aA 0,cd 0]) Z λd6=>(aB d6 (ci 0 0 0 0).toArray Z (sO<|bk Z (m:=4) (vs:=ci K tb O T) Z Z Z Z eG (by show 0+4<=4;omega) ?_)))
  refine aB d6 (ci K tb O T).toArray Z<|sB Z<|sQ<|sQ ?_
  by_cases HQ:ok=false
  ·obtain⟨rfl,rfl,rfl,rfl,rfl⟩:=d8 HQ;subst HQ;refine sG<|bY Z (cA (r:=true) Z Z)<|sN<|aK Z<|bp Z<|sP (cA (r:=true) Z Z)<|sM Z<|cN Z<|bO (bc (r:=true) Z Z Z)<|sP (aF Z Z Z)<|sM Z<|fM (bR (vs:=ci 0 0 0 0) Z) (bl Z)<|bO (bI (ps:=[]) (vs:=[]) (cs:=(ci 0 0 0 0).toArray) Z Z Z Z Z)<|bO (kQ (r:=true) Z eS eS Z Z tz)<|sP (aF Z Z Z)<|sA Z<|sN<|an<|aD<|aJ<|aD<|ar (gh w h f e j d p U Y σ' eb a ns V++[]) Z Z ⟨rfl,p,U,Y,σ',eb,a,ns,V,d7,rfl⟩ ?_
   exact aG
  ·obtain rfl:ok=true:=by simpa using HQ
   refine sG<|bY Z (cA (r:=false) Z Z)<|sN<|ag Z<|aa<|sT<|bp Z<|sM Z<|sM Z<|bV Z fC (Ent.sel (.tail KA))<|ae ?_
   rw[if_pos rfl];refine sB Z<|bp Z<|sM Z<|cN Z<|bO (cy (r:=false) Z Z Z)<|cN Z<|aR Z<|aR Z<|bO (aF Z Z Z)<|cN Z<|aR Z<|aR Z<|aR Z<|bO (aF Z Z Z)<|cN Z<|cN Z<|cN Z<|fM (bR (vs:=ci K tb O T) Z) (bl Z)<|fM (bR (vs:=ci K tb O T) Z) (bl Z)<|bO (kQ (r:=true) Z eS eS Z Z tz)<|bO (aF Z Z Z)<|bO (aF Z Z Z)<|sP (aF Z Z Z)<|sB Z<|an<|aJ<|aD<|ar (gh w h f e j d p U Y σ' e2 a3 ns V++[]) Z Z ⟨rfl,p,U,Y,σ',e2,a3,ns,V,d7,rfl⟩ ?_
   exact aG
 ·refine aB I (ci 0 0 0 0).toArray Z<|dK [true,true] (aj (kF j6) (aj (ah Z) ak)) ?_
  refine dI 6 Z<|dP Z hH (eJ (l:=cr h f e j d p S J σ)) ?_
  rintro v m ⟨rfl,U,Y,σ',d7,rfl⟩;refine ao (l':=blk I 95 (ci 0 0 0 0).toArray::bE h d f::dO f e j::aP e p U::aS j d Y::aI d σ'::aZ eb a ns M::aZ e2 a2 ns M::bx ns::cH w h (aY eb) dA false false::blk b3 48 (da 3 n dl nv sv).toArray::fr) (by show Ent (bE h d f::dO f e j::aP e p U::aS j d Y::aI d σ'::blk I 95 (ci 0 0 0 0).toArray::aZ eb a ns M::aZ e2 a2 ns M::bx ns::cH w h (aY eb) dA false false::blk b3 48 (da 3 n dl nv sv).toArray::fr) _;exact aG)<|dK [false,false] ak<|dx 7 Z (bg Z)<|bB Z (bZ Z Z)<|bB Z (bZ Z Z)<|bB Z (bZ Z Z)<|dI 12 Z<|bk Z (m:=4) (vs:=ci K tb O T) Z Z Z Z eG (by show 0+4<=4;omega) ?_
  refine dK [] ak<|dx 13 Z (aX Z)<|bB Z (aX Z)<|dE<|sT<|sQ<|aB I (ci K tb O T).toArray Z<|sG<|sM Z<|bQ Z (hR e2 a2 ns) (bo zg zg) ?_
  rintro v m ⟨rfl,a3,rfl⟩;refine aE<|sM Z<|bG Z Z<|bG Z Z<|sO (cO (z:=.agg #[cd 0,aA 0,aA 0,cd 0]) Z λd6=>(aB d6 (ci 0 0 0 0).toArray Z (sO<|bk Z (m:=4) (vs:=ci K tb O T) Z Z Z Z eG (by show 0+4<=4;omega) ?_)))
  refine aB d6 (ci K tb O T).toArray Z<|sB Z<|sQ<|sQ ?_
  by_cases HQ:ok=false
  ·obtain⟨rfl,rfl,rfl,rfl,rfl⟩:=d8 HQ;subst HQ;refine sG<|bY Z (cA (r:=true) Z Z)<|sN<|aK Z<|bp Z<|sP (cA (r:=true) Z Z)<|sM Z<|cN Z<|bO (bc (r:=true) Z Z Z)<|sP (aF Z Z Z)<|sM Z<|fM (bR (vs:=ci 0 0 0 0) Z) (bl Z)<|bO (bI (ps:=[]) (vs:=[]) (cs:=(ci 0 0 0 0).toArray) Z Z Z Z Z)<|bO (kQ (r:=true) Z eS eS Z Z tz)<|sP (aF Z Z Z)<|sA Z<|sN<|an<|aD<|aJ<|aD<|ar (gh w h f e j d p U Y σ' eb a ns V++[]) Z Z ⟨rfl,p,U,Y,σ',eb,a,ns,V,d7,rfl⟩ ?_
   exact aG
  ·obtain rfl:ok=true:=by simpa using HQ
   refine sG<|bY Z (cA (r:=false) Z Z)<|sN<|ag Z<|aa<|sT<|bp Z<|sM Z<|sM Z<|bV Z fC (Ent.sel (.tail KA))<|ae ?_
   rw[if_pos rfl];refine sB Z<|bp Z<|sM Z<|cN Z<|bO (cy (r:=false) Z Z Z)<|cN Z<|aR Z<|aR Z<|bO (aF Z Z Z)<|cN Z<|aR Z<|aR Z<|aR Z<|bO (aF Z Z Z)<|cN Z<|cN Z<|cN Z<|fM (bR (vs:=ci K tb O T) Z) (bl Z)<|fM (bR (vs:=ci K tb O T) Z) (bl Z)<|bO (kQ (r:=true) Z eS eS Z Z tz)<|bO (aF Z Z Z)<|bO (aF Z Z Z)<|sP (aF Z Z Z)<|sB Z<|an<|aJ<|aD<|ar (gh w h f e j d p U Y σ' e2 a3 ns V++[]) Z Z ⟨rfl,p,U,Y,σ',e2,a3,ns,V,d7,rfl⟩ ?_
   exact aG
end
end Go.Y
namespace Go.SL
def D3{D:List Deferred}{ts:List (Nat×Value)}{p0 p1 p2 p3 I O T Y p8:HP}{fr:List HP}{K:Act->World->Prop}(h:At E0 n D ts (p0::p1::p2::p3::I::O::T::Y::p8::fr) K):At E0 n D ts ([p0,p1,p2,p3,I,O,T,Y,p8]++fr) K:=h
end Go.SL
namespace Go.Y
open Go.Proofs Tryz Go.RowKit Go.SL
def wH(b:ByteArray):b.data.toList.length=b.size:=by rw[Array.length_toList];rfl
def I6{nds:List FK.Node}(h:FD ⟨dl,nds⟩ v m):∃E bs x y,v=.tuple #[E,aA x,aA y]/\bs.length<=20000/\∀fr,Ent (m++fr) (dB E bs::fr):=by
 rcases h with⟨I,E,rfl,rfl⟩|⟨_,rfl,rfl⟩
 ·exact⟨E,_,_,_,rfl,by have:=(FK.qa I).encLen;omega,λ_=>aQ⟩
 ·exact⟨cB,[],_,_,rfl,by decide,λ_=>Ent.row0⟩
section
variable{w j:Nat}{nv:Value}
def CV(hL:Live N S M J σ)(hN:N<=100000)(hs:s.size<=20000):dS 12 [aY w,lJ 2 n dl nv (.string s)] (gh w h f e j d p S J σ eb a ns M) (Stepped w h f e j d N []):=by
 have hP:=hL.pair;have hF:=hP.fine am;refine bz func12 Z λE fr hE=>ge<|sS<|sO (cP Z Z λO=>(aB O (da 2 n dl nv (.string s)).toArray Z (sB Z (sS (sM Z (cZ Z (bm 1 Z (bF (au (v:=aY eb) Z) (ah Z) (bQ Z (fZ hF hP.nd) sw ?_)))))))))
 rintro v m ⟨e2,K,rfl,rfl⟩;refine aE<|ao (l':=bE h d f::dO f e j::aP e p S::aS j d J::aI d σ::aZ eb a ns M::aZ e2 K ns M::bx ns::cH w h (aY eb) dA false false::blk O 48 (da 2 n dl nv (.string s)).toArray::fr) (by show Ent (aZ eb a ns M::aZ e2 K ns M::blk O 48 (da 2 n dl nv (.string s)).toArray::bE h d f::dO f e j::aP e p S::aS j d J::aI d σ::cH w h (aY eb) dA false false::bx ns::fr) _;exact aG)<|sB Z<|sQ<|sS<|bm 0 Z<|bF (au (v:=aA 2) Z) (ah Z)<|sN<|ai<|sQ<|sS<|sP (bc Z Z Z)<|sB Z<|ag Z<|sG<|sP (bc Z Z Z)<|sB Z<|aK Z<|sS<|bm 4 Z<|aL Z Z Z Z<|sO (E7 Z Z Z Z Z λb6 cb fz=>?_)
 obtain⟨I,d6⟩:∃I,I=pI b6 cb s fz:=⟨_,rfl⟩;have mt:Reads I (some ⟨b6,0,none⟩) s.data.toList:=by rw[d6];exact qT
 have d8:some (⟨b6,0,none⟩:Addr)=none->s.data.toList=[]:=λh=>by cases h
 have d9:s.data.toList.length<=20000:=by rw[wH];exact hs
 show At E _ _ (_::_) (pI b6 cb s fz::_) _;rw[<-d6,<-wH];refine sB Z<|sQ<|sS<|bm 0 Z<|aL Z Z Z Z<|sP (bc (r:=false) Z Z Z)<|sN<|ag Z<|aa<|sT<|sQ ?_
 obtain⟨k,x,y,W1,W2,hW,hH,hR⟩:=ER (h:=h) (f:=f) (e:=e) (j:=j) (d:=d) (p:=p) (c:=cb) hL hN mt d8 d9;refine sZ Z<|ea Z Z<|dy 0 Z Z Z<|bN Z (au (v:=aY h) Z) (ah Z)<|cC Z Z<|bB Z (bd 5 Z)<|bN Z (bR (vs:=ct (-1) (-1) 0 0) Z) (kF j6)<|ao (l':=I::bE h d f::dO f e j::aP e p S::aS j d J::aI d σ::aZ eb a ns M::aZ e2 K ns M::bx ns::cH w h (aY eb) dA false false::blk O 48 (da 2 n dl nv (.string s)).toArray::fr) aQ<|dI 7 Z<|dP Z hH (by show Ent (I::bE h d f::dO f e j::aP e p S::aS j d J::aI d σ::aZ eb a ns M::aZ e2 K ns M::bx ns::cH w h (aY eb) dA false false::blk O 48 (da 2 n dl nv (.string s)).toArray::fr) (bE h d f::dO f e j::aP e p S::aS j d J::aI d σ::I::aZ eb a ns M::aZ e2 K ns M::bx ns::cH w h (aY eb) dA false false::blk O 48 (da 2 n dl nv (.string s)).toArray::fr);exact aG) ?_
 rintro v m ⟨rfl,p',U,Y,σ',f7,rfl⟩;refine ao (l':=bE h d f::dO f e j::aP e p' U::aS j d Y::aI d σ'::I::aZ eb a ns M::aZ e2 K ns M::bx ns::cH w h (aY eb) dA false false::blk O 48 (da 2 n dl nv (.string s)).toArray::fr) aQ<|dK [false,false] ak<|dx 8 Z (bg Z)<|bB Z (bZ Z Z)<|bB Z (bZ Z Z)<|bB Z (bZ Z Z)<|bB Z (aX Z)<|bB Z (aX Z)<|bB Z (aX Z)<|dE<|sT<|bp Z<|sM Z<|bQ Z (hR e2 K ns) (by show Ent (bE h d f::dO f e j::aP e p' U::aS j d Y::aI d σ'::I::aZ eb a ns M::aZ e2 K ns M::bx ns::cH w h (aY eb) dA false false::blk O 48 (da 2 n dl nv (.string s)).toArray::fr) (aZ e2 K ns M::bx ns::I::bE h d f::dO f e j::aP e p' U::aS j d Y::aI d σ'::aZ eb a ns M::cH w h (aY eb) dA false false::blk O 48 (da 2 n dl nv (.string s)).toArray::fr);exact aG) ?_
 rintro v m ⟨rfl,a3,T,V,f8,f9,rfl⟩;refine cF ?_;obtain⟨d7,hx,hk⟩:=hW U Y σ' V f7 f8;refine sM Z<|bG Z Z<|bG Z Z<|bG Z Z<|sA Z<|sA Z<|sB Z<|bp Z<|sM Z<|sM Z<|sM Z<|bV Z fC gfE9<|ae<|sB Z<|sQ ?_
 by_cases HX:x=0
 ·subst HX;rw[if_pos rfl];refine sG<|sM Z<|sM Z<|cN Z<|bO (cy (r:=false) Z Z Z)<|cN Z<|aR Z<|aR Z<|bO (aF Z Z Z)<|cN Z<|cN Z<|cN Z<|bO (dg Z Z Z)<|bO (aF Z Z Z)<|sP (aF Z Z Z)<|sM Z<|cN Z<|bO (bc (r:=true) Z Z Z)<|cN Z<|aR Z<|aR Z<|aR Z<|bO (aF Z Z Z)<|sP (aF Z Z Z)<|sB Z<|an<|aJ<|aD<|ar (gh w h f e j d p' U Y σ' e2 a3 T V++[]) Z Z ⟨rfl,p',U,Y,σ',e2,a3,T,V,d7,rfl⟩ ?_
  exact aG
 ·obtain rfl:=hx HX;obtain rfl:=hk HX;rw[if_neg HX];refine sG<|sM Z<|sM Z<|cN Z<|bO (yc Z Z HX)<|cN Z<|cN Z<|bO (bc (r:=true) Z Z Z)<|bO (aF Z Z Z)<|cN Z<|aR Z<|aR Z<|aR Z<|bO (aF Z Z Z)<|sP (aF Z Z Z)<|sM Z<|cN Z<|bO (eE Z Z HX)<|cN Z<|cN Z<|cN Z<|bO (dg Z Z Z)<|bO (aF Z Z Z)<|sP (aF Z Z Z)<|sB Z<|an<|aJ<|aD ?_
  obtain rfl:=f9 HX;refine ar (gh w h f e j d p' U Y σ' eb a T V++[]) Z Z ⟨rfl,p',U,Y,σ',eb,a,T,V,d7,rfl⟩ ?_;exact aG
section
variable{A0:Option Addr}{c0:Nat}{nds:List FK.Node}
def CW(hG:Good E0)(h0:E0.is w0)(f9:NodesAt w0 w0.heap.size A0 c0 nds)(hL:Live N S M J σ)(hN:N<=100000)(_:s.size<=20000):Does prog (λE=>E=E0) 12 [aY w,lJ 1 n dl (.slice A0 nds.length c0) (.string s)].toArray (gh w h f e j d p S J σ eb a ns M++[old E0 w0]) (Stepped w h f e j d N [old E0 w0]):=by
 have hP:=hL.pair;have hF:=hP.fine am;refine bz func12 Z λE fr hE=>D3 ?_;obtain rfl:E=E0:=hE;replace hE:=hG;refine sS<|sO (cP Z Z λK=>(aB K (da 1 n dl (.slice A0 nds.length c0) (.string s)).toArray Z (sB Z (sS (sM Z (cZ Z (bm 1 Z (bF (au (v:=aY eb) Z) (ah Z) (bQ Z (fZ hF hP.nd) sw ?_)))))))))
 rintro v m ⟨e2,I,rfl,rfl⟩;refine aE<|ao (l':=bE h d f::dO f e j::aP e p S::aS j d J::aI d σ::aZ eb a ns M::aZ e2 I ns M::bx ns::cH w h (aY eb) dA false false::blk K 48 (da 1 n dl (.slice A0 nds.length c0) (.string s)).toArray::old E w0::fr) (by show Ent (aZ eb a ns M::aZ e2 I ns M::blk K 48 (da 1 n dl (.slice A0 nds.length c0) (.string s)).toArray::bE h d f::dO f e j::aP e p S::aS j d J::aI d σ::cH w h (aY eb) dA false false::bx ns::old E w0::fr) _;exact aG)<|sB Z<|sQ<|sS<|bm 0 Z<|bF (au (v:=aA 1) Z) (ah Z)<|sN<|ai<|sQ<|sS<|sP (bc Z Z Z)<|sB Z<|aK Z<|aa<|sT<|aK Z<|sS<|bm 4 Z<|aL Z Z Z Z<|sO (E7 Z Z Z Z Z λb6 cb fz=>(sB Z (sQ (sS (bm 0 Z (aL Z Z Z Z (sP (bc (r:=true) Z Z Z) (sN (aK Z (sG (bm 2 Z<|bF (bR (vs:=[aA dl,.slice A0 nds.length c0]) Z) (kF Lz)<|sO<|nE Z Z Z hE (Dm dl nds A0 c0) (px (.tail (.tail KA)) h0 f9 (cx _)) ?_)))))))))))
 rintro v m hv;obtain⟨bv,bs,ex,ey,rfl,d6,d7⟩:=I6 hv;refine ao (d7 _)<|aN .head ?_
 rintro A9 cb rfl f1 f2 - - -
 obtain⟨d8,d9⟩:=mY f1 f2;obtain⟨O,f7⟩:∃O,O=dB (.slice A9 bs.length cb) bs:=⟨_,rfl⟩;rw[<-f7]at d8;refine ao (l':=O::bE h d f::dO f e j::aP e p S::aS j d J::aI d σ::aZ eb a ns M::aZ e2 I ns M::bx ns::cH w h (aY eb) dA false false::blk K 48 (da 1 n dl (.slice A0 nds.length c0) (.string s)).toArray::old E w0::fr) (by rw[f7];exact Ent.cons Ent.drop)<|sM Z<|bG Z Z<|bG Z Z<|bG Z Z<|sB Z<|sQ ?_
 obtain⟨k,x,y,W1,W2,hW,hH,hR⟩:=ER (h:=h) (f:=f) (e:=e) (j:=j) (d:=d) (p:=p) (c:=cb) hL hN d8 d9 d6;refine sZ Z<|ea Z Z<|dy 0 Z Z Z<|bN Z (au (v:=aY h) Z) (ah Z)<|cC Z Z<|bB Z (bd 5 Z)<|bN Z (bR (vs:=ct (-1) (-1) 0 0) Z) (kF j6)<|ao (l':=O::bE h d f::dO f e j::aP e p S::aS j d J::aI d σ::aZ eb a ns M::aZ e2 I ns M::bx ns::cH w h (aY eb) dA false false::blk K 48 (da 1 n dl (.slice A0 nds.length c0) (.string s)).toArray::old E w0::fr) aQ<|dI 7 Z<|dP Z hH (by show Ent (O::bE h d f::dO f e j::aP e p S::aS j d J::aI d σ::aZ eb a ns M::aZ e2 I ns M::bx ns::cH w h (aY eb) dA false false::blk K 48 (da 1 n dl (.slice A0 nds.length c0) (.string s)).toArray::old E w0::fr) (bE h d f::dO f e j::aP e p S::aS j d J::aI d σ::O::aZ eb a ns M::aZ e2 I ns M::bx ns::cH w h (aY eb) dA false false::blk K 48 (da 1 n dl (.slice A0 nds.length c0) (.string s)).toArray::old E w0::fr);exact aG) ?_
 rintro v m ⟨rfl,p',U,Y,σ',mt,rfl⟩;refine ao (l':=bE h d f::dO f e j::aP e p' U::aS j d Y::aI d σ'::O::aZ eb a ns M::aZ e2 I ns M::bx ns::cH w h (aY eb) dA false false::blk K 48 (da 1 n dl (.slice A0 nds.length c0) (.string s)).toArray::old E w0::fr) aQ<|dK [false,false] ak<|dx 8 Z (bg Z)<|bB Z (bZ Z Z)<|bB Z (bZ Z Z)<|bB Z (bZ Z Z)<|bB Z (aX Z)<|bB Z (aX Z)<|bB Z (aX Z)<|dE<|sT<|bp Z<|sM Z<|bQ Z (hR e2 I ns) (by show Ent (bE h d f::dO f e j::aP e p' U::aS j d Y::aI d σ'::O::aZ eb a ns M::aZ e2 I ns M::bx ns::cH w h (aY eb) dA false false::blk K 48 (da 1 n dl (.slice A0 nds.length c0) (.string s)).toArray::old E w0::fr) (aZ e2 I ns M::bx ns::O::bE h d f::dO f e j::aP e p' U::aS j d Y::aI d σ'::aZ eb a ns M::cH w h (aY eb) dA false false::blk K 48 (da 1 n dl (.slice A0 nds.length c0) (.string s)).toArray::old E w0::fr);exact aG) ?_
 rintro v m ⟨rfl,a3,T,V,t6,t7,rfl⟩;refine cF ?_;obtain⟨f8,hx,hk⟩:=hW U Y σ' V mt t6;refine sM Z<|bG Z Z<|bG Z Z<|bG Z Z<|sA Z<|sA Z<|sB Z<|bp Z<|sM Z<|sM Z<|sM Z<|bV Z fC gfE9<|ae<|sB Z<|sQ ?_
 by_cases HX:x=0
 ·subst HX;rw[if_pos rfl];refine sG<|sM Z<|sM Z<|cN Z<|bO (cy (r:=false) Z Z Z)<|cN Z<|aR Z<|aR Z<|bO (aF Z Z Z)<|cN Z<|cN Z<|cN Z<|bO (dg Z Z Z)<|bO (aF Z Z Z)<|sP (aF Z Z Z)<|sM Z<|cN Z<|bO (bc (r:=true) Z Z Z)<|cN Z<|aR Z<|aR Z<|aR Z<|bO (aF Z Z Z)<|sP (aF Z Z Z)<|sB Z<|an<|aJ<|aD<|ar (gh w h f e j d p' U Y σ' e2 a3 T V++[old E w0]) Z Z ⟨rfl,p',U,Y,σ',e2,a3,T,V,f8,rfl⟩ ?_
  exact aG
 ·obtain rfl:=hx HX;obtain rfl:=hk HX;rw[if_neg HX];refine sG<|sM Z<|sM Z<|cN Z<|bO (yc Z Z HX)<|cN Z<|cN Z<|bO (bc (r:=true) Z Z Z)<|bO (aF Z Z Z)<|cN Z<|aR Z<|aR Z<|aR Z<|bO (aF Z Z Z)<|sP (aF Z Z Z)<|sM Z<|cN Z<|bO (eE Z Z HX)<|cN Z<|cN Z<|cN Z<|bO (dg Z Z Z)<|bO (aF Z Z Z)<|sP (aF Z Z Z)<|sB Z<|an<|aJ<|aD ?_
  obtain rfl:=t7 HX;refine ar (gh w h f e j d p' U Y σ' eb a T V++[old E w0]) Z Z ⟨rfl,p',U,Y,σ',eb,a,T,V,f8,rfl⟩ ?_;exact aG
end
end
end Go.Y
namespace FK
structure Stp where
 kind:Int
 n:Nat
 dl:Int
 A:Option Go.Addr
 c:Nat
 NO:List Node
 s:ByteArray
 l:Int
 fu:Int
 ke:Int
 pa:Int
end FK
namespace Go.Y
open Go.Proofs Tryz
open Go Go.RowKit Go.SL
abbrev iH(x:FK.Stp):List Value:=[aA x.kind,aU x.n,aA x.dl,.slice x.A x.NO.length x.c,.string x.s,aA x.l,aA x.fu,aA x.ke,aA x.pa]
structure StepsAt(w:World)(B:Nat)(A:Option Addr)(c:Nat)(l:List FK.Stp):Prop where
 fits:∀x∈l,qe x.NO/\x.s.size<=140737488355328/\x.n<18446744073709551616/\i64 x.l/\i64 x.fu/\i64 x.pa
 NO:∀x∈l,NodesAt w B x.A x.c x.NO
 len:l.length<=c
 cap:l.length<=140737488355328
 cells:0<l.length->∃b off,A=some ⟨b,off,none⟩/\b<B/\∀i x,l[i]?=some x->∀j u,(iH x)[j]?=some u->w.cell? ⟨b,off+i*9+j,none⟩=some u
def AU(A:Option Addr)(c:Nat)(l:List FK.Stp) :
 Gives prog Good 5 [.slice A l.length c].toArray (λw=>StepsAt w w.heap.size A c l) λv m=>(∃r,v=.bool r/\(r=true->l.length<=16384/\∀x∈l,x.s.size<=16384))/\m=[]:=by
 refine Gives.body func5 Z Z λE w0 hE h0 hN=>?_;have LE:=hN.cap;refine sS<|sB Z<|bp Z<|sP (bh Z Z)<|sB Z<|sQ<|sS<|sB Z<|ai<|aO (X:=Nat×Nat) (λx=>[(4,aA x.1),(3,aA x.2),(0,.slice A l.length c)]) (λ_=>[old E w0]) (λx=>x.1<=l.length/\l.length<=x.2/\(∀j y,j<x.1->l[j]?=some y->y.s.size<=x.2)/\x.2<=600000000000000) (λx=>l.length-x.1) (0,l.length) ⟨by simp,by simp,λj y h=>absurd h (Nat.not_lt_zero _),by simp only;omega⟩ bW aQ ?_
 rintro⟨i,t⟩ ⟨hi,In,f8,ht⟩;refine sQ<|bp Z<|bY Z (bh Z Z) (cj Z (bq Z Z Z) dp λd6 d7=>(sM Z ?_))
 refine bK d6 (by rfl)<|cz Z Z (λ_=>rfl) (bg Z) dp<|bK d6 (by rfl)<|cz Z Z (λ_=>rfl) (nG Z Z Z) dp<|cj Z (dV Z Z Z) dp λI d8=>sN<|cf Z (λI=>?_) λI=>?_
 ·rw[d8,d7]at I;simp only[Bool.and_eq_true,decide_eq_true_eq]at I;obtain⟨J,LT⟩:=I;have J:i<l.length:=am;obtain⟨bb,o,rfl,NT,Y⟩:=hN.cells am;obtain⟨x,hx⟩:∃x,l[i]?=some x:=⟨l[i],by simp[J]⟩;obtain⟨⟨NU,t6⟩,NV,-⟩:=hN.fits x (cg hx);have BT:=hN.NO x (cg hx);have hc:=Y i x hx;refine aa<|sT<|sQ<|ai<|sQ<|sZ Z<|ea Z Z<|cC Z Z<|cC Z Z<|bB Z (aV (z:=9) Z Z Z Z J)<|bB Z (bd 4 Z)<|bN Z (au (v:=.string x.s) Z) (oz .head h0 (hc 4 _ Z))<|bB Z (LF Z Z)<|bB Z (bH (r:=((t+x.s.size:Nat):Int)) Z Z (by rw[<-Int.natCast_add,iP am]))<|cC Z Z<|cC Z Z<|bB Z (aV (z:=9) Z Z Z Z J)<|bB Z (bd 2 Z)<|bB Z (bd 1 Z)<|bN Z (au (v:=.slice x.A x.NO.length x.c) Z) (oz .head h0 (hc 3 _ Z))<|dx 14 Z (bh Z Z)<|bB Z (bH (r:=((t+x.s.size+x.NO.length:Nat):Int)) Z Z (by rw[<-Int.natCast_add,iP am]))<|bB Z (aX Z)<|dE<|sT<|sS<|sB Z<|ai<|aO (X:=Nat×Nat) (λy=>[(5,aA y.1),(4,aA i),(3,aA y.2),(0,.slice (some ⟨bb,o,none⟩) l.length c)]) (λ_=>[old E w0]) (λy=>y.1<=x.NO.length/\t+x.s.size<=y.2/\y.2<=600000000000000) (λy=>x.NO.length-y.1) (0,t+x.s.size+x.NO.length) ⟨by simp,by simp only;omega,by simp only;omega⟩ bW aQ ?_
  rintro⟨k,u⟩ ⟨hk,NX,wf⟩;refine sQ<|bp Z<|sM Z<|bY Z (aV (z:=9) Z Z Z Z J)<|bm 2 Z<|bm 1 Z<|bF (au (v:=.slice x.A x.NO.length x.c) Z) (oz .head h0 (hc 3 _ Z))<|sP (bh Z Z) (cj Z (bq Z Z Z) dp λd9 f9=>(sM Z ?_))
  refine bK d9 (by rfl)<|cz Z Z (λ_=>rfl) (bg Z) dp<|bK d9 (by rfl)<|cz Z Z (λ_=>rfl) (nG Z Z Z) dp<|cj Z (dV Z Z Z) dp λK mt=>sN<|cf Z (λK=>?_) λK=>?_
  ·rw[mt,f9]at K;simp only[Bool.and_eq_true,decide_eq_true_eq]at K;obtain⟨O,Fd⟩:=K;have O:k<x.NO.length:=am;obtain⟨b2,o2,t7,NW,T⟩:=BT.cells am;obtain⟨nd,hnd⟩:∃nd,x.NO[k]?=some nd:=⟨x.NO[k],by simp[O]⟩;obtain⟨A6,c6,f7,t8⟩:=NodeAt.row (T k nd hnd);have NY:=t6 nd (cg hnd);refine aa<|sT<|sQ<|ai<|sG<|sM Z<|sM Z<|bY Z (aV (z:=9) Z Z Z Z J)<|bm 2 Z<|bm 1 Z<|bF (au (v:=.slice (some ⟨b2,o2,none⟩) x.NO.length x.c) Z) (oz .head h0 (t7▸hc 3 _ Z))<|bY Z (aV (z:=7) Z Z Z Z O)<|bm 6 Z<|bF (au (v:=.slice A6 nd.after.length c6) Z) (oz .head h0 (f7 6 _ Z))<|sP (bh Z Z)<|sP (bH (r:=((u+nd.after.length:Nat):Int)) Z Z (by rw[<-Int.natCast_add,iP am]))<|sA Z<|ap<|al<|sT<|sG<|bY Z (dM Z Z)<|sA Z<|ap<|aH (k+1,u+nd.after.length) ⟨by simp only;omega,by simp only;omega,by simp only;omega⟩ (by simp only;omega) bW aQ
  ·refine aM<|aw<|az<|aq<|al<|sT<|sG<|bY Z (dM Z Z)<|sA Z<|ap<|aH (i+1,u) ⟨by simp only;omega,by simp only;omega,λj y hj hy=>?_,wf⟩ (by simp only;omega) bW aQ
   rcases Nat.lt_or_ge j i with h|h
   ·have:=f8 j y h hy;omega
   ·obtain rfl:j=i:=am
    rw[hx]at hy;injection hy with hy;subst hy;omega
 ·rw[d8,d7]at I;refine aM<|aw<|az<|aq<|sT<|bp Z<|sP (nG Z Z Z)<|sB Z<|an<|ar [] rfl Z ⟨⟨_,rfl,λhr=>?_⟩,rfl⟩ aQ
  have hr:(t:Int)<=16384:=of_decide_eq_true hr;rw[xC hr,Bool.and_true,decide_eq_false_iff_not]at I;refine⟨am,λx hx=>?_⟩;obtain⟨j,hj⟩:=List.getElem?_of_mem hx;have:=f8 j x (by have:=(gfGet.1 hj).1;omega) hj;omega
end Go.Y
namespace FR
abbrev En.zero:En:=⟨0,0,[],[],0,0,0,0⟩
def zr(p:FK.Pl):En.zero.act p=none:=rfl
def Pair.zero:Pair 0 FK.En.fresh En.zero where
 ok:=FK.Ok.fresh
 sim:=by
  refine⟨⟨rfl,rfl,rfl,rfl,rfl,rfl,rfl,.nil⟩,?_⟩;constructor
  ·intro x h;cases h
  ·exact .nil
  ·intro p a
   constructor
   ·intro h;cases h
   ·rintro⟨s,h⟩
    rw[zr]at h;cases h
  ·exact .nil
  ·intro p a h
   rw[zr]at h;cases h
 ke:=.nil
 sets:=cx _
 ends:=cx _
 lr:=cx _
 lt:=cx _
 tms:=cx _
end FR
namespace Go.Y
open Go.Proofs Tryz
open Go Go.RowKit Go.SL
def GB:Live 0 FK.En.fresh FR.En.zero FK.J0 FK.e0:=⟨FR.Pair.zero,FK.Dk.e0,by decide,rfl,rfl,[],⟨.nil,cx _⟩,⟨.inr ec,rfl,rfl⟩⟩
abbrev tI:RfA:=⟨none,0,none,0,λ_=>⟨⟨0,0,[],[]⟩,0,0⟩⟩
def Gj{b:Nat}{r:List HP}:Ent (blk b 40 (sm tI FR.En.zero)::r) (aZ b tI [] FR.En.zero::bx []::r):=by
 have e0:∀r:List HP,Ent r (HP.all []::r):=λr=>Ent.all (m:=[]);have E:kM tI [] FR.En.zero:=λr I=>by cases I
 have h:Ent (blk b 40 (sm tI FR.En.zero)::r) (qE b tI [] FR.En.zero++(bx []::r)):=
  (Ent.cons (e0 r)).trans ((Ent.pure E).trans (Ent.cons (Ent.cons (Ent.row0.trans (Ent.cons (Ent.row0.trans (Ent.cons (e0 _))))))))
 exact h.trans Ent.all
def StepsAt.keep{w w':World}{B I:Nat}{A:Option Addr}{c:Nat}{l:List FK.Stp}(h:StepsAt w B A c l)(s:Same B w w')(K:B<=I):StepsAt w' I A c l:=by
 obtain⟨h0,h1,h2,h3,h4⟩:=h;refine⟨h0,λx E=>((h1 x E).keep s).more K,h2,h3,λT=>?_⟩;obtain⟨b,off,rfl,O,hc⟩:=h4 T;exact⟨b,off,rfl,Nat.lt_of_lt_of_le O K,λi x E j u Y=>by rw[s.cell O];exact hc i x E j u Y⟩
def CL{l r:List HP}{xs:List FK.Stp}(s:Sel (old E0 w0) l r)(K:E0.is w0)(h:StepsAt w0 w0.heap.size A c xs):∀w,Holds E0 w l->StepsAt w w.heap.size A c xs:=
 EE s K λ_w I=>h.keep (I.to_same.mono (cx _)) I.size
section
variable{w j:Nat}
def pG(Y:Good E0){nv sv:Value}(h':dS 12 [aY w,lJ K n dl nv sv] (gh w h f e j d p S J σ eb a ns M) (Stepped w h f e j d N [])):Does prog (λE=>E=E0) 12 [aY w,lJ K n dl nv sv].toArray (gh w h f e j d p S J σ eb a ns M++[old E0 w0]) (Stepped w h f e j d N [old E0 w0]):=by
 have h2:Does prog (λE=>E=E0) 12 [aY w,lJ K n dl nv sv].toArray (gh w h f e j d p S J σ eb a ns M) (Stepped w h f e j d N []):=λE w fr hE=>h' E w fr (by rw[hE];exact Y);refine(h2.frame [old E0 w0]).mono ?_;rintro v m ⟨m',⟨rfl,p',U,J',σ',O,a',T,V,hL,rfl⟩,rfl⟩;exact⟨_,⟨rfl,p',U,J',σ',O,a',T,V,hL,by rw[List.append_nil]⟩,aQ⟩
def IU(I:Good E0)(h0:E0.is w0){x:FK.Stp}(hx:NodesAt w0 w0.heap.size x.A x.c x.NO)(T:x.s.size<=20000)(Y:x.n<18446744073709551616)(hk:x.kind≠10)(K:Live N S M J σ)(O:N<=100000) :
 Does prog (λE=>E=E0) 12 [aY w,lJ x.kind x.n x.dl (.slice x.A x.NO.length x.c) (.string x.s)].toArray (gh w h f e j d p S J σ eb a ns M++[old E0 w0]) (Stepped w h f e j d N [old E0 w0]):=by
 have hc:x.kind=1\/x.kind=2\/x.kind=3\/x.kind=4\/x.kind=5\/x.kind=6\/x.kind=7\/x.kind=8\/x.kind=9\/∀i:Int,1<=i->i<=10->x.kind≠i:=by
  by_cases hr:1<=x.kind/\x.kind<=10
  ·omega
  ·exact .inr (.inr (.inr (.inr (.inr (.inr (.inr (.inr (.inr λi h1 h2 e=>hr am))))))))
 rcases hc with e|e|e|e|e|e|e|e|e|e
 ·rw[e];exact CW I h0 hx K O T
 ·rw[e];exact pG I (CV K O T)
 ·rw[e];exact pG I (CU K O)
 ·rw[e];exact pG I (CT K O)
 ·rw[e];exact pG I (CS K O)
 ·rw[e];exact pG I (CR K O)
 ·rw[e];exact pG I (CQ K O)
 ·rw[e];exact pG I (CP K O Y)
 ·rw[e];exact pG I (CO K O Y)
 ·exact pG I<|CX e K O
end
def Cg{k:Int}(E:s.size<=18)(h:Lib.atoi s.data.toList=some k):dz G 84 [cX s] [] λv m=>v=.tuple #[aA k,.nilIface]/\m=[]:=
 (fg (φ:=λ_=>True) λ_ w _ _ _=>(qz s k E h w).mono λ_ _ ⟨I,t,J⟩=>⟨I,by rw[J];exact Lib.bytesWorld_below _ _ _⟩).does
def Reads.none(p:HP):Reads p none []:=⟨λh=>absurd rfl h,λ_ _ _ _ _ h=>by cases h⟩
def I8{name:ByteArray}(I:σ.down=false):dz G 295 [aY d,cX name] [aI d σ] λv m=>∃E A c J,v=.tuple #[.slice A (FK.pJ σ.now name).length c,dU E]/\(E=0\/E=9)/\Reads J A (FK.pJ σ.now name)/\(FK.pJ σ.now name).length<=c/\m=[J,aI d σ]:=by
 unfold FK.pJ;cases h:FK.fG σ.now name with
 |none=>
  refine(o7 I h).mono ?_;rintro v m ⟨rfl,rfl⟩;exact⟨[HP.pure True,aI d σ],⟨9,none,0,HP.pure True,rfl,.inr Z,Reads.none _,cx _,rfl⟩,Ent.pure trivial⟩
 |some s=>
  refine(wR I h).mono ?_;rintro v m ⟨b,c,K,hc,rfl,rfl⟩;have e:s.data.toList.length=s.size:=by rw[Array.length_toList];rfl
  refine⟨_,⟨0,some ⟨b,0,none⟩,c,pI b c s K,?_,.inl Z,?_,?_,rfl⟩,aQ⟩
  ·show _=Value.tuple #[dQ b s.data.toList.length c,.nilIface]
   rw[e]
  ·exact qT
  ·show s.data.toList.length<=c
   rw[e];exact hc
def qX(I J:Nat)(K:x≠0)(u:Nat):DoesD prog G 83 [aY J,aY I].toArray .returning .returning [blk J 62 #[dU x],blk I 108 #[aY u]] λm=>m=[blk J 62 #[dU x],blk I 108 #[.pointer none]]:=by
 have O:dU x=.iface 28 (aA x):=if_neg K;rw[O];refine DoesD.plain func83 Z Z λE fr T=>?_;refine aE<|sS<|aL Z Z Z Z<|sP (fk Z Z)<|sN<|aK Z<|sG ?_
 refine bD Z Z Z Z fW ?_;exact aB I #[.pointer none] rfl<|ap<|bt [_,_] rfl ec<|bo bJ .head
abbrev Mz(E f e:Nat)(p:EA)(S:FK.En):List HP:=[blk E 57 #[aY f],jE f e (.pointer none),aP e p S]
abbrev zn(E:Nat):Value:=.func (.func 46) #[] #[aY E]
def H5(d I f:Nat)(σ:FK.Dsk)(n:Nat)(t:Bool)(U:FK.En)(v:Value)(m:List HP):Prop:=
 ∃E x u mm,FK.xR σ n E x/\v=.tuple #[u,dU x]/\m=aI d E::mm/\(x≠0->u=.pointer none/\mm=[])/\(x=0->∃j e p,u=aY j/\mm=aS j d ⟨n,t,0⟩::Mz I f e p U)
structure Found(o:Option (List UInt8))(fb:List UInt8)(A:Option Addr):Prop where
 none:o=none->A=none
 some:∀x,o=some x->fb=x
def Iq{a b:ByteArray}(h:a=b):(!(a.toList==b.toList))=false:=by subst h;simp
def ya{a b:ByteArray}(h:a≠b):(!(a.toList==b.toList))=true:=by
 cases hb:(a.toList==b.toList)with
 |false=>rfl
 |true=>exact absurd (by have E:=eq_of_beq hb;rw[ByteArray.toList_eq,ByteArray.toList_eq]at E;exact ByteArray.ext (Array.toList_inj.1 E)) h
def tx(h:x≠0):dU x=.iface 28 (aA x):=if_neg h
def BC{S0:FK.En}{found:Option (List UInt8)}{t:Bool}
(OA:FK.l9 σ.now<=100000000000000)(OB:FK.l9 σ.dur+FK.jh σ.pend<=100000000000000)(OU:σ.pend.length<=1000000)(Oo:σ.now.length<=1000000)(OC:∀s∈σ.now.map (·.1),FK.NameOk s)
(OD:∀ns:List ByteArray,ns.Perm (σ.now.map (·.1))->FK.scan σ.now (FK.iI ns)=⟨n,found⟩)(Oq:FK.Parse (FK.pJ σ.now (FK.cm n)) l t)(hR:FK.Reds S0 l U)
(h0:found=none->S0=S)(hx:∀x,found=some x->x≠[])
(hB:∀x,found=some x->∀pb A c,Reads pb A x->x.length<=c->dS 46 [.slice A x.length c,aY eb] (Mz eb f e p S++[pb]) λ_ m=>∃e' p',m=Mz eb f e' p' S0++[pb]) :
 dS 45 [oY d,zn eb,tL f] (aI d σ::Mz eb f e p S) (H5 d eb f σ n t U):=by
 refine pE func45 Z Z λE fr hE=>?_;refine bT<|sS<|sO (cO (z:=.pointer none) Z λY=>(sO (cO (z:=.nilIface) Z λK=>(sN (sS (sM Z (sP (bI (ps:=[(0,.tmp 25)]) (vs:=[oY d]) (cs:=o5 d FK.J0) Z Z Z Z Z) (sO (cP Z Z λI=>(aB I (o5 d FK.J0) Z ?_))))))))))
 refine bD Z Z Z Z fW ?_;refine aB Y #[aY I] rfl<|sN<|sS ?_
 refine sP (gj Z Z) ?_;refine sO<|x8 Z<|sN<|sQ<|bp Z ?_
 refine sO<|gw Z Z Z (zj ⟨d,0,none⟩) Z hE (my am am) gfE3 ?_
 rintro v m ⟨rfl,rfl⟩;refine ae<|bD Z Z Z (mq _) (by show 0<1;omega) ?_
 refine aB K #[dU σ.sync.2] rfl ?_;refine ao (l':=blk K 62 #[dU σ.sync.2]::blk Y 108 #[aY I]::aS I d FK.J0::aI d σ.sync.1::blk eb 57 #[aY f]::jE f e (.pointer none)::aP e p S::fr) aG ?_;refine sN<|sQ ?_
 by_cases HS:σ.sync.2=0
 ·rw[HS,show dU 0=.nilIface from rfl];obtain⟨NV,d8,Of,OE⟩:=FK.KP HS;have Ou:FK.l9 σ.sync.1.dur<=100000000000000:=by rw[OE];exact Nat.le_trans (FK.tZ _ _) OB
  obtain⟨σ1,t6⟩:∃x,x=σ.sync.1:=⟨_,rfl⟩;rw[<-t6]at NV d8 Of Ou ⊢;refine sG<|aL Z Z Z Z<|sP (dF Z Z)<|sN<|ag Z<|aa<|sT<|bp Z ?_
  refine sO<|gw Z Z Z (Ir ⟨d,0,none⟩) Z hE (DH NV (by rw[d8];exact Oo)) gfE3 ?_
  rintro v m ⟨ns,A9,c9,t7,rfl,rfl⟩;refine aE ?_;rw[d8]at t7;have f7:=OD ns t7;obtain⟨names,O⟩:∃x,x=FK.iI ns:=⟨_,rfl⟩;have N8:ns.length=names.length:=by rw[O,FK.FZ]
  have OT:names.length<=1000000:=by rw[<-N8,t7.length_eq,List.length_map];exact Oo
  rw[<-O]at f7 ⊢;rw[N8];have N9:∀s∈names,s∈σ.now.map (·.1):=λs hs=>t7.mem_iff.1 (FK.sortB_mem.1 (O▸hs));have Oa:∀s∈names,FK.NameOk s:=λs hs=>OC s (N9 s hs);refine aN .head ?_;rintro A8 c8 OO f1 f2 - - -
  obtain⟨rfl,rfl⟩:A9=A8/\c9=c8:=by injection OO with a1 _ a3;exact⟨a1,a3⟩
  have Ov:0<names.length->∃g,A9=some ⟨g,0,none⟩:=λh=>by
   cases A9 with
   |none=>have:=(f1 rfl).1;omega
   |some ad=>obtain⟨g,rfl⟩:=f2 ad rfl;exact⟨g,rfl⟩
  refine sM Z<|bG Z Z<|bG Z Z<|sA Z ?_
  refine bD Z Z Z Z fW ?_;refine aB K #[.nilIface] rfl ?_;refine ao (l':=blk K 62 #[.nilIface]::blk Y 108 #[aY I]::aS I d FK.J0::aI d σ1::row 9 1 (.slice A9 names.length c9) names.length (names.map cX)::blk eb 57 #[aY f]::jE f e (.pointer none)::aP e p S::fr) (by show Ent (blk K 62 #[.nilIface]::row 9 1 (.slice A9 names.length c9) names.length (names.map cX)::aI d σ1::blk Y 108 #[aY I]::aS I d FK.J0::blk eb 57 #[aY f]::jE f e (.pointer none)::aP e p S::fr) _;exact aG) ?_;refine sN<|sQ<|sS<|aL Z Z Z Z<|sP (dF Z Z)<|sN<|ag Z<|aa<|sT<|sS<|sB Z<|sQ<|sS ?_
  refine bY Z (bh Z Z)<|sM Z<|sN<|ai ?_
  refine aO (X:=Nat×List UInt8×Option Addr×Nat×HP) (λx=>[(42,aA x.1),(41,aA names.length),(40,.slice A9 names.length c9),(9,.slice x.2.2.1 x.2.1.length x.2.2.2.1),(8,.slice A9 names.length c9),(7,aY K),(6,aY Y),(2,tL f),(1,zn eb),(0,oY d)]) (λx=>blk K 62 #[.nilIface]::blk Y 108 #[aY I]::aS I d ⟨(FK.scan σ.now (names.take x.1)).n,false,0⟩::aI d σ1::row 9 1 (.slice A9 names.length c9) names.length (names.map cX)::blk eb 57 #[aY f]::jE f e (.pointer none)::aP e p S::x.2.2.2.2::fr) (λx=>x.1<=names.length/\Found (FK.scan σ.now (names.take x.1)).found x.2.1 x.2.2.1/\Reads x.2.2.2.2 x.2.2.1 x.2.1/\x.2.1.length<=x.2.2.2.1) (λx=>names.length-x.1) (0,[],none,0,HP.pure True) ⟨Nat.zero_le _,⟨λ_=>rfl,λx h=>by cases h⟩,Reads.none _,cx _⟩ bW (by show Ent _ (blk K 62 #[.nilIface]::blk Y 108 #[aY I]::aS I d FK.J0::aI d σ1::row 9 1 (.slice A9 names.length c9) names.length (names.map cX)::blk eb 57 #[aY f]::jE f e (.pointer none)::aP e p S::HP.pure True::fr);exact Ent.trans (Ent.pure (p:=True) trivial) aG) ?_;rintro⟨k,fb,A2,c2,pb⟩ ⟨hk,mt,t8,Fd⟩;simp only at hk mt t8 Fd;refine ao (l':=blk K 62 #[.nilIface]::blk Y 108 #[aY I]::aS I d ⟨(FK.scan σ.now (names.take k)).n,false,0⟩::aI d σ1::row 9 1 (.slice A9 names.length c9) names.length (names.map cX)::blk eb 57 #[aY f]::jE f e (.pointer none)::aP e p S::pb::fr) aQ ?_;refine sS<|sP (bq Z Z Z)<|sN<|sQ ?_
  refine aC Z (λOd=>?_) λOd=>?_
  ·have NT:k<names.length:=by have:(k:Int)<(names.length:Int):=Od;omega
   obtain⟨g9,rfl⟩:=Ov am;obtain⟨s,hs⟩:∃s,names[k]?=some s:=⟨names[k],by simp[NT]⟩;have Ow:=cg hs;have NU:=Oa s Ow;obtain⟨fc,f9⟩:=FK.GF (N9 s Ow);have J:=FK.Ga σ.now names hs;refine aa<|sT<|sQ<|ai<|sS<|sP (aV (z:=1) Z Z Z Z NT) ?_
   refine bF (au (v:=cX s) Z) (ii kK (by show(names.map cX)[0+k*1]?=_;rw[Nat.zero_add,Nat.mul_one,List.getElem?_map,hs];rfl)) ?_;refine sB Z<|sQ ?_
   by_cases HA:Lib.atoi (FK.me s).data.toList=none
   ·refine sG<|sM Z ?_
    refine bV Z (ww s ⟨#[98,97,115,101]⟩) aQ ?_;refine aW ?_;refine bQ Z (yY NU.size HA) aQ ?_;rintro v m ⟨⟨OY,OZ,rfl⟩,rfl⟩;refine aW<|sM Z<|bG Z Z<|bG Z Z<|sA Z<|sB Z<|sQ<|bp Z<|sP (fk Z Z)<|sM Z<|aR Z<|aR Z<|aR Z<|aR Z<|aR Z<|aR Z ?_
    refine sP (aF Z Z Z)<|sN<|aK Z<|aM<|aw<|aq<|sT<|sG<|sP (bH Z Z (iP am))<|sM Z<|ap ?_
    refine aH (k+1,fb,A2,c2,pb) ⟨am,by rw[J,FK.qQ HA];exact mt,t8,Fd⟩ (by show names.length-(k+1)<names.length-k;omega) bW ?_;rw[J,FK.qQ HA];exact aQ
   ·obtain⟨q,hq⟩:∃q,Lib.atoi (FK.me s).data.toList=some q:=by
     cases h:Lib.atoi (FK.me s).data.toList with
     |none=>exact absurd h HA
     |some q=>exact⟨q,rfl⟩
    refine sG<|sM Z ?_
    refine bV Z (ww s ⟨#[98,97,115,101]⟩) aQ ?_;refine aW ?_;refine bV Z (Cg NU.size hq) aQ ?_;refine aW<|sM Z<|bG Z Z<|bG Z Z<|sA Z<|sB Z<|sQ<|bp Z<|sP (dF Z Z)<|sM Z<|cN Z<|fM (au Z) (ah Z)<|bO (cI Z)<|bO (bd 1 Z)<|fM (au Z) (ah Z)<|bO (nG Z Z Z) ?_
    refine sP (aF Z Z Z)<|sN ?_
    refine aC Z (λd9=>?_) λd9=>?_
    ·refine aM<|aw<|aq<|sT<|sG<|sP (bH Z Z (iP am))<|sM Z<|ap ?_
     refine aH (k+1,fb,A2,c2,pb) ⟨am,by rw[J,FK.wK hq d9];exact mt,t8,Fd⟩ (by show names.length-(k+1)<names.length-k;omega) bW ?_;rw[J,FK.wK hq d9];exact aQ
    ·refine aa<|sT<|bp Z<|sM Z ?_
     refine sO<|gw Z Z Z (Hw ⟨d,0,none⟩) Z hE (wR NV (by rw[d8];exact f9)) gfE3 ?_
     rintro v m ⟨NX,Oj,fz,LT,rfl,rfl⟩;refine aE ?_;have Om:fc.data.toList.length=fc.size:=by rw[Array.length_toList];rfl
     rw[<-Om]at LT ⊢;have O0:=FK.pK f9;have Ob:Reads (pI NX Oj fc fz) (some ⟨NX,0,none⟩) fc.data.toList:=qT;refine sM Z<|bG Z Z<|bG Z Z<|sA Z<|sB Z<|sQ<|bp Z<|sP (dF Z Z)<|sN<|ag Z<|aa<|sT<|sQ ?_
     by_cases HX:FK.next fc.data.toList=none
     ·refine sG<|sM Z ?_
      refine bQ Z (oI Ob LT (by rw[Om];omega)) aQ ?_;rintro v m ⟨hv,rfl⟩;refine ae ?_;obtain rfl:v=.tuple #[cB,cB,.bool false]:=by
       rcases hv with⟨_,h⟩|⟨x',r',A3,c3,A4,c4,h,_⟩
       ·exact h
       ·rw[HX]at h;cases h
      refine sM Z<|bG Z Z<|bG Z Z<|bG Z Z<|sA Z<|sA Z<|sB Z<|bp Z<|sM Z<|aR Z<|aR Z<|aR Z<|sP (aF Z Z Z)<|sN<|ag Z ?_
      refine aa<|al<|sT<|sG<|sP (bH Z Z (iP am))<|sM Z<|ap ?_
      refine aH (k+1,fb,A2,c2,pb) ⟨am,by rw[J,FK.uY hq d9 f9 HX];exact mt,t8,Fd⟩ (by show names.length-(k+1)<names.length-k;omega) bW ?_;rw[J,FK.uY hq d9 f9 HX];exact aG
     ·obtain⟨x,r,d6⟩:∃x r,FK.next fc.data.toList=some (x,r):=by
       cases h:FK.next fc.data.toList with
       |none=>exact absurd h HX
       |some y=>exact⟨y.1,y.2,rfl⟩
      refine sG<|sM Z ?_
      refine bQ Z (oI Ob LT (by rw[Om];omega)) aQ ?_;rintro v m ⟨hv,rfl⟩;refine ae ?_;obtain⟨A3,c3,A4,c4,rfl,Og,Oh⟩:∃A3 c3 A4 c4,v=.tuple #[.slice A3 x.length c3,.slice A4 r.length c4,.bool true]/\Reads (pI NX Oj fc fz) A3 x/\x.length<=c3:=by
       rcases hv with⟨h,_⟩|⟨x',r',A3,c3,A4,c4,h,hv,h1,h2,h3,h4⟩
       ·rw[d6]at h;cases h
       ·rw[d6]at h
        injection h with h;injection h with e1 e2;subst e1;subst e2;exact⟨A3,c3,A4,c4,hv,h1,h2⟩
      refine sM Z<|bG Z Z<|bG Z Z<|bG Z Z<|sA Z<|sA Z<|sB Z<|bp Z<|sM Z<|cN Z<|bO (bh Z Z)<|bO (bc Z Z Z)<|sP (aF Z Z Z)<|sN ?_
      refine aC Z (λOe=>?_) λOe=>?_
      ·obtain rfl:r=[]:=by have:(r.length:Int)=0:=Oe;exact List.eq_nil_of_length_eq_zero am
       have O1:=NU.num q hq;obtain⟨q,rfl⟩:∃q':Nat,q=(q':Int):=⟨q.toNat,am⟩;refine sG<|aL Z Z Z Z<|sM Z<|cE 1 Z Z ?_
       refine bD Z Z Z Z fW ?_;refine aB I (o5 d ⟨q,false,0⟩) Z<|sA Z<|ap<|al<|sT<|sG<|sP (bH Z Z (iP am))<|sM Z<|ap ?_
       refine aH (k+1,x,A3,c3,pI NX Oj fc fz) ⟨am,by rw[J,FK.zB hq d9 f9 d6];exact⟨λh=>(by cases h),λy h=>by injection h⟩,Og,Oh⟩ (by show names.length-(k+1)<names.length-k;omega) bW ?_;rw[J,FK.zB hq d9 f9 d6,Int.toNat_natCast];exact aG
      ·have Ox:r≠[]:=λh=>Oe (by rw[h];rfl);refine aa<|al<|sT<|sG<|sP (bH Z Z (iP am))<|sM Z<|ap ?_
       refine aH (k+1,fb,A2,c2,pb) ⟨am,by rw[J,FK.uX hq d9 f9 d6 Ox];exact mt,t8,Fd⟩ (by show names.length-(k+1)<names.length-k;omega) bW ?_;rw[J,FK.uX hq d9 f9 d6 Ox];exact aG
  ·obtain rfl:k=names.length:=by have:¬(k:Int)<(names.length:Int):=Od;omega
   rw[List.take_length,f7]at mt;rw[List.take_length,f7];have In:n<1000000:=by have:=FK.KX (fs:=σ.now) Oa;rw[f7]at this;exact this
   obtain⟨lb,Oi⟩:∃x,x=FK.pJ σ.now (FK.cm n):=⟨_,rfl⟩;have Oy:lb.length<=100000000000000:=by
    rw[Oi];unfold FK.pJ;cases h:FK.fG σ.now (FK.cm n)with
    |none=>exact Nat.zero_le _
    |some s=>have h1:=FK.pK h;show s.data.toList.length<=_;rw[Array.length_toList];show s.size<=_;omega
   refine aM<|aw<|az<|aq<|sT<|sQ<|sZ Z<|ea Z Z<|bN Z (au Z) (ah Z)<|dy 1 Z Z Z<|bN Z (au Z) (ah Z)<|dx 6 Z (yf Z)<|cC Z Z ?_
   refine dI 5 Z<|dP Z (jd (kind:=⟨#[108,111,103]⟩) (n:=n) In fh) aQ ?_
   rintro v m ⟨rfl,rfl⟩;refine aW<|dK [false,true] (aj (ah Z) ak) ?_
   refine dI 8 Z<|gw Z Z Z (Hw ⟨d,0,none⟩) Z hE (I8 (name:=FK.cm n) NV) gfE3 ?_
   rintro v m ⟨e9,A,c,pl,rfl,OP,N7,Or,rfl⟩;refine aE ?_;rw[d8,<-Oi]at N7 Or ⊢;refine dK [true] (aj (ah Z) ak)<|dx 9 Z (bg Z)<|bB Z (bZ Z Z)<|bB Z (bZ Z Z)<|bB Z (aX Z) ?_
   refine dI 13 Z<|cq Z Z Z Z (mq _) (by show 0<1;omega) ?_
   refine aB K #[dU e9] rfl ?_;refine ao (l':=blk K 62 #[dU e9]::blk Y 108 #[aY I]::aS I d ⟨n,false,0⟩::aI d σ1::row 9 1 (.slice A9 names.length c9) names.length (names.map cX)::blk eb 57 #[aY f]::jE f e (.pointer none)::aP e p S::pb::pl::fr) aG ?_;refine dK [false] ak<|dE<|sT ?_
   refine sQ<|cu (X:=Nat) (λ_=>[(19,.slice A lb.length c),(9,.slice A2 fb.length c2),(8,.slice A9 names.length c9),(7,aY K),(6,aY Y),(2,tL f),(1,zn eb),(0,oY d)]) (λ_=>blk K 62 #[dU e9]::blk Y 108 #[aY I]::aS I d ⟨n,false,0⟩::aI d σ1::row 9 1 (.slice A9 names.length c9) names.length (names.map cX)::blk eb 57 #[aY f]::jE f e (.pointer none)::aP e p S::pb::pl::fr) (λ_=>True) ?_ ?_
   ·refine sQ ?_
    by_cases HE:e9=0
    ·subst HE;exact sG<|aL Z Z Z Z<|sP (dF Z Z)<|sM Z<|aR Z<|aR Z<|aR Z<|aR Z<|sP (aF Z Z Z)<|sN<|ag Z<|aa<|aT 0 trivial bW aQ
    ·obtain rfl:e9=9:=OP.resolve_left HE;refine sG<|aL Z Z Z Z<|sP (fk Z Z)<|sM Z<|fM (au Z) (ah Z)<|bO (em Z Z Z) ?_
     refine iS Z Z Z<|dP Z (uu 9) aQ ?_
     rintro v m ⟨rfl,rfl⟩;exact aW<|bO (cA Z Z)<|sP (aF Z Z Z)<|sN<|ag Z<|aa<|aT 0 trivial bW aQ
   rintro - -
   refine sQ<|cu (X:=Nat×EA) (λ_=>[(19,.slice A lb.length c),(8,.slice A9 names.length c9),(7,aY K),(6,aY Y),(2,tL f),(0,oY d)]) (λy=>blk K 62 #[dU e9]::blk Y 108 #[aY I]::aS I d ⟨n,false,0⟩::aI d σ1::row 9 1 (.slice A9 names.length c9) names.length (names.map cX)::blk eb 57 #[aY f]::jE f y.1 (.pointer none)::aP y.1 y.2 S0::pl::fr) (λ_=>True) ?_ ?_
   ·refine sQ ?_
    by_cases HF:found=none
    ·obtain rfl:=mt.none HF;obtain rfl:=h0 HF;exact sG<|bY Z (pA Z Z Z)<|sN<|ag Z<|aa<|aT (e,p) trivial bW aG
    ·obtain⟨x,rfl⟩:∃x,found=some x:=by
      cases found with
      |none=>exact absurd rfl HF
      |some x=>exact⟨x,rfl⟩
     obtain rfl:=mt.some _ rfl;obtain⟨gb,OV,rfl⟩:=t8.form (hx _ rfl);refine sG<|bY Z (pA Z Z Z)<|sN<|aK Z<|sG<|sM Z<|sM Z ?_
     refine sO<|iR Z Z Z Z hE (hB _ Z pb _ c2 t8 Fd) (by show Ent _ (blk eb 57 #[aY f]::jE f e (.pointer none)::aP e p S::pb::blk K 62 #[dU e9]::blk Y 108 #[aY I]::aS I d ⟨n,false,0⟩::aI d σ1::row 9 1 (.slice A9 names.length c9) names.length (names.map cX)::pl::fr);exact aG) ?_
     rintro v m ⟨e2,p2,rfl⟩;exact bT<|ap<|aT (e2,p2) trivial bW aG
   rintro⟨e2,p2⟩ -
   refine ao (l':=blk K 62 #[dU e9]::blk Y 108 #[aY I]::aS I d ⟨n,false,0⟩::aI d σ1::row 9 1 (.slice A9 names.length c9) names.length (names.map cX)::blk eb 57 #[aY f]::jE f e2 (.pointer none)::aP e2 p2 S0::pl::fr) aQ ?_;refine sQ<|ai ?_
   refine aO (X:=List UInt8×List (List UInt8)×FK.En×EA×Option Addr×Nat×Bool) (λx=>[(19,.slice x.2.2.2.2.1 x.1.length x.2.2.2.2.2.1),(8,.slice A9 names.length c9),(7,aY K),(6,aY Y),(2,tL f),(0,oY d)]) (λx=>blk K 62 #[dU e9]::blk Y 108 #[aY I]::aS I d ⟨n,x.2.2.2.2.2.2,0⟩::aI d σ1::row 9 1 (.slice A9 names.length c9) names.length (names.map cX)::blk eb 57 #[aY f]::jE f e2 (.pointer none)::aP e2 x.2.2.2.1 x.2.2.1::pl::fr) (λx=>(x.2.2.2.2.2.2=false->FK.Parse x.1 x.2.1 t/\FK.Reds x.2.2.1 x.2.1 U)/\(x.2.2.2.2.2.2=true->t=true/\x.2.2.1=U)/\Reads pl x.2.2.2.2.1 x.1/\x.1.length<=x.2.2.2.2.2.1/\x.1.length<=100000000000000) (λx=>bif x.2.2.2.2.2.2 then 0 else x.1.length+1) (lb,l,S0,p2,A,c,false) ⟨λ_=>⟨Oi▸Oq,hR⟩,λh=>(by cases h),N7,Or,Oy⟩ bW aQ ?_;rintro⟨bs,l1,S1,p1,A1,c1,tf⟩ ⟨Ol,Ot,NY,NZ,N0⟩;simp only at Ol Ot NY NZ N0;refine ao (l':=blk K 62 #[dU e9]::blk Y 108 #[aY I]::aS I d ⟨n,tf,0⟩::aI d σ1::row 9 1 (.slice A9 names.length c9) names.length (names.map cX)::blk eb 57 #[aY f]::jE f e2 (.pointer none)::aP e2 p1 S1::pl::fr) aQ ?_;refine sQ<|bp Z<|sP (bh Z Z) (cj Z (dX (r:=decide (0<bs.length)) Z Z di) dp λf8 N4=>(sM Z ?_))
   refine bK f8 (by rfl) ?_;refine cz Z Z (λ_=>rfl) (au Z) (ah Z) ?_;refine bK f8 (by rfl) ?_;refine cz Z Z (λ_=>rfl) (cI Z) dp ?_;refine bK f8 (by rfl) ?_;refine cz Z Z (λ_=>rfl) (bd 2 Z) dp ?_;refine bK f8 (by rfl) ?_;refine cz Z Z (λ_=>rfl) (au Z) (ah Z) ?_;refine bK f8 (by rfl) ?_;refine cz Z Z (λ_=>rfl) (cA Z Z) dp ?_;refine cj Z (dV Z Z Z) dp λd7 N5=>sN ?_;refine cf Z (λd7=>?_) λd7=>?_
   ·rw[N5,N4]at d7;simp only[Bool.and_eq_true,decide_eq_true_eq,Bool.not_eq_true']at d7;obtain⟨N6,rfl⟩:=d7;obtain⟨hP,NW⟩:=Ol rfl;have Oc:bs≠[]:=λh=>by rw[h]at N6;simp at N6
    refine aa<|sT<|ai<|sQ ?_
    by_cases HX:FK.next bs=none
    ·refine sG<|sM Z ?_
     refine bQ Z (oI NY NZ (Nat.le_trans N0 am)) zh ?_;rintro v m ⟨hv,rfl⟩;refine ae ?_;obtain rfl:v=.tuple #[cB,cB,.bool false]:=by
      rcases hv with⟨_,h⟩|⟨x',r',A3,c3,A4,c4,h,_⟩
      ·exact h
      ·rw[HX]at h;cases h
     obtain⟨rfl,rfl⟩:l1=[]/\t=true:=by
      cases hP with
      |nil=>exact absurd rfl Oc
      |torn _ _=>exact⟨rfl,rfl⟩
      |cons _ h _=>rw[HX]at h;cases h
     obtain rfl:=NW.nil_eq;refine sM Z<|bG Z Z<|bG Z Z<|bG Z Z<|sA Z<|sA Z<|sB Z<|sS<|aL Z Z Z Z<|bY Z (cA Z Z)<|cZ Z<|bm 2 Z ?_
     refine bD Z Z Z Z fW ?_;refine aB I (o5 d ⟨n,true,0⟩) Z<|sN<|bp Z<|sN<|ag Z<|aa<|al ?_
     exact aH (bs,[],U,p1,A1,c1,true) ⟨λh=>(by cases h),λ_=>⟨rfl,rfl⟩,NY,NZ,N0⟩ (Nat.succ_pos _) bW aG
    ·obtain⟨x,r,d6⟩:∃x r,FK.next bs=some (x,r):=by
      cases h:FK.next bs with
      |none=>exact absurd h HX
      |some y=>exact⟨y.1,y.2,rfl⟩
     refine sG<|sM Z ?_
     refine bQ Z (oI NY NZ (Nat.le_trans N0 am)) zh ?_;rintro v m ⟨hv,rfl⟩;refine ae ?_;obtain⟨A3,c3,A4,c4,rfl,Og,Oh,OF,OG⟩:∃A3 c3 A4 c4,v=.tuple #[.slice A3 x.length c3,.slice A4 r.length c4,.bool true]/\Reads pl A3 x/\x.length<=c3/\Reads pl A4 r/\r.length<=c4:=by
      rcases hv with⟨h,_⟩|⟨x',r',A3,c3,A4,c4,h,hv,h1,h2,h3,h4⟩
      ·rw[d6]at h;cases h
      ·rw[d6]at h
       injection h with h;injection h with e1 e2;subst e1;subst e2;exact⟨A3,c3,A4,c4,hv,h1,h2,h3,h4⟩
     have O2:=FK.Js d6;obtain⟨l2,rfl,OH⟩:∃l2,l1=x::l2/\FK.Parse r l2 t:=by
      cases hP with
      |nil=>exact absurd rfl Oc
      |torn _ h=>rw[d6]at h;cases h
      |cons _ h h2=>
       rw[d6]at h;injection h with h;injection h with e1 e2;subst e1;subst e2;exact⟨_,rfl,h2⟩
     obtain⟨S2,OI,OW,OJ,OK⟩:=NW.cons_eq;refine sM Z<|bG Z Z<|bG Z Z<|bG Z Z<|sA Z<|sA Z<|sB Z<|sS<|aL Z Z Z Z<|bY Z (cA Z Z)<|cZ Z<|bm 2 Z ?_
     refine bD Z Z Z Z fW ?_;refine aB I (o5 d ⟨n,false,0⟩) Z<|sN<|bp Z<|sN<|aK Z<|bp Z<|sM Z ?_
     refine sO<|iR Z Z Z Z hE (Gk OI OJ Og Oh) (cM zg zg bJ) ?_
     rintro v m ⟨rfl,p3,rfl⟩;refine cF<|sN<|sG<|sM Z<|sA Z<|ap<|al ?_
     refine aH (r,l2,S2,p3,A4,c4,false) ⟨λ_=>⟨OH,OK⟩,λh=>(by cases h),OF,OG,by show r.length<=_;omega⟩ (by show r.length+1<bs.length+1;omega) bW aG
   ·rw[N5,N4]at d7;obtain⟨rfl,rfl⟩:tf=t/\S1=U:=by
     cases tf with
     |true=>obtain⟨h1,h2⟩:=Ot rfl;exact⟨h1.symm,h2⟩
     |false=>
      obtain⟨hP,NW⟩:=Ol rfl;have OS:bs=[]:=by
       cases bs with
       |nil=>rfl
       |cons a q=>simp at d7
      subst OS;cases hP with
      |nil=>exact⟨rfl,NW.nil_eq.symm⟩
      |torn h _=>exact absurd rfl h
      |cons h _ _=>exact absurd rfl h
    refine aM<|aw<|az<|aq<|sT<|sQ<|bp Z<|sP (bh Z Z)<|sM Z<|sN<|ai ?_
    refine aO (X:=Nat×FK.Dsk×Int) (λx=>[(142,aA x.1),(141,aA names.length),(140,.slice A9 names.length c9),(7,aY K),(6,aY Y),(0,oY d)]) (λx=>blk K 62 #[dU x.2.2]::blk Y 108 #[aY I]::aS I d ⟨n,tf,0⟩::aI d x.2.1::row 9 1 (.slice A9 names.length c9) names.length (names.map cX)::blk eb 57 #[aY f]::jE f e2 (.pointer none)::aP e2 p1 S1::fr) (λx=>x.1<=names.length/\FK.rms n (names.drop x.1) x.2.1=FK.rms n names σ1/\FK.l9 x.2.1.now<=100000000000000/\FK.l9 x.2.1.dur<=100000000000000/\x.2.1.pend.length<=x.1/\FK.jh x.2.1.pend=0) (λx=>names.length-x.1) (0,σ1,e9) ⟨Nat.zero_le _,rfl,by rw[d8];exact OA,Ou,by rw[Of];exact cx _,by rw[Of];rfl⟩ bW aG ?_;rintro⟨k,σ2,e7⟩ ⟨OQ,wf,N1,N2,OR,N3⟩;simp only at OQ wf N1 N2 OR N3;refine ao (l':=blk K 62 #[dU e7]::blk Y 108 #[aY I]::aS I d ⟨n,tf,0⟩::aI d σ2::row 9 1 (.slice A9 names.length c9) names.length (names.map cX)::blk eb 57 #[aY f]::jE f e2 (.pointer none)::aP e2 p1 S1::fr) aQ ?_;refine sS<|sP (bq Z Z Z)<|sN<|sQ ?_
    refine aC Z (λLE=>?_) λLE=>?_
    ·have NT:k<names.length:=by have:(k:Int)<(names.length:Int):=LE;omega
     obtain⟨g9,rfl⟩:=Ov am;obtain⟨s,hs⟩:∃s,names[k]?=some s:=⟨names[k],by simp[NT]⟩;have On:names.drop k=s::names.drop (k+1):=by
      obtain⟨h1,h2⟩:=gfGet.1 hs;rw[List.drop_eq_getElem_cons h1,h2]
     rw[On]at wf;refine aa<|sT<|sQ<|ai<|sS<|sP (aV (z:=1) Z Z Z Z NT) ?_
     refine bF (au (v:=cX s) Z) (ii kK (by show(names.map cX)[0+k*1]?=_;rw[Nat.zero_add,Nat.mul_one,List.getElem?_map,hs];rfl)) ?_;refine sB Z<|sQ ?_
     by_cases HO:s=FK.mu n
     ·refine sG<|sM Z<|aL Z Z Z Z<|cZ Z<|bm 1 Z<|aL Z Z Z Z ?_
      refine bV Z (jd (kind:=⟨#[98,97,115,101]⟩) (n:=n) In fh) aQ ?_;refine aW<|sP (mF (r:=false) Z Z Z (Iq HO))<|sM Z<|aR Z<|aR Z<|aR Z<|aR Z<|aR Z<|aR Z<|aR Z<|sP (aF Z Z Z)<|sN<|ag Z<|aa<|al<|sT<|sG<|sP (dM Z Z)<|sM Z<|ap ?_
      exact aH (k+1,σ2,e7) ⟨am,by rw[<-wf,FK.zC (.inl HO)],N1,N2,by show σ2.pend.length<=k+1;omega,N3⟩ (by show names.length-(k+1)<names.length-k;omega) bW aQ
     ·by_cases HL:s=FK.cm n
      ·refine sG<|sM Z<|aL Z Z Z Z<|cZ Z<|bm 1 Z<|aL Z Z Z Z ?_
       refine bV Z (jd (kind:=⟨#[98,97,115,101]⟩) (n:=n) In fh) aQ ?_;refine aW<|sP (mF (r:=true) Z Z Z (ya HO))<|sM Z<|cN Z<|fM (au Z) (ah Z)<|bO (cI Z)<|bO (bd 1 Z)<|fM (au Z) (ah Z) ?_
       refine iS Z Z Z<|dP Z (jd (kind:=⟨#[108,111,103]⟩) (n:=n) In fh) aQ ?_
       rintro v m ⟨rfl,rfl⟩;refine aW<|bO (mF (r:=false) Z Z Z (Iq HL))<|sP (aF Z Z Z)<|sN<|ag Z<|aa<|al<|sT<|sG<|sP (dM Z Z)<|sM Z<|ap ?_
       exact aH (k+1,σ2,e7) ⟨am,by rw[<-wf,FK.zC (.inr HL)],N1,N2,by show σ2.pend.length<=k+1;omega,N3⟩ (by show names.length-(k+1)<names.length-k;omega) bW aQ
      ·refine sG<|sM Z<|aL Z Z Z Z<|cZ Z<|bm 1 Z<|aL Z Z Z Z ?_
       refine bV Z (jd (kind:=⟨#[98,97,115,101]⟩) (n:=n) In fh) aQ ?_;refine aW<|sP (mF (r:=true) Z Z Z (ya HO))<|sM Z<|cN Z<|fM (au Z) (ah Z)<|bO (cI Z)<|bO (bd 1 Z)<|fM (au Z) (ah Z) ?_
       refine iS Z Z Z<|dP Z (jd (kind:=⟨#[108,111,103]⟩) (n:=n) In fh) aQ ?_
       rintro v m ⟨rfl,rfl⟩;refine aW<|bO (mF (r:=true) Z Z Z (ya HL))<|sP (aF Z Z Z)<|sN<|aK Z<|bp Z<|sM Z ?_
       refine sO<|gw Z Z Z (Lp ⟨d,0,none⟩) Z hE (Bk (name:=s) am am) gfE3 ?_
       rintro v m ⟨rfl,rfl⟩;refine ae<|bD Z Z Z (mq _) (by show 0<1;omega) ?_
       refine aB K #[dU (σ2.tell ⟨3,s,⟨#[]⟩⟩).2] rfl ?_;obtain⟨OL,OM,OX,ON⟩:=FK.KN (σ:=σ2) (s:=s);refine ao (l':=blk K 62 #[dU (σ2.tell ⟨3,s,⟨#[]⟩⟩).2]::blk Y 108 #[aY I]::aS I d ⟨n,tf,0⟩::aI d (σ2.tell ⟨3,s,⟨#[]⟩⟩).1::row 9 1 (dQ g9 names.length c9) names.length (names.map cX)::blk eb 57 #[aY f]::jE f e2 (.pointer none)::aP e2 p1 S1::fr) aG ?_;have hno:¬(s=FK.mu n\/s=FK.cm n):=λh=>h.elim HO HL;refine sN<|sQ ?_
       by_cases HZ:(σ2.tell ⟨3,s,⟨#[]⟩⟩).2=0
       ·rw[HZ,show dU 0=.nilIface from rfl];refine sG<|aL Z Z Z Z<|sP (dF Z Z)<|sN<|ag Z<|aa<|al<|sT<|sG<|sP (dM Z Z)<|sM Z<|ap ?_
        exact aH (k+1,(σ2.tell ⟨3,s,⟨#[]⟩⟩).1,0) ⟨am,by rw[<-wf,FK.M4 hno HZ],Nat.le_trans OL N1,by rw[OM];exact N2,by show(σ2.tell ⟨3,s,⟨#[]⟩⟩).1.pend.length<=k+1;omega,by rw[ON];exact N3⟩ (by show names.length-(k+1)<names.length-k;omega) bW aQ
       ·refine sG<|aL Z Z Z Z<|sP (fk Z (by rw[tx HZ];rfl))<|sN<|aK Z<|an<|aJ<|aD<|bM<|aJ<|aD ?_
        have BT:σ1.opened n (FK.iI ns)=σ2.tell ⟨3,s,⟨#[]⟩⟩:=by
         have h1:FK.rms n names σ1=σ2.tell ⟨3,s,⟨#[]⟩⟩:=by rw[<-wf,FK.I4 hno HZ]
         unfold FK.Dsk.opened;rw[<-O,h1,if_pos HZ]
        refine iv (.inl Z) Z Z hE (qX Y K HZ I) aQ ?_;rintro m rfl;refine aE ?_;refine de [aI d (σ2.tell ⟨3,s,⟨#[]⟩⟩).1] rfl (dN Z Z (ah Z)) (dN Z Z (ah Z)) ⟨_,_,_,[],.inr ⟨HS,ns,t7,by rw[<-t6,BT],by rw[<-t6,BT]⟩,rfl,rfl,λ_=>⟨rfl,rfl⟩,λh=>absurd h HZ⟩ ?_;show Ent _ (aI d (σ2.tell ⟨3,s,⟨#[]⟩⟩).1::fr);exact aG
    ·obtain rfl:k=names.length:=by have:¬(k:Int)<(names.length:Int):=LE;omega
     have Oz:FK.rms n names σ1=(σ2,0):=by rw[<-wf,List.drop_length];rfl
     have BT:σ1.opened n (FK.iI ns)=σ2.sync:=by
      unfold FK.Dsk.opened;rw[<-O,Oz,if_neg di]
     refine aM<|aw<|az<|aq<|sT<|bp Z ?_
     refine sO<|gw Z Z Z (zj ⟨d,0,none⟩) Z hE (my am am) gfE3 ?_
     rintro v m ⟨rfl,rfl⟩;refine ae<|bD Z Z Z (mq _) (by show 0<1;omega) ?_
     refine aB K #[dU σ2.sync.2] rfl ?_;refine ao (l':=blk K 62 #[dU σ2.sync.2]::blk Y 108 #[aY I]::aS I d ⟨n,tf,0⟩::aI d σ2.sync.1::blk eb 57 #[aY f]::jE f e2 (.pointer none)::aP e2 p1 S1::fr) aG ?_;refine sN<|an ?_
     by_cases HZ:σ2.sync.2=0
     ·rw[HZ,show dU 0=.nilIface from rfl]
      refine iv (.inl Z) Z Z hE (vi Y K) aQ ?_;rintro m rfl;refine ae ?_;refine de (aI d σ2.sync.1::aS I d ⟨n,tf,0⟩::Mz eb f e2 p1 S1) Z (dN Z Z (ah Z)) (dN Z Z (ah Z)) ⟨_,0,_,_,.inr ⟨HS,ns,t7,by rw[<-t6,BT],by rw[<-t6,BT,HZ]⟩,rfl,rfl,λh=>absurd Z h,λ_=>⟨I,e2,p1,rfl,rfl⟩⟩ ?_
      ·show Ent _ (aI d σ2.sync.1::aS I d ⟨n,tf,0⟩::blk eb 57 #[aY f]::jE f e2 (.pointer none)::aP e2 p1 S1::fr)
       exact aG
     ·refine iv (.inl Z) Z Z hE (qX Y K HZ I) aQ ?_
      rintro m rfl;refine aE ?_;refine de [aI d σ2.sync.1] rfl (dN Z Z (ah Z)) (dN Z Z (ah Z)) ⟨_,_,_,[],.inr ⟨HS,ns,t7,by rw[<-t6,BT],by rw[<-t6,BT]⟩,rfl,rfl,λ_=>⟨rfl,rfl⟩,λh=>absurd h HZ⟩ ?_
      ·show Ent _ (aI d σ2.sync.1::fr)
       exact aG
 ·refine sG<|aL Z Z Z Z<|sP (fk Z (by rw[tx HS];rfl))<|sN<|aK Z<|an<|aD ?_
  refine iv (.inl Z) Z Z hE (qX Y K HS I) aQ ?_;rintro m rfl;refine aE ?_;refine de [aI d σ.sync.1] rfl (dN Z Z (ah Z)) (dN Z Z (ah Z)) ⟨σ.sync.1,σ.sync.2,_,[],.inl ⟨HS,rfl,rfl⟩,rfl,rfl,λ_=>⟨rfl,rfl⟩,λh=>absurd h HS⟩ ?_;show Ent _ (aI d σ.sync.1::fr);exact aG
def Dv(c:Int)(n:Nat)(hc:i64 c)(T:0<n)(J:n<9223372036854775808):dz G 111 [aA c,aA n] [] λv m=>∃k:Int,v=aA k/\(0<=k/\k<n)/\m=[]:=by
 have I:=hc;unfold i64 at I;refine bz func111 Z λE fr Y=>aW<|sS<|sB Z<|sQ<|cu (X:=Int) (λx=>[(0,aA x),(1,aA n)]) (λ_=>fr) (λx=>0<=x) ?_ ?_
 ·refine bp Z<|sP (bq Z Z Z)<|sN<|aC Z (λK=>?_) λK=>?_
  ·refine sG<|bY Z (bH Z Z (iP am))<|sP (Nv Z (iP am))<|sA Z<|ap<|aT _ am ⟨rfl,rfl,trivial⟩ aQ
  ·refine aa<|aT c am bW aQ
 intro x O;refine bp Z<|bY Z (mK Z Z am Z)<|sB Z<|an<|ar [] rfl Z ⟨_,rfl,⟨Int.tmod_nonneg _ O,Int.tmod_lt_of_pos _ am⟩,rfl⟩ aQ
def Ek(Y:σ.pend=[])(hn:(σ.dur.map (·.1)).Nodup)(h2:i64 x):dz G 52 [aY d,aA dl,aA x] [aI d σ] λv m=>v=.tuple #[]/\∃I,I.Perm σ.dur/\m=[aI d ⟨σ.dur,I,[],-1,-1,false⟩]:=by
 obtain⟨dur,now,pend,left,full,down⟩:=σ;subst Y;refine bz func52 Z λE fr hE=>ae<|df .head λq=>bC ?_
 obtain⟨md,J,T,P⟩:=q;refine ao (l':=blk d 56 #[.map (some md),.map (some J),T,aA left,aA full,.bool down]::bX md P dur::bX J P now::fN P::row 205 3 T 0 []::fr) aQ<|aN kK ?_
 rintro A c rfl - - - - -
 refine bp Z<|cE 2 Z Z<|aL Z Z Z Z<|sP (bh Z Z)<|sP (bH (r:=1) Z Z Z)<|bQ Z (Dv x 1 h2 am am) aQ ?_
 rintro v m ⟨k,rfl,-,rfl⟩;refine aW<|sB Z<|sS<|sO (jQ cX Z λK=>(sB Z (sQ (sS (sM Z (cZ Z (bm 2 Z (aL Z Z Z Z (sP (bh Z Z) (sM Z (ap (sT<|ai (aO (X:=Nat) (λ_=>[(24,aA 0),(23,aA 0),(0,aY d)]) (λ_=>dh cX K []::blk d 56 #[.map (some md),.map (some J),.slice A 0 c,aA left,aA full,.bool down]::bX md P dur::bX J P now::fN P::row 205 3 (.slice A 0 c) 0 []::fr) (λ_=>True) (λ_=>0) 0 trivial bW aQ ?_)))))))))))))
 intro k hk;refine sS<|sP (bq Z Z Z)<|sN<|sQ<|ag Z<|aM<|aw<|az<|aq<|sT<|bp Z<|cE 3 Z Z<|bD Z Z Z Z fW<|cZ Z<|bm 4 Z<|bD Z Z Z Z fW ?_
 refine aB d #[.map (some md),.map (some J),.slice A 0 c,aA (-1),aA (-1),.bool down] rfl<|sN<|sG<|sM Z<|bQ Z (EO hn) (Ent.cons (bo bJ dm)) ?_
 rintro v m ⟨rfl,I,O,rfl⟩;refine ae<|ap<|bt [aI d ⟨dur,I,[],-1,-1,false⟩] rfl ⟨rfl,I,O,rfl⟩ ?_
 exact aG
section
variable{fp:Option Addr}{C:FK.Dsk->Prop}{ke pa:Int}
def FPost(d:Nat)(σ:FK.Dsk)(n:Nat)(U:FK.En)(v:Value)(m:List HP):Prop:=
 ∃E x u mm,FK.xR σ n E x/\v=.tuple #[u,dU x]/\m=aI d E::mm/\(x≠0->u=.pointer none/\mm=[])/\(x=0->∃f e j p,u=aY f/\mm=[dO f e j,aP e p U,aS j d ⟨n,false,0⟩])
def BX(hJ:∀J f e p,dS 45 [oY d,zn J,tL f] (aI d σ::Mz J f e p FK.En.fresh) (H5 d J f σ n false U)) :
 dS 15 [oY d] [aI d σ] (FPost d σ n U):=by
 refine bz func15 Z λE fr hE=>ae<|sS<|sA Z<|sB Z<|sS<|bQ Z E9 aQ ?_
 rintro v m ⟨e,p,rfl,rfl⟩;refine ae<|sP (bI (ps:=[(0,.tmp 8)]) (vs:=[aY e]) (cs:=#[aY e,.pointer none]) Z Z Z Z Z)<|sO (cP Z Z λI=>(sO (cO (z:=.pointer none) Z λJ=>bD Z Z Z Z fW ?_)))
 refine aB J #[aY I] rfl<|aB I #[aY e,.pointer none] rfl<|ao (l':=aI d σ::blk J 57 #[aY I]::jE I e (.pointer none)::aP e p FK.En.fresh::fr) aG<|sN<|bp Z<|sP (gj Z Z)<|aL Z Z Z Z<|sP (gj Z Z)<|bQ Z (hJ J I e p) aQ ?_
 rintro v m ⟨O,x,u,mm,ho,rfl,rfl,hno,Y⟩;refine sM Z<|bG Z Z<|bG Z Z<|sA Z<|sB Z<|sQ<|sQ ?_
 by_cases HX:x=0
 ·obtain⟨j,K,T,rfl,rfl⟩:=Y HX;subst HX;refine ao (l':=blk J 57 #[aY I]::jE I K (.pointer none)::aP K T U::aS j d ⟨n,false,0⟩::aI d O::fr) (by show Ent (aI d O::aS j d ⟨n,false,0⟩::blk J 57 #[aY I]::jE I K (.pointer none)::aP K T U::fr) _;exact aG)<|sG<|bY Z (dF Z Z)<|sN<|ag Z<|aa<|sT<|sS<|aL Z Z Z Z<|cE 1 Z Z<|bD Z Z Z Z (by show 1<2;decide) ?_
  refine aB I #[aY K,aY j] rfl<|ao (l':=aS j d ⟨n,false,0⟩::dO I K j::aI d O::aP K T U::blk J 57 #[aY I]::fr) aG<|sN<|sQ<|bp Z<|bV Z wx aQ<|ae<|sN<|ag Z<|aa<|sT<|sS<|aL Z Z Z Z<|sA Z<|sB Z<|an<|dr (aI d O::[dO I K j,aP K T U,aS j d ⟨n,false,0⟩]) Z Z Z ⟨O,0,_,_,ho,rfl,rfl,λh=>absurd Z h,λ_=>⟨I,K,j,T,rfl,rfl⟩⟩ ?_
  exact aG
 ·obtain⟨rfl,rfl⟩:=hno HX;refine ao (l':=aI d O::fr) aQ<|sG<|bY Z (fk Z (by rw[tx HX];rfl))<|sN<|aK Z<|bp Z<|sA Z<|sB Z<|an<|aD<|dr [aI d O] rfl Z Z ⟨O,x,_,[],ho,rfl,rfl,λ_=>⟨rfl,rfl⟩,λh=>absurd h HX⟩ aQ
def yJ(l fu ke pa:Int)(hd:σ.down=true)(hC:dz G 52 [aY d,aA ke,aA pa] [aI d σ] λv m=>v=.tuple #[]/\∃T:FK.Dsk,C T.rested/\m=[aI d T]) :
 dz G 16 [aY h,mf l fu ke pa] [db h d fp,aI d σ] λv m=>v=.tuple #[]/\∃T,C T/\m=[db h d none,aI d T]:=by
 obtain⟨dur,now,pend,left,full,down⟩:=σ;subst hd;refine bz func16 Z λE fr hE=>aE<|df bJ λq=>bC<|ao (l':=nh d q ⟨dur,now,pend,left,full,true⟩ (db h d fp::fr)) aQ<|sS<|sO (cP Z Z λb3=>(sN (sQ (sS (sM Z (cZ Z (bm 0 Z (aL Z Z Z Z (cZ Z (bm 5 Z (aL Z Z Z Z (sN (aK Z (sS (cE 1 Z Z (bD Z Z Z Z fW ?_))))))))))))))))
 refine aB h #[aY d,.pointer none] rfl<|ao (l':=aI d ⟨dur,now,pend,left,full,true⟩::db h d none::blk b3 31 (ct l fu ke pa).toArray::fr) (Ent.trans (by show Ent (db h d none::blk b3 31 (ct l fu ke pa).toArray::blk d 56 (iU q ⟨dur,now,pend,left,full,true⟩)::bX q.md q.P dur::bX q.mn q.P now::fN q.P::row 205 3 q.pv pend.length (jB pend)::fr) (blk d 56 (iU q ⟨dur,now,pend,left,full,true⟩)::bX q.md q.P dur::bX q.mn q.P now::fN q.P::row 205 3 q.pv pend.length (jB pend)::db h d none::blk b3 31 (ct l fu ke pa).toArray::fr);exact aG) (cU (d:=d) q ⟨dur,now,pend,left,full,true⟩ (r:=db h d none::blk b3 31 (ct l fu ke pa).toArray::fr)))<|sN<|sZ Z<|ea Z Z<|dy 0 Z Z Z<|bN Z (au Z) (ah Z)<|bB Z (bd 2 Z)<|bN Z (au Z) (ah Z)<|bB Z (bd 3 Z)<|bN Z (au Z) (ah Z)<|dI 8 Z<|dP Z hC aQ ?_
 rintro v m ⟨rfl,T,d7,rfl⟩;refine ae<|dK [false,false,false] ak<|dE<|sT ?_
 obtain⟨K,O,I,Y,d6,J⟩:=T;refine df .head λq2=>bC<|ao (l':=nh d q2 ⟨K,O,I,Y,d6,J⟩ (db h d none::blk b3 31 (ct l fu ke pa).toArray::fr)) aQ<|sZ Z<|ea Z Z<|dy 0 Z Z Z<|bN Z (au Z) (ah Z)<|cC Z Z<|dy 0 Z Z Z<|bN Z (au Z) (ah Z)<|dy 3 Z Z Z<|dI 10 Z<|cq Z Z Z Z Z fW<|dK [false,false] ak<|dx 11 Z (cI Z)<|bB Z (bd 4 Z)<|dI 13 Z<|cq Z Z Z Z Z fW ?_
 refine dK [] ak<|dE<|aB d (iU q2 ⟨K,O,I,-1,-1,J⟩) Z<|bt [db h d none,aI d ⟨K,O,I,-1,-1,J⟩] rfl ⟨rfl,_,d7,rfl⟩<|Ent.trans ?_ ((cU (d:=d) q2 ⟨K,O,I,-1,-1,J⟩ (r:=db h d none::fr)).trans gfE1)
 exact aG
def yK(l I ke pa:Int)(J:σ.down=false->C σ.rested)(K:σ.down=true->dz G 52 [aY d,aA ke,aA pa] [aI d σ] λv m=>v=.tuple #[]/\∃E:FK.Dsk,C E.rested/\m=[aI d E]) :
 dz G 16 [aY h,mf l I ke pa] [db h d fp,aI d σ] λv m=>v=.tuple #[]/\∃E,C E/\m=[db h d (bif σ.down then none else fp),aI d E]:=by
 cases hd:σ.down with
 |true=>exact yJ l I ke pa hd (K hd)
 |false=>exact(fE l I ke pa hd).mono λv m ⟨O,T⟩=>⟨m,⟨O,_,J hd,T⟩,aQ⟩
def Jh{α:Type}{a b:List α}(h:a.Perm b)(E:b.length<=1):a=b:=by
 match b,E with
 | [],_=>exact List.perm_nil.1 h
 | [x],_=>exact List.perm_singleton.1 h
def sb(hk:FK.Klo l σ)(K:i64 pa):dz G 52 [aY d,aA ke,aA pa] [aI d σ] λv m=>v=.tuple #[]/\∃I:FK.Dsk,(FK.Klo l I.rested/\FK.Quiet I.rested)/\I.rested=I/\m=[aI d I]:=by
 have E:σ.dur.length<=1:=by rw[<-hk.now];exact hk.vols.2.2
 refine(Ek hk.pend (by match σ.dur,E with | [],_=>simp | [x],_=>simp) K).mono ?_;rintro v m ⟨rfl,J,O,rfl⟩;obtain rfl:=Jh O E;exact⟨_,⟨rfl,⟨σ.dur,σ.dur,[],-1,-1,false⟩,⟨⟨hk.files,rfl,rfl⟩,rfl,rfl,rfl,rfl⟩,rfl,rfl⟩,aQ⟩
def n8(hk:FK.Klo l σ)(K:i64 pa):dz G 29 [aY h,aA ke,aA pa] [db h d fp,aI d σ] λv m=>v=.tuple #[]/\∃I,(FK.Klo l I/\FK.Quiet I)/\m=[db h d none,aI d I]:=by
 refine bz func29 Z λE fr T=>aE<|sS<|cE 1 Z Z<|bD Z Z Z Z fW ?_
 refine aB h #[aY d,.pointer none] rfl<|sN<|sG<|cE 0 Z Z<|aL Z Z Z Z<|sM Z<|sM Z<|bQ Z (sb hk K) gfE1 ?_
 rintro v m ⟨rfl,I,J,O,rfl⟩;refine ae<|ap<|bt [db h d none,aI d I] rfl ⟨rfl,I,O▸J,rfl⟩ ?_
 exact aG
def BB(hk:FK.Klo l σ)(hl:(FK.frames l).length<=1000000000)(I:FK.Reds FK.En.fresh l U) :
 dS 45 [oY d,zn n,tL f] (aI d σ::Mz n f e p FK.En.fresh) (H5 d n f σ 0 false U):=by
 obtain⟨T,Y,h3⟩:=hk.vols;refine BC (found:=none) (l:=l) (S0:=FK.En.fresh) (by rw[T];omega) (by rw[Y,hk.pend];show _+0<=_;omega) (by rw[hk.pend];simp) am (λs J=>?_) (λns K=>hk.scan K) ?_ I (λ_=>rfl) (λx h=>by cases h) (λx h=>by cases h)
 ·rw[hk.names s J]
  refine⟨by decide +kernel,λk h=>?_⟩;unfold FK.me at h;rw[wY,wZ]at h;cases h
 ·rw[hk.log]
  have:=FK.Parse.frames .nil (l:=l) λx O=>by have:=I.lens x O;omega
  simpa using this
def n7{J:Int}(hk:FK.Klo l σ)(hd:σ.down=false)(hL:i64 dl)(hF:i64 J)(f8:i64 pa)(hl:(FK.frames l).length<=1000000000)(hR:FK.Reds FK.En.fresh l U) :
 dS 7 [aY h,mf dl J ke pa] [db h d fp,aI d σ] λv m=>∃x T mm,v=aA x/\FK.Klo l T/\FK.Quiet T/\(x=0->∃f e j p,mm=[bE h d f,dO f e j,aP e p U,aS j d FK.J0])/\(x≠0->(x=10\/x=11)/\(0<=dl\/0<=J)/\mm=[db h d none])/\m=aI d T::mm:=by
 have f7:FK.Klo l {σ with left:=dl,full:=J}:=⟨hk.files,hk.now,hk.pend⟩;have mt:FK.Spent dl J 0 {σ with left:=dl,full:=J}:=⟨by show dl=IntKind.i64.wrap (dl-((0:Nat):Int));rw[iP (by unfold i64 at hL;omega)];simp,by show J=IntKind.i64.wrap (J-((0:Nat):Int));rw[iP (by unfold i64 at hF;omega)];simp,hd⟩;refine bz func7 Z λE fr hE=>aE<|sS<|sO (cP Z Z λY=>(sB Z (sS (sM Z (bF (bR (vs:=ct dl J ke pa) Z) (bl Z) (bV Z (eM dl J ke pa) (bo bJ bJ) (aE (ao (l':=db h d fp::aI d {σ with left:=dl,full:=J}::blk Y 31 (ct dl J ke pa).toArray::fr) (by show Ent (_::_::blk Y 31 (ct dl J ke pa).toArray::_) _;exact aG) (sN<|sS<|cE 0 Z Z<|aL Z Z Z Z<|sP (em Z Z Z) (bQ Z (BX λ_ _ _ _=>BB f7 hl hR) gfE1 ?_))))))))))
 rintro v m ⟨K,x,u,mm,ho,rfl,rfl,hno,d8⟩;obtain⟨O,d6,d7⟩:=f7.opened mt hL hF am ho;refine sM Z<|bG Z Z<|bG Z Z<|sA Z<|sB Z<|sQ ?_
 by_cases HX:x=0
 ·obtain⟨f,e,j,p,rfl,rfl⟩:=d8 HX;subst HX;refine ao (l':=db h d fp::aI d K::dO f e j::aP e p U::aS j d FK.J0::blk Y 31 (ct dl J ke pa).toArray::fr) (by show Ent (aI d K::dO f e j::aP e p U::aS j d FK.J0::db h d fp::blk Y 31 (ct dl J ke pa).toArray::fr) _;exact aG)<|sG<|sM Z<|cE 1 Z Z<|bD Z Z Z Z fW ?_
  refine aB h #[aY d,aY f] rfl<|sN<|sQ<|bp Z<|sP (dF Z Z)<|sN<|ag Z<|aa<|sT<|bp Z<|bF (bR (vs:=ct dl J ke pa) Z) (bl Z) ?_
  refine bV Z (fE (σ:=K) dl J ke pa (d6 Z)) aQ<|aE<|sN<|bp Z<|bV Z jR aQ<|aW<|sB Z<|an<|ar (aI d K.rested::[bE h d f,dO f e j,aP e p U,aS j d FK.J0]) Z Z ⟨0,_,_,rfl,O.rested (-1) (-1) K.down,⟨d6 Z,rfl,rfl,O.pend⟩,λ_=>⟨f,e,j,p,rfl⟩,λh=>absurd Z h,rfl⟩ ?_
  exact aG
 ·obtain⟨rfl,rfl⟩:=hno HX;refine ao (l':=db h d fp::aI d K::blk Y 31 (ct dl J ke pa).toArray::fr) (by show Ent (aI d K::db h d fp::blk Y 31 (ct dl J ke pa).toArray::fr) _;exact aG)<|sG<|sM Z<|cE 1 Z Z<|bD Z Z Z Z fW ?_
  refine aB h #[aY d,.pointer none] rfl<|sN<|sQ<|bp Z<|sP (fk Z (by rw[tx HX];rfl))<|sN<|aK Z<|sG<|cE 1 Z Z<|bD Z Z Z Z fW ?_
  refine aB h #[aY d,.pointer none] rfl<|sN<|bp Z<|bF (bR (vs:=ct dl J ke pa) Z) (bl Z) ?_
  refine bQ Z (yK (σ:=K) (fp:=none) (C:=λT=>FK.Klo l T/\FK.Quiet T) dl J ke pa (λf9=>⟨O.rested (-1) (-1) K.down,f9,rfl,rfl,O.pend⟩) (λ_=>(sb O f8).mono λv m ⟨a1,T,a2,_,a4⟩=>⟨m,⟨a1,T,a2,a4⟩,aQ⟩)) aQ ?_;rintro v m ⟨rfl,σ2,d9,rfl⟩;refine aE<|sN<|bp Z<|bV Z (ip x) aQ<|aW<|sB Z<|an<|ar [aI d σ2,db h d none] rfl Z ⟨x,σ2,_,rfl,d9.1,d9.2,λh=>absurd h HX,λh=>⟨(d7 h).1,(d7 h).2,rfl⟩,rfl⟩ ?_
  rw[show(bif K.down then none else none:Option Addr)=none by cases K.down<;>rfl];exact aG
end
def J1{x:FK.Stp}:∀j v,(ct x.l x.fu x.ke x.pa)[j]?=some v->(iH x).toArray[5+j]?=some v:=λj v h=>by
 match j,h with
 |0,h=>exact h
 |1,h=>exact h
 |2,h=>exact h
 |3,h=>exact h
 |_+4,h=>cases h
abbrev stpV(x:FK.Stp):Value:=.agg (iH x).toArray
def NI(w h d N:Nat)(S:FK.En)(eb:Nat)(a:RfA)(ns:List ND)(M:FR.En)(v:Value)(m:List HP):Prop:=v=.bool true/\∃f e j p σ,Live N S M FK.J0 σ/\m=gh w h f e j d p S FK.J0 σ eb a ns M
section
variable{w j:Nat}{x:FK.Stp}
def Es(hL:Live N S M J σ)(hN:N<=30000)(h1:i64 x.l)(h2:i64 x.fu)(h3:i64 x.pa):dS 11 [aY w,stpV x] (gh w h f e j d p S J σ eb a ns M) (NI w h d N S eb a ns M):=by
 obtain⟨l,O,d6⟩:=hL.lg;have hR:=O.reds;have hl:(FK.frames l).length<=1000000000:=Nat.le_trans O.len am;have NT:=hL.dk.quiet;refine bz func11 Z λE fr hE=>ge<|sS<|sO (cP Z Z λI=>(aB I (iH x).toArray Z (sB Z (sQ<|cu (X:=Option Addr×FK.Dsk) (λ_=>[(0,aY w),(3,aY I)]) (λy=>db h d y.1::aI d y.2::cH w h (aY eb) dA false false::aZ eb a ns M::bx ns::blk I 48 (iH x).toArray::fr) (λy=>FK.Klo l y.2/\y.2.down=false) ?_ ?_))))
 ·refine sS<|bm 1 Z<|bF (au (v:=aU x.n) Z) (ah Z)<|sP (mK (r:=((x.n%2:Nat):Int)) Z Z fh (by rw[Int.tmod_eq_emod_of_nonneg am];rfl))<|sP (bc Z Z Z)<|sN<|aC Z (λd9=>?_) λd9=>?_
  ·refine ao (l':=bE h d f::aI d σ::cH w h (aY eb) dA false false::aZ eb a ns M::bx ns::blk I 48 (iH x).toArray::fr) (by show Ent (blk I 48 (iH x).toArray::bE h d f::dO f e j::aP e p S::aS j d J::aI d σ::cH w h (aY eb) dA false false::aZ eb a ns M::bx ns::fr) _;exact aG)<|sQ<|sZ Z<|ea Z Z<|dy 0 Z Z Z<|bN Z (au (v:=aY h) Z) (ah Z)<|bB Z (bd 5 Z)<|bB Z (bd 2 Z)<|bN Z (au (v:=aA x.ke) Z) (ah Z)<|bB Z (bd 5 Z)<|bB Z (bd 3 Z)<|bN Z (au (v:=aA x.pa) Z) (ah Z)<|dI 10 Z<|dP Z (n8 d6 h3) aQ ?_
   rintro v m ⟨rfl,σ1,⟨f8,f9⟩,rfl⟩;refine aE<|dK [false,false,false] ak<|dE<|sT<|sQ<|sZ Z<|ea Z Z<|dy 0 Z Z Z<|bN Z (au (v:=aY h) Z) (ah Z)<|bB Z (bd 5 Z)<|bN Z (bR (vs:=ct x.l x.fu x.ke x.pa) Z) (kF J1)<|dI 6 Z<|dP Z (n7 f8 f9.down h1 h2 h3 hl hR) aQ ?_
   rintro v m ⟨x5,σ2,mm,rfl,mt,NV,K,hno,rfl⟩;obtain⟨fp,f7⟩:∃fp,Ent (aI d σ2::mm++(cH w h (aY eb) dA false false::aZ eb a ns M::bx ns::blk I 48 (iH x).toArray::fr)) (db h d fp::aI d σ2::cH w h (aY eb) dA false false::aZ eb a ns M::bx ns::blk I 48 (iH x).toArray::fr):=by
    by_cases HX:x5=0
    ·obtain⟨f1,e1,j1,p1,rfl⟩:=K HX
     exact⟨some ⟨f1,0,none⟩,by show Ent (aI d σ2::bE h d f1::dO f1 e1 j1::aP e1 p1 S::aS j1 d FK.J0::cH w h (aY eb) dA false false::aZ eb a ns M::bx ns::blk I 48 (iH x).toArray::fr) _;exact aG⟩
    ·obtain⟨_,_,rfl⟩:=hno HX
     exact⟨none,by show Ent (aI d σ2::db h d none::cH w h (aY eb) dA false false::aZ eb a ns M::bx ns::blk I 48 (iH x).toArray::fr) _;exact aG⟩
   refine ao f7<|dK [false,false] ak<|dx 7 Z (aX Z)<|dE<|sT<|sQ<|cu (X:=Nat) (λ_=>[(0,aY w),(3,aY I)]) (λ_=>db h d fp::aI d σ2::cH w h (aY eb) dA false false::aZ eb a ns M::bx ns::blk I 48 (iH x).toArray::fr) (λ_=>True) ?_ ?_
   ·refine sQ ?_
    by_cases HX:x5=0
    ·subst HX;refine sG<|bY Z (cy (r:=false) Z Z Z)<|sM Z<|aR Z<|aR Z<|sP (aF Z Z Z)<|sM Z<|aR Z<|aR Z<|sP (aF Z Z Z)<|sM Z<|cN Z<|bO (cy Z Z Z)<|cN Z<|aR Z<|aR Z<|aR Z<|aR Z<|bO (aF Z Z Z)<|cN Z<|aR Z<|aR Z<|aR Z<|aR Z<|bO (aF Z Z Z)<|sP (aF Z Z Z)<|sN<|ag Z<|aa<|aT 0 trivial bW aQ
    ·by_cases HY:x5=11
     ·subst HY
      by_cases HZ:x.l<0
      ·have HW:¬x.fu<0:=by have:=(hno fh).2.1;omega
       refine sG<|bY Z (cy (r:=true) Z Z Z)<|sM Z<|cN Z<|bO (cy Z Z Z)<|sP (aF Z Z Z)<|sM Z<|aR Z<|aR Z<|sP (aF Z Z Z)<|sM Z<|cN Z<|bO (cy Z Z Z)<|cN Z<|bO (bd 5 Z)<|bO (bd 0 Z)<|fM (au (v:=aA x.l) Z) (ah Z)<|bO (g8 Z Z HZ)<|bO (aF Z Z Z)<|cN Z<|bO (bd 5 Z)<|bO (bd 1 Z)<|fM (au (v:=aA x.fu) Z) (ah Z)<|bO (cK Z Z HW)<|bO (aF Z Z Z)<|sP (aF Z Z Z)<|sN<|ag Z<|aa<|aT 0 trivial bW aQ
      ·refine sG<|bY Z (cy (r:=true) Z Z Z)<|sM Z<|cN Z<|bO (cy Z Z Z)<|sP (aF Z Z Z)<|sM Z<|aR Z<|aR Z<|sP (aF Z Z Z)<|sM Z<|cN Z<|bO (cy Z Z Z)<|cN Z<|bO (bd 5 Z)<|bO (bd 0 Z)<|fM (au (v:=aA x.l) Z) (ah Z)<|bO (cK Z Z HZ)<|bO (aF Z Z Z)<|cN Z<|aR Z<|aR Z<|aR Z<|aR Z<|bO (aF Z Z Z)<|sP (aF Z Z Z)<|sN<|ag Z<|aa<|aT 0 trivial bW aQ
     ·obtain rfl:x5=10:=(hno HX).1.resolve_right HY
      by_cases HZ:x.l<0
      ·have HW:¬x.fu<0:=by have:=(hno fh).2.1;omega
       refine sG<|bY Z (cy (r:=true) Z Z Z)<|sM Z<|cN Z<|bO (cy Z Z Z)<|sP (aF Z Z Z)<|sM Z<|cN Z<|bO (cy Z Z Z)<|sP (aF Z Z Z)<|sM Z<|cN Z<|bO (cy Z Z Z)<|cN Z<|bO (bd 5 Z)<|bO (bd 0 Z)<|fM (au (v:=aA x.l) Z) (ah Z)<|bO (g8 Z Z HZ)<|bO (aF Z Z Z)<|cN Z<|bO (bd 5 Z)<|bO (bd 1 Z)<|fM (au (v:=aA x.fu) Z) (ah Z)<|bO (cK Z Z HW)<|bO (aF Z Z Z)<|sP (aF Z Z Z)<|sN<|ag Z<|aa<|aT 0 trivial bW aQ
      ·refine sG<|bY Z (cy (r:=true) Z Z Z)<|sM Z<|cN Z<|bO (cy Z Z Z)<|sP (aF Z Z Z)<|sM Z<|cN Z<|bO (cy Z Z Z)<|sP (aF Z Z Z)<|sM Z<|cN Z<|bO (cy Z Z Z)<|cN Z<|bO (bd 5 Z)<|bO (bd 0 Z)<|fM (au (v:=aA x.l) Z) (ah Z)<|bO (cK Z Z HZ)<|bO (aF Z Z Z)<|cN Z<|aR Z<|aR Z<|aR Z<|aR Z<|bO (aF Z Z Z)<|sP (aF Z Z Z)<|sN<|ag Z<|aa<|aT 0 trivial bW aQ
   rintro - -
   refine sZ Z<|ea Z Z<|dy 0 Z Z Z<|bN Z (au (v:=aY h) Z) (ah Z)<|bB Z (bd 5 Z)<|bB Z (bd 2 Z)<|bN Z (au (v:=aA x.ke) Z) (ah Z)<|bB Z (bd 5 Z)<|bB Z (bd 3 Z)<|bN Z (au (v:=aA x.pa) Z) (ah Z)<|dI 10 Z<|dP Z (n8 mt h3) aQ ?_
   rintro v m ⟨rfl,σ4,⟨t6,t7⟩,rfl⟩;exact aE<|dK [false,false,false] ak<|dE<|aT (none,σ4) ⟨t6,t7.down⟩ bW aQ
  ·refine aa<|aT (some ⟨f,0,none⟩,σ) ⟨d6,NT.down⟩ bW (by show Ent (blk I 48 (iH x).toArray::bE h d f::dO f e j::aP e p S::aS j d J::aI d σ::cH w h (aY eb) dA false false::aZ eb a ns M::bx ns::fr) _;exact aG)
 rintro⟨fp,σ3⟩ ⟨t8,wf⟩;refine ao (l':=db h d fp::aI d σ3::cH w h (aY eb) dA false false::aZ eb a ns M::bx ns::blk I 48 (iH x).toArray::fr) aQ<|sQ<|sZ Z<|ea Z Z<|dy 0 Z Z Z<|bN Z (au (v:=aY h) Z) (ah Z)<|dI 4 Z<|dP Z oC aQ ?_
 rintro v m ⟨rfl,rfl⟩;refine aW<|dK [true] (aj (ah Z) ak)<|dI 5 Z<|dP Z (n7 t8 wf (by unfold i64;omega) (by unfold i64;omega) (by unfold i64;omega) hl hR) aQ ?_
 rintro v m ⟨x6,σ5,mm,rfl,d7,BT,K,hno,rfl⟩;obtain rfl:x6=0:=by
  refine Classical.byContradiction λh=>?_;have:=(hno h).2.1;omega
 obtain⟨T,e2,Y,p2,rfl⟩:=K rfl;have NU:Live N S M FK.J0 σ5:=hL.anew BT O d7;refine ao (l':=bE h d T::dO T e2 Y::aP e2 p2 S::aS Y d FK.J0::aI d σ5::cH w h (aY eb) dA false false::aZ eb a ns M::bx ns::blk I 48 (iH x).toArray::fr) (by show Ent (aI d σ5::bE h d T::dO T e2 Y::aP e2 p2 S::aS Y d FK.J0::cH w h (aY eb) dA false false::aZ eb a ns M::bx ns::blk I 48 (iH x).toArray::fr) _;exact aG)<|dK [false] ak<|dx 6 Z (aX Z)<|dE<|sT<|sQ<|bp Z<|sP (cy (r:=false) Z Z Z)<|sN<|ag Z<|aa<|sT<|bp Z<|cE 1 Z Z<|bF (au (v:=aY eb) Z) (ah Z)<|bV Z (mW NU.pair am) aQ<|ao (l':=bE h d T::dO T e2 Y::aP e2 p2 S::aS Y d FK.J0::aI d σ5::cH w h (aY eb) dA false false::aZ eb a ns M::bx ns::blk I 48 (iH x).toArray::fr) aQ<|sB Z<|sQ<|bp Z<|sP (cA (r:=false) Z Z)<|sM Z<|aR Z<|aR Z<|aR Z<|aR Z<|aR Z<|sP (aF Z Z Z)<|sN<|ag Z<|aa<|sT<|sQ<|bp Z<|sP (cA (r:=false) Z Z)<|sN<|ag Z<|aa<|sT<|sS<|cE 2 Z Z<|bD Z Z Z Z fW ?_
 refine aB w (Cr h (aY eb) dA false false) Z<|sN<|sS<|cE 3 Z Z<|bD Z Z Z Z fW ?_
 refine aB w (Cr h (aY eb) dA false false) Z<|sN<|sS<|cE 4 Z Z<|bD Z Z Z Z fW ?_
 refine aB w (Cr h (aY eb) dA false false) Z<|ao (l':=bE h d T::aI d σ5::cH w h (aY eb) dA false false::aZ eb a ns M::bx ns::blk I 48 (iH x).toArray::fr) (by show Ent (cH w h (aY eb) dA false false::bE h d T::dO T e2 Y::aP e2 p2 S::aS Y d FK.J0::aI d σ5::aZ eb a ns M::bx ns::blk I 48 (iH x).toArray::fr) _;exact aG)<|sN<|sQ<|sZ Z<|ea Z Z<|dy 0 Z Z Z<|bN Z (au (v:=aY h) Z) (ah Z)<|bB Z (bd 5 Z)<|bB Z (bd 2 Z)<|bN Z (au (v:=aA x.ke) Z) (ah Z)<|bB Z (bd 5 Z)<|bB Z (bd 3 Z)<|bN Z (au (v:=aA x.pa) Z) (ah Z)<|dI 10 Z<|dP Z (n8 d7 h3) aQ ?_
 rintro v m ⟨rfl,σ6,⟨Fd,In⟩,rfl⟩;refine aE<|dK [false,false,false] ak<|dE<|sT<|sQ<|sZ Z<|ea Z Z<|dy 0 Z Z Z<|bN Z (au (v:=aY h) Z) (ah Z)<|dI 4 Z<|dP Z oC aQ ?_
 rintro v m ⟨rfl,rfl⟩;refine aW<|dK [true] (aj (ah Z) ak)<|dI 5 Z<|dP Z (n7 Fd In.down (by unfold i64;omega) (by unfold i64;omega) (by unfold i64;omega) hl hR) aQ ?_
 rintro v m ⟨x7,σ7,mm,rfl,LE,LT,K,hno,rfl⟩;obtain rfl:x7=0:=by
  refine Classical.byContradiction λh=>?_;have:=(hno h).2.1;omega
 obtain⟨f3,e3,j3,p3,rfl⟩:=K rfl;have d8:Live N S M FK.J0 σ7:=hL.anew LT O LE;refine ao (l':=bE h d f3::dO f3 e3 j3::aP e3 p3 S::aS j3 d FK.J0::aI d σ7::cH w h (aY eb) dA false false::aZ eb a ns M::bx ns::blk I 48 (iH x).toArray::fr) (by show Ent (aI d σ7::bE h d f3::dO f3 e3 j3::aP e3 p3 S::aS j3 d FK.J0::cH w h (aY eb) dA false false::aZ eb a ns M::bx ns::blk I 48 (iH x).toArray::fr) _;exact aG)<|dK [false] ak<|dx 6 Z (aX Z)<|dE<|sT<|bp Z<|cE 1 Z Z<|bF (au (v:=aY eb) Z) (ah Z)<|bV Z (mW d8.pair am) aQ<|ao (l':=bE h d f3::dO f3 e3 j3::aP e3 p3 S::aS j3 d FK.J0::aI d σ7::cH w h (aY eb) dA false false::aZ eb a ns M::bx ns::blk I 48 (iH x).toArray::fr) aQ<|sB Z<|bp Z<|sM Z<|cN Z<|bO (bc (r:=true) Z Z Z)<|sP (aF Z Z Z)<|sB Z<|an<|ar (gh w h f3 e3 j3 d p3 S FK.J0 σ7 eb a ns M) Z Z ⟨rfl,f3,e3,j3,p3,σ7,d8,rfl⟩ ?_
 exact aG
end
abbrev wj(k:Nat)(K:Int):Bool:=decide (1<=k)&&decide (K=10)
abbrev kI(E:Nat):HP:=blk E 3 #[aA 10]
theorem Du{l:List FK.Stp}(hG:Good E0)(h0:E0.is w0)(hN:StepsAt w0 w0.heap.size A c l):Does prog (λE=>E=E0) 4 [.slice A l.length c,dQ n 1 1,.bool false].toArray [old E0 w0,kI n] λv m=>v=.bool true/\m=[old E0 w0,kI n]:=by
 refine bz func4 Z λE fr hE=>aE ?_;obtain rfl:E=E0:=hE;replace hE:=hG;refine sS<|sB Z<|bp Z<|sO<|nE Z Z Z hE (AU A c l) (CL .head h0 hN) ?_
 rintro v m ⟨⟨r,rfl,hr⟩,rfl⟩;refine aW<|sB Z<|sQ<|bp Z<|sP (cA Z Z)<|sN ?_
 refine cf Z (λf8=>?_) λf8=>?_
 ·exact sS<|sB Z<|an<|aD<|ar [old E w0,kI n] rfl Z ec aQ
 ·obtain rfl:r=true:=by simpa using f8
  obtain⟨hl,LE⟩:=hr rfl;refine aa<|sT<|sS ?_
  refine bQ Z yD aQ ?_;rintro v m ⟨h,d,rfl,rfl⟩;refine aE<|sB Z<|bp Z ?_
  refine bV Z oC aQ ?_;refine aW ?_;refine bQ Z BK aQ ?_;rintro v m ⟨rfl,f,e,j,p,rfl⟩;refine ao (l':=bE h d f::dO f e j::aP e p FK.En.fresh::aS j d FK.J0::aI d FK.e0::old E w0::kI n::fr) aQ ?_;refine sB Z<|bp Z ?_
  refine bV Z zW aQ ?_;refine ae<|sB Z<|sQ<|bp Z<|sP (cy (r:=false) Z Z Z)<|sM Z<|cN Z<|bO (cA (r:=false) Z Z)<|sP (aF Z Z Z)<|sN<|ag Z<|aa<|sT<|sS ?_
  refine bY Z (bI (ps:=[]) (vs:=[]) (cs:=sm tI FR.En.zero) Z Z Z Z Z)<|sO (cP Z Z λT=>(aB T (sm tI FR.En.zero) Z (ao Gj (sP (bI (ps:=[(0,.tmp 32),(1,.tmp 34)]) (vs:=[aY h,aY T]) (cs:=Cr h (aY T) dA false false) Z Z Z Z Z) (sO (cP Z Z λI=>(aB I (Cr h (aY T) dA false false) Z ?_)))))))
  refine ao (l':=bE h d f::dO f e j::aP e p FK.En.fresh::aS j d FK.J0::aI d FK.e0::cH I h (aY T) dA false false::aZ T tI [] FR.En.zero::bx []::old E w0::kI n::fr) (by show Ent (cH I h (aY T) dA false false::aZ T tI [] FR.En.zero::bx []::bE h d f::dO f e j::aP e p FK.En.fresh::aS j d FK.J0::aI d FK.e0::old E w0::kI n::fr) _;exact aG) ?_;refine sB Z<|bp Z<|cE 1 Z Z<|bF (au (v:=aY T) Z) (ah Z) ?_
  refine bV Z (mW FR.Pair.zero am) aQ ?_;refine ao (l':=bE h d f::dO f e j::aP e p FK.En.fresh::aS j d FK.J0::aI d FK.e0::cH I h (aY T) dA false false::aZ T tI [] FR.En.zero::bx []::old E w0::kI n::fr) aQ ?_;refine sB Z<|sQ<|sS<|sB Z<|ai ?_
  refine aO (X:=Nat×List HP) (λx=>[(12,aA x.1),(7,.bool true),(11,aY I),(8,aY h),(0,.slice A l.length c),(1,dQ n 1 1),(2,.bool false)]) (λx=>x.2++(old E w0::kI n::fr)) (λx=>x.1<=l.length/\∃f e j p S J σ eb a ns M,Live x.1 S M J σ/\x.2=gh I h f e j d p S J σ eb a ns M) (λx=>l.length-x.1) (0,gh I h f e j d p FK.En.fresh FK.J0 FK.e0 T tI [] FR.En.zero) ⟨Nat.zero_le _,f,e,j,p,_,_,_,_,_,_,_,GB,rfl⟩ bW aQ ?_;rintro⟨i,m⟩ ⟨hi,f,e,j,p,S,J,σ,eb,a,ns,M,hL,hm⟩;simp only at hi hL hm;subst hm;refine ao (l':=bE h d f::dO f e j::aP e p S::aS j d J::aI d σ::cH I h (aY eb) dA false false::aZ eb a ns M::bx ns::old E w0::kI n::fr) aQ ?_;have NV:i<=20000:=am;refine sQ<|bp Z<|bY Z (bh Z Z) (cj Z (bq Z Z Z) dp λt8 wf=>(sM Z ?_))
  refine bK t8 (by rfl) ?_;refine cz Z Z (λ_=>rfl) (bg Z) dp ?_;refine cj Z (dV Z Z Z) dp λd9 BT=>sN ?_;refine cf Z (λd9=>?_) λd9=>?_
  ·rw[BT,wf]at d9;simp only[Bool.and_true,decide_eq_true_eq]at d9;have t6:i<l.length:=am;obtain⟨bb,o,rfl,NU,f7⟩:=hN.cells am;obtain⟨x,hx⟩:∃x,l[i]?=some x:=⟨l[i],by simp[t6]⟩;have d8:=cg hx;have hc:=f7 i x hx;refine aa<|sT<|sQ<|ai<|bp Z<|bY Z (aV (z:=9) Z Z Z Z t6)<|bF (bR (vs:=iH x) Z) (Ih gfT8 h0 hc)<|sO (cO (z:=.agg #[aA 0,cd 0,aA 0,cB,.string .empty,aA 0,aA 0,aA 0,aA 0]) Z λY=>?_)
   refine sO<|bk Z (m:=9) (vs:=iH x) Z Z Z Z eG (by show 0+9<=9;omega) ?_
   refine aB Y (iH x).toArray Z<|sN<|sS<|sB Z<|sQ<|sS<|sB Z<|ai ?_
   refine aO (X:=Nat×Bool) (λy=>[(15,aA y.1),(14,.bool y.2),(13,aY Y),(12,aA i),(7,.bool true),(11,aY I),(8,aY h),(0,.slice (some ⟨bb,o,none⟩) l.length c),(1,dQ n 1 1),(2,.bool false)]) (λ_=>blk Y 48 (iH x).toArray::bE h d f::dO f e j::aP e p S::aS j d J::aI d σ::cH I h (aY eb) dA false false::aZ eb a ns M::bx ns::old E w0::kI n::fr) (λy=>y.1<=1/\y.2=wj y.1 x.kind) (λy=>1-y.1) (0,false) ⟨by simp,by simp[wj]⟩ bW aQ ?_;rintro⟨k,ot⟩ ⟨hk,ho⟩;simp only at hk ho ⊢;refine sQ<|bp Z<|bY Z (bh Z Z)<|sP (bq Z Z Z)<|sN ?_
   refine aC Z (λFd=>?_) λFd=>?_
   ·obtain rfl:k=0:=am;obtain rfl:ot=false:=by simpa[wj]using ho
    refine aa<|sT<|sQ<|ai<|sZ Z<|ea Z Z<|cC Z Z<|dT 2 Z (bd 0 Z)<|oW 3 Z (au (v:=aA x.kind) Z) (ah Z)<|dT 4 Z (bg Z)<|dT 5 Z (bg Z)<|dT 6 Z (aV (z:=1) Z Z Z Z am)<|oW 7 Z (au (v:=aA 10) Z) (ah Z)<|dT 8 Z (bc (r:=decide (x.kind=10)) Z Z Z)<|bB Z (aF Z Z Z)<|bB Z (aX Z)<|dE<|al<|sT<|sG<|sM Z ?_
    refine sP (bH (r:=1) Z Z (by rw[iP am];rfl))<|sA Z<|ap ?_
    exact aH (1,decide (x.kind=10)) ⟨by simp,by simp[wj]⟩ di bW aQ
   ·obtain rfl:k=1:=am;refine aM<|aw<|az<|aq<|sT<|sQ<|bp Z<|sN ?_
    refine cf Z (λf9=>?_) λf9=>?_
    ·refine aM<|aw<|aq<|sT<|sG<|bY Z (dM Z Z)<|sA Z<|ap ?_
     exact aH (i+1,gh I h f e j d p S J σ eb a ns M) ⟨by simp only;omega,f,e,j,p,S,J,σ,eb,a,ns,M,hL.succ,rfl⟩ (by simp only;omega) bW Ent.drop
    ·have NT:wj 1 x.kind=false:=ho.symm.trans (by simpa using f9);have t7:x.kind≠10:=λe=>by simp[wj,e]at NT
     refine aa<|sT<|sQ<|sS<|bm 0 Z<|bF (au (v:=aA x.kind) Z) (ah Z)<|sP (bc Z Z Z)<|sN ?_
     refine aC Z (λIn=>?_) λIn=>?_
     ·refine ao (l':=bE h d f::dO f e j::aP e p S::aS j d J::aI d σ::cH I h (aY eb) dA false false::aZ eb a ns M::bx ns::blk Y 48 (iH x).toArray::old E w0::kI n::fr) (by show Ent (blk Y 48 (iH x).toArray::bE h d f::dO f e j::aP e p S::aS j d J::aI d σ::cH I h (aY eb) dA false false::aZ eb a ns M::bx ns::old E w0::kI n::fr) _;exact aG) ?_;refine bp Z<|bF (bR (vs:=iH x) Z) (bl Z) ?_
      refine bQ Z (Es hL am (hN.fits x d8).2.2.2.1 (hN.fits x d8).2.2.2.2.1 (hN.fits x d8).2.2.2.2.2) aQ ?_;rintro v m ⟨rfl,f2,e2,j2,p2,σ2,LT,rfl⟩;refine sB Z<|aM<|aw<|aq<|sT<|sG<|bY Z (dM Z Z)<|sA Z<|ap ?_
      exact aH (i+1,gh I h f2 e2 j2 d p2 S FK.J0 σ2 eb a ns M) ⟨by simp only;omega,f2,e2,j2,p2,S,_,σ2,eb,a,ns,M,LT.succ,rfl⟩ (by simp only;omega) bW (by show Ent (bE h d f2::dO f2 e2 j2::aP e2 p2 S::aS j2 d FK.J0::aI d σ2::cH I h (aY eb) dA false false::aZ eb a ns M::bx ns::blk Y 48 (iH x).toArray::old E w0::kI n::fr) (bE h d f2::dO f2 e2 j2::aP e2 p2 S::aS j2 d FK.J0::aI d σ2::cH I h (aY eb) dA false false::aZ eb a ns M::bx ns::old E w0::kI n::fr);exact aG)
     ·refine aa<|sT<|sQ<|bp Z<|sP (cA (r:=true) Z Z)<|sN<|aK Z<|sG ?_
      refine bV Z oC aQ ?_;refine aW<|bm 5 Z ?_
      refine sO<|bk Z (m:=4) (vs:=ct (-1) (-1) 0 0) Z Z Z Z eG (by show 5+4<=9;omega) ?_
      refine aB Y (da x.kind x.n x.dl (.slice x.A x.NO.length x.c) (.string x.s)).toArray Z<|sN<|bp Z<|cE 3 Z Z<|bF (au (v:=.bool false) Z) (ah Z)<|sM Z<|bO (bd 5 Z)<|bO (bd 0 Z)<|fM (au (v:=aA (-1)) Z) (ah Z)<|bO (nH (r:=false) Z Z Z)<|sP (aF Z Z Z)<|sM Z<|bO (bd 5 Z)<|bO (bd 1 Z)<|fM (au (v:=aA (-1)) Z) (ah Z) ?_
      refine bO (nH (r:=false) Z Z Z)<|sP (aF Z Z Z)<|cZ Z<|bm 3 Z ?_
      refine bD Z Z Z Z fW ?_;refine aB I (Cr h (aY eb) dA false false) Z ?_;refine ao (l':=bE h d f::dO f e j::aP e p S::aS j d J::aI d σ::cH I h (aY eb) dA false false::aZ eb a ns M::bx ns::old E w0::blk Y 48 (da x.kind x.n x.dl (.slice x.A x.NO.length x.c) (.string x.s)).toArray::kI n::fr) (by show Ent (cH I h (aY eb) dA false false::blk Y 48 (da x.kind x.n x.dl (.slice x.A x.NO.length x.c) (.string x.s)).toArray::bE h d f::dO f e j::aP e p S::aS j d J::aI d σ::aZ eb a ns M::bx ns::old E w0::kI n::fr) _;exact aG) ?_;refine sN<|bp Z<|bF (bR (vs:=da x.kind x.n x.dl (.slice x.A x.NO.length x.c) (.string x.s)) Z) (bl Z) ?_
      refine sO<|pk (G:=λE'=>E'=E) Z Z Z Z (IU (E0:=E) hE h0 (hN.NO x d8) (by have:=LE x d8;omega) (hN.fits x d8).2.2.1 t7 hL am) aQ ?_
      rintro v m ⟨rfl,p',U,J',σ',d6,a',d7,V,mt,rfl⟩;refine ao (l':=bE h d f::dO f e j::aP e p' U::aS j d J'::aI d σ'::cH I h (aY d6) dA false false::aZ d6 a' d7 V::bx d7::old E w0::blk Y 48 (da x.kind x.n x.dl (.slice x.A x.NO.length x.c) (.string x.s)).toArray::kI n::fr) aQ ?_;refine sB Z<|bp Z ?_
      refine bV Z zW aQ ?_;refine ae<|sB Z<|bp Z<|sM Z<|cN Z<|bO (cA (r:=false) Z Z)<|sP (aF Z Z Z)<|sN<|ag Z<|bp Z<|sN<|aK Z ?_
      refine sG<|sM Z<|cE 1 Z Z<|bF (au (v:=aY d6) Z) (ah Z) ?_
      refine bV Z (mW mt.pair am) (by show Ent _ (bE h d f::dO f e j::aP e p' U::aS j d J'::aI d σ'::cH I h (aY d6) dA false false::aZ d6 a' d7 V::bx d7::old E w0::blk Y 48 (da x.kind x.n x.dl (.slice x.A x.NO.length x.c) (.string x.s)).toArray::kI n::fr);exact aG) ?_;refine sA Z<|ap<|al<|sT<|sG<|bY Z (dM Z Z)<|sA Z<|ap ?_
      exact aH (i+1,gh I h f e j d p' U J' σ' d6 a' d7 V) ⟨by simp only;omega,f,e,j,p',U,J',σ',d6,a',d7,V,mt,rfl⟩ (by simp only;omega) bW (by show Ent (bE h d f::dO f e j::aP e p' U::aS j d J'::aI d σ'::cH I h (aY d6) dA false false::aZ d6 a' d7 V::bx d7::old E w0::blk Y 48 (da x.kind x.n x.dl (.slice x.A x.NO.length x.c) (.string x.s)).toArray::kI n::fr) (bE h d f::dO f e j::aP e p' U::aS j d J'::aI d σ'::cH I h (aY d6) dA false false::aZ d6 a' d7 V::bx d7::old E w0::kI n::fr);exact aG)
  ·refine aM<|aw<|az<|aq<|sT<|bp Z<|sB Z<|an ?_
   exact ar [old E w0,kI n] rfl Z ec (by show Ent (bE h d f::dO f e j::aP e p S::aS j d J::aI d σ::cH I h (aY eb) dA false false::aZ eb a ns M::bx ns::old E w0::kI n::fr) (old E w0::kI n::fr);exact aG)
def Eb:Instr.fill (λi=>some (i*1,1)) (Array.map (λx=>(Value.int IntKind.i64 0).cells[x%(Value.int IntKind.i64 0).cells.size]!) (Array.range (1*1))) ((List.map (λx=>x.fst) [((0:Nat),Operand.const (Value.int IntKind.i64 10))]).zip [Value.int IntKind.i64 10])=some #[Value.int IntKind.i64 10]:=by
 have e1:Array.range (1*1)=#[0]:=rfl;rw[e1];simp[Instr.fill,Value.cells]
theorem DP(A:Option Addr)(c:Nat)(l:List FK.Stp) :
 Gives prog Good 3 [.slice A l.length c].toArray (λw=>StepsAt w w.heap.size A c l) λv m=>v=.bool true/\m=[]:=by
 refine Gives.body func3 Z Z λE I J K O=>sS<|sB Z<|bp Z<|sO (dw (m:=1) (z:=aA 0) (size:=1) (ps:=[(0,.const (aA 10))]) (vs:=[aA 10]) (cs:=#[aA 10]) Z Z Z Z am am Z Eb λT=>sO<|pk (G:=λY=>Y=E) Z Z Z Z (Du J K O) (bo bJ .head) ?_)
 rintro v m ⟨rfl,rfl⟩;refine sB Z<|an<|ar [] rfl Z ec (by show Ent (old E I::kI T::[]) [old E I];exact Ent.cons Ent.drop)
end Go.Y
