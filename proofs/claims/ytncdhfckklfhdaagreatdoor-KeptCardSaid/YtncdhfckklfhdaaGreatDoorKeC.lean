/- The engine in plain data: what each call turns of the one run that goes on. -/
import Derived.Test.YtncdhfckklfhdaaGreatDoorKeB
import Derived.Test.YtncdhfckklfhdaaGreatDoorKeA
set_option linter.defProp false
variable{S:FK.En}{id:Nat}{R:FK.Rn}{F f:FK.Flow}{x:FK.KD}
namespace FK
structure Mv(id k:Nat)(S U:En)(R R':Rn)(new:List KD):Prop where
 get:U.getR id=some R'
 others:∀a,a≠id->U.getR a=S.getR a
 keys:U.runs.map (·.1)=S.runs.map (·.1)
 now:U.now=S.now
 seed:U.seed=S.seed
 NL:U.NL=S.NL
 NK:S.NK<=U.NK/\U.NK<=S.NK+1
 ends:U.ends<=S.ends+1
 sets:U.sets<=S.sets+2
 fl:R'.fl=R.fl
 len:R'.NN.length=R.NN.length
 NN:∀(j:Nat) (s:Sp),j≠k->R.NN[j]?=some s->∃s',R'.NN[j]?=some s'/\Nx s s'
 hon:Hon R'
 tms:∀x∈U.tms,x∈S.tms\/x∈new
 keep:R'.state=1->∀x∈S.tms,(∀w,x.1≠⟨id,(k:Int),w⟩)->x∈U.tms
 newin:R'.state=1->∀x∈new,x∈U.tms
section
variable{a j k:Nat}{s s':Sp}{p:Pl}
def qt(R:Rn)(k:Nat)(s:Sp)(st:Int):R.turned k s st=R.setS k ⟨st,s.NM,0⟩:=by
 unfold Rn.turned;rw[setS_setS]
theorem pN(h:j≠k):(R.setS k s).NN[j]?=R.NN[j]?:=by
 unfold Rn.setS;exact List.getElem?_set_ne (Ne.symm h)
def setS_len:(R.setS k s).NN.length=R.NN.length:=by simp[Rn.setS]
theorem mA{u:Sp}(h:(R.setS k s').NN[j]?=some u):(j=k/\u=s')\/(j≠k/\R.NN[j]?=some u):=by
 by_cases E:j=k
 ·subst E
  have I:j<R.NN.length:=by have:=(gfGet.1 h).1;rwa [setS_len]at this
  have J:R.NN[j]?=some (R.NN[j]):=List.getElem?_eq_getElem I;rw[setS_at J]at h;injection h with h;exact .inl ⟨rfl,h.symm⟩
 ·rw[pN E]at h
  exact .inr ⟨E,h⟩
def s8{u:Nat}{x:Int}(E:R.NN[k]?=some s)(h:u=k->(s'.state=x<->s.state=x)):cY (R.setS k s').NN u x=cY R.NN u x:=by
 by_cases I:u=k
 ·subst I
  rw[fO (setS_at E),fO E,Bool.eq_iff_iff];simpa using h rfl
 ·exact j4 (pN I)
def ET(E:R.NN[k]?=some s)(h:s'.state=5<->s.state=5):sn (R.setS k s') j<->sn R j:=by
 unfold sn;have:∀u,cY (R.setS k s').NN u 5=cY R.NN u 5:=λu=>s8 E λ_=>h;simp only[this];exact Iff.rfl
def Hon0.set(h:Hon0 R)(J:R.NN[k]?=some s)(Y:2<=s.state/\s.state<=4)(h2:2<=s'.state/\s'.state<=4):Hon0 (R.setS k s'):=by
 have O:s'.state=5<->s.state=5:=am;refine⟨λj u E K=>?_,λI j u E K=>?_,λI j u E K v T=>?_⟩
 ·rw[ET J O]
  rcases mA E with⟨rfl,rfl⟩|⟨_,E⟩
  ·exact h.up _ s J am
  ·exact h.up j u E K
 ·rw[ET J O]
  rcases mA E with⟨rfl,rfl⟩|⟨_,E⟩
  ·omega
  ·exact h.wt I j u E K
 ·rcases mA E with⟨rfl,rfl⟩|⟨_,E⟩
  ·omega
  ·have:=h.sk I j u E K v T
   rw[s8 J (λ_=>by omega),s8 J (λ_=>by omega)];exact this
def Hon.set{R:Rn}(h:Hon R)(E:R.state=1){k:Nat}{s s':Sp}(I:R.NN[k]?=some s)(J:2<=s.state/\s.state<=4)(K:2<=s'.state/\s'.state<=4):Hon (R.setS k s'):=
 ⟨h.h0.set I J K,λ_=>⟨k,s',setS_at I,by rw[zM];omega⟩,λe=>absurd (E.symm.trans e) fh,λe=>absurd E e⟩
def Jv(h:x∈(S.setT p a).tms):(x∈S.tms/\x.1≠p)\/x=(p,a):=by
 unfold En.setT at h;rcases List.mem_append.1 h with h|h
 ·obtain⟨E,I⟩:=List.mem_filter.1 h
  exact .inl ⟨E,by simpa using I⟩
 ·exact .inr (List.mem_singleton.1 h)
def F9(h:x∈S.tms)(E:x.1≠p):x∈(S.setT p a).tms:=by
 unfold En.setT;exact List.mem_append_left _ (List.mem_filter.2 ⟨h,by simpa using E⟩)
def I1:(p,a)∈(S.setT p a).tms:=by
 unfold En.setT;exact List.mem_append_right _ (List.mem_singleton.2 rfl)
def Ok.running{S:En}(h:Ok S){id k:Nat}{R:Rn}{s:Sp}(E:S.getR id=some R)(I:R.NN[k]?=some s)(J:s.state=1\/s.state=2\/s.state=3\/s.state=4):R.state=1:=by
 obtain⟨n,O,K⟩:=h.node E I;exact K.running J
def I7(O:S.getR id=some R)(T:R.NN[k]?=some s)(I:R.state=1)(h4:s.state=4)(Y:Hon R):Mv id k S (S.ready id k) R (R.setS k {s with state:=2}) []:=by
 obtain⟨E,K⟩:=zE O T;refine⟨?_,E.others,E.keys,E.now,E.seed,E.NL,by rw[E.NK];omega,by rw[K.ends];omega,by rw[K.sets];omega,rfl,setS_len,λj u hj hu=>⟨u,by rw[pN hj];exact hu,Nx.refl u⟩,Y.set I T am (by show(2:Int)<=2/\(2:Int)<=4;omega),λx J=>.inl (by rw[<-K.tms];exact J),λ_ x J _=>by rw[K.tms];exact J,λ_ x J=>by cases J⟩;rw[kg O T];exact ek O
end
structure Part(id k:Nat)(S D:En)(A:Rn):Prop where
 get:D.getR id=some A
 fr:Fr id S D
 ends:D.ends=S.ends
 sets:D.sets=S.sets
 tms:∀x∈D.tms,x∈S.tms
 keep:∀x∈S.tms,(∀w,x.1≠⟨id,(k:Int),w⟩)->x∈D.tms
section
variable{k:Nat}{s:Sp}
def part_at{A:Rn}(I:S.getR id=some R)(J:R.NN[k]?=some s):Part id k S ((S.leave id k).setR id A) A:=by
 rw[fL I J];have e:((({S with NQ:=S.NQ.eraseP (·.1==s.token)}.setR id (R.setS k {s with token:=0})).unset ⟨id,(k:Int),1⟩).unset ⟨id,(k:Int),2⟩).setR id A={S.setR id A with NQ:=S.NQ.eraseP (·.1==s.token),tms:=(S.tms.filter λx=>x.1 !=⟨id,(k:Int),1⟩).filter λx=>x.1 !=⟨id,(k:Int),2⟩}:=by
  show((({S with NQ:=S.NQ.eraseP (·.1==s.token)}.setR id (R.setS k {s with token:=0})).setR id A).unset _).unset _=_;rw[setR_setR]
  rfl
 rw[e];refine⟨ek I,⟨λa K=>gO K,setR_keys,rfl,rfl,rfl,rfl⟩,rfl,rfl,λx E=>?_,λx E hno=>?_⟩
 ·exact(List.mem_filter.1 (List.mem_filter.1 E).1).1
 ·exact List.mem_filter.2 ⟨List.mem_filter.2 ⟨E,by simpa using hno 1⟩,by simpa using hno 2⟩
def Ok.rests_mv(h:Ok S)(T:S.getR id=some R)(O:R.NN[k]?=some s)(h3:s.state=3)(E:Nat)(Y:Hon R):Mv id k S (S.rests id k R s E) R (R.setS k ⟨4,s.NM,0⟩) [(⟨id,(k:Int),1⟩,S.later E)]:=by
 have K:=h.running T O am;have I:=part_at (A:=R.turned k s 4) T O;have hl:(S.leave id k).later E=S.later E:=by rw[fL T O];rfl
 unfold En.rests;rw[hl];rw[qt]at I ⊢;refine⟨I.get,I.fr.others,I.fr.keys,I.fr.now,I.fr.seed,I.fr.NL,⟨Nat.le_of_eq I.fr.NK.symm,Nat.le_trans (Nat.le_of_eq I.fr.NK) (Nat.le_succ _)⟩,Nat.le_trans (Nat.le_of_eq I.ends) (Nat.le_succ _),Nat.le_trans (Nat.succ_le_succ (Nat.le_of_eq I.sets)) (Nat.le_succ _),rfl,setS_len,λj u hj hu=>⟨u,by rw[pN hj];exact hu,Nx.refl u⟩,Y.set K O am (by show(2:Int)<=4/\(4:Int)<=4;omega),λx J=>?_,λ_ x J hno=>F9 (I.keep x J hno) (hno 1),λ_ x J=>?_⟩
 ·rcases Jv J with⟨J,_⟩|rfl
  ·exact .inl (I.tms x J)
  ·exact .inr (List.mem_singleton.2 rfl)
 ·rw[List.mem_singleton]at J
  subst J;exact I1
def Settled.mv{D W U:En}{A B R':Rn}(J:Part id k S D A)(Y:Fr id D W)(K:W.tms=D.tms)(d6:W.ends=D.ends)(d7:W.sets=D.sets)(E:Settled id W U B R')(d8:B.fl=R.fl)(O:B.NN.length=R.NN.length)(d9:∀(j:Nat) (s:Sp),j≠k->R.NN[j]?=some s->∃s',B.NN[j]?=some s'/\Nx s s'):Mv id k S U R R' []:=by
 have I:=(J.fr.trans Y).trans E.fr;refine⟨E.get,I.others,I.keys,I.now,I.seed,I.NL,by rw[I.NK];omega,by have:=E.ends;rw[d6,J.ends]at this;exact this,by rw[E.sets,d7,J.sets];omega,E.fl.trans d8,E.len.trans O,λj s hj f7=>?_,E.hon,λx T=>.inl (J.tms x (by rw[<-K];exact E.tms x T)),λe x T hno=>?_,λ_ x T=>by cases T⟩
 ·obtain⟨s1,h1,n1⟩:=d9 j s hj f7
  obtain⟨s2,h2,n2,_⟩:=E.NN j s1 h1;exact⟨s2,h2,n1.trans n2⟩
 ·rw[(E.stay e).1,K]
  exact J.keep x T hno
def KJ(O:Fit f):∃T,Ordering f.NO 0 T:=by
 have key:∀(m left:Nat) (told:List Nat),Ordering f.NO left told->f.NO.length-told.length<=m->∃T,Ordering f.NO 0 T:=by
  intro m
  induction m with
  |zero=>
   intro left told h I;refine⟨told,?_⟩;have:left=0:=Nat.eq_of_testBit_eq λi=>by
    rw[Nat.zero_testBit];cases hb:left.testBit i with
    |false=>rfl
    |true=>
     obtain⟨h1,h2⟩:=(h.bits i).1 hb;have:=mj (l:=i::told) (m:=List.range f.NO.length) (List.nodup_cons.2 ⟨h2,h.nodup⟩) (λx E=>by
      rcases List.mem_cons.1 E with rfl|E
      ·exact List.mem_range.2 h1
      ·exact List.mem_range.2 (h.lt x E))
     rw[List.length_range]at this;simp only[List.length_cons]at this;omega
   rw[this]at h;exact h
  |succ m ih=>
   intro left told h I
   by_cases J:∀i,left.testBit i=true->∃k∈aft f.NO i,left.testBit k=true
   ·have:=h.zero O J
    rw[this]at h;exact⟨told,h⟩
   ·have:∃i,left.testBit i=true/\∀k∈aft f.NO i,left.testBit k=false:=Classical.byContradiction λY=>J λi hi=>Classical.byContradiction λhk=>Y ⟨i,hi,λk I=>by
     cases hb:left.testBit k with
     |false=>rfl
     |true=>exact absurd ⟨k,I,hb⟩ hk⟩
    obtain⟨i,hi,hno⟩:=this;refine ih (left ^^^ (1<<<i)) (told++[i]) (h.tell hi hno λj=>?_) (by simp;omega);rw[Nat.testBit_xor,ni]
    by_cases K:j=i
    ·subst K
     simp[hi]
    ·simp[K]
 exact key _ _ _ (Ordering.start _) (cx _)
def Ok.dies_mv(h:Ok S){n:Node}(hR:S.getR id=some R)(hs:R.NN[k]?=some s)(hn:R.fl.NO[k]?=some n)(h3:s.state=3)(hb:s.NM=n.NR)(hH:Hon R):∃R',Mv id k S (S.dies id k R s (lS R.fl.NO)) R R' []/\∃s',R'.NN[k]?=some s'/\s'.state=6/\s'.NM=s.NM:=by
 have f7:=h.running hR hs am;have f9:=h.run id R hR;have hl:=f9.len;obtain⟨A,hA⟩:∃A,A=R.turned k s 6:=⟨_,rfl⟩;have J:A=R.setS k ⟨6,s.NM,0⟩:=by rw[hA,qt]
 obtain⟨T,hT⟩:∃T,T=lS R.fl.NO:=⟨_,rfl⟩;have t8:∃T,Ordering R.fl.NO 0 T:=by
  have:=KJ f9.fl;exact this
 have mt:Ordering R.fl.NO 0 T:=by
  rw[hT];unfold lS;rw[dif_pos t8];exact t8.choose_spec
 unfold En.dies;rw[<-hT,<-hA];have hp:=part_at (A:=(R.turned k s 6).skips T) hR hs;have t6:Ok ((S.leave id k).setR id ((R.turned k s 6).skips T)):=by
  have O:=h.part hR hs hn h3 (st:=6) (.inr (.inr ⟨rfl,hb⟩));have h2:=Ok.skips (id:=id) T O (mE hR hs);rw[setR_setR]at h2;exact h2
 rw[<-hA]at hp t6;have Y:A.NN.length=R.fl.NO.length:=by rw[J,setS_len];exact hl
 have f8:A.fl=R.fl:=by rw[J];rfl
 have d6:=λj u K=>nN (ns:=R.fl.NO) (l:=A.NN) Y T.length T rfl (mt.beh f9.fl) j u K;obtain⟨B,hB⟩:∃B,B=A.skips T:=⟨_,rfl⟩;have wf:B.NN=T.foldl (skipK R.fl.NO) A.NN:=by rw[hB];unfold Rn.skips;rw[f8]
 have d7:B.fl=R.fl:=by rw[hB];exact f8
 have d8:B.NN.length=R.NN.length:=by rw[wf,mz,Y,hl]
 rw[<-wf]at d6;rw[<-hB]at hp t6 ⊢;have E:∀(j:Nat) (u:Sp),B.NN[j]?=some u->∃v,A.NN[j]?=some v/\((v.state=1/\u={v with state:=7})\/(u=v/\¬(v.state=1/\∃y∈aft R.fl.NO j,cY B.NN y 6=true\/cY B.NN y 7=true))):=λj u K=>by
  have BT:j<A.NN.length:=by have:=(gfGet.1 K).1;rw[d8]at this;rw[Y,<-hl];exact this
  have I:A.NN[j]?=some (A.NN[j]):=List.getElem?_eq_getElem BT;refine⟨_,I,?_⟩;obtain⟨g1,g2⟩:=d6 j _ I
  by_cases hc:(A.NN[j]).state=1/\∃y∈aft R.fl.NO j,cY B.NN y 6=true\/cY B.NN y 7=true
  ·have:=g1 ⟨mt.full j (by rw[<-Y];exact BT),hc⟩
   rw[K]at this;injection this with this;exact .inl ⟨hc.1,this⟩
  ·have:=g2 λh=>hc h.2
   rw[K]at this;injection this with this;exact .inr ⟨this,hc⟩
 have h5:∀u,cY B.NN u 5=cY R.NN u 5:=λu=>by
  have ha:cY A.NN u 5=cY R.NN u 5:=by rw[J];exact s8 hs λ_=>by show(6:Int)=5<->_;omega
  rw[<-ha,Bool.eq_iff_iff,isAt_iff,isAt_iff];constructor
  ·rintro⟨x,hx,e⟩
   obtain⟨v,I,⟨_,rfl⟩|⟨rfl,_⟩⟩:=E u x hx
   ·replace e:(7:Int)=5:=e
    omega
   ·exact⟨_,I,e⟩
  ·rintro⟨x,hx,e⟩
   exact⟨x,(d6 u x hx).2 (λh=>by omega),e⟩
 have Fd:∀j,sn B j<->sn R j:=λj=>by
  unfold sn;rw[d7];simp only[h5]
 have h0:Hon0 B:=by
  refine⟨λj u K hr=>?_,λ_ j u K O=>?_,λ_ j u K O v I=>?_⟩
  ·rw[Fd]
   obtain⟨v,I,⟨_,rfl⟩|⟨rfl,_⟩⟩:=E j u K
   ·have:(2:Int)<=7/\(7:Int)<=6:=hr
    omega
   ·rw[J]at I
    rcases mA I with⟨rfl,rfl⟩|⟨_,I⟩
    ·exact hH.h0.up _ s hs am
    ·exact hH.h0.up j _ I hr
  ·rw[Fd]
   obtain⟨v,I,⟨_,rfl⟩|⟨rfl,_⟩⟩:=E j u K
   ·replace O:(7:Int)=1:=O
    omega
   ·rw[J]at I
    rcases mA I with⟨rfl,rfl⟩|⟨_,I⟩
    ·replace O:(6:Int)=1:=O
     omega
    ·exact hH.h0.wt f7 j _ I O
  ·obtain⟨x,hx,⟨_,rfl⟩|⟨rfl,hc⟩⟩:=E j u K
   ·replace O:(7:Int)=1:=O
    omega
   ·rw[d7]at I
    constructor
    ·cases hi:cY B.NN v 6 with
     |false=>rfl
     |true=>exact absurd ⟨O,v,I,.inl hi⟩ hc
    ·cases hi:cY B.NN v 7 with
     |false=>rfl
     |true=>exact absurd ⟨O,v,I,.inr hi⟩ hc
 have t7:B.state=1:=by rw[hB,J];exact f7
 obtain⟨R',d9⟩:=t6.settled hp.get t7 h0;refine⟨R',Settled.mv hp (Fr.refl _ _) rfl rfl rfl d9 d7 d8 λj u K hu=>?_,?_⟩
 ·have In:A.NN[j]?=some u:=by rw[J,pN K];exact hu
  obtain⟨g1,g2⟩:=d6 j u In
  by_cases hc:u.state=1/\∃y∈aft R.fl.NO j,cY B.NN y 6=true\/cY B.NN y 7=true
  ·exact⟨_,g1 ⟨mt.full j (by rw[<-Y];exact(gfGet.1 In).1),hc⟩,Nx.skip hc.1⟩
  ·exact⟨_,g2 λh=>hc h.2,Nx.refl u⟩
 ·have LE:A.NN[k]?=some ⟨6,s.NM,0⟩:=by rw[J];exact setS_at hs
  have LT:B.NN[k]?=some ⟨6,s.NM,0⟩:=(d6 k _ LE).2 λh=>by
   have:=h.2.1;replace this:(6:Int)=1:=this;omega
  obtain⟨s',g1,g2,g3⟩:=d9.NN k _ LT;exact⟨s',g1,g3,g2.NM⟩
end
structure Lone(id:Nat)(F:Flow)(S:En)(R:Rn):Prop where
 ok:Ok S
 get:S.getR id=some R
 fl:R.fl=F
 seed:S.seed=0
 alone:∀a A,a≠id->S.getR a=some A->A.state≠1
 hon:Hon R
 due:∀x∈S.tms,S.now<=x.2
structure Wt(R R':Rn):Prop where
 len:R'.NN.length=R.NN.length
 tr:∀(k:Nat) (s s':Sp),R.NN[k]?=some s->R'.NN[k]?=some s'->s.NM<=s'.NM/\(over s=true->s'.state=s.state)
 st:R.state≠1->R'.state=R.state
def Wt.refl(R:Rn):Wt R R:=⟨rfl,λk s s' h E=>by rw[h]at E;injection E with E;subst E;exact⟨Int.le_refl _,λ_=>rfl⟩,λ_=>rfl⟩
def Wt.trans{A B C:Rn}(h:Wt A B)(k:Wt B C):Wt A C:=⟨k.len.trans h.len,λj s s' J E=>by
 have I:j<B.NN.length:=by rw[h.len];exact(gfGet.1 J).1
 have T:B.NN[j]?=some (B.NN[j]):=List.getElem?_eq_getElem I;obtain⟨Y,a2⟩:=h.tr j s _ J T;obtain⟨b1,b2⟩:=k.tr j _ s' T E;refine⟨Int.le_trans Y b1,λK=>?_⟩;have e:=a2 K;rw[<-e];exact b2 (by rw[over_iff]at K ⊢;omega),λO=>by
 have:=h.st O;rw[<-this];exact k.st (by rw[this];exact O)⟩
def ME(id:Nat)(S:En)(R:Rn)(rd:Nat->Nat):Prop:=∀(k:Nat) (s:Sp),R.NN[k]?=some s->(s.state=1\/s.state=2\/s.state=3->rd k<=S.now)/\(s.state=4->∀a,((⟨id,(k:Int),1⟩:Pl),a)∈S.tms->rd k<=a)
structure Hd where
 node:Nat
 tri:Int
 tok:Nat
structure Tsk(S:En)(R:Rn)(ts:List Hd):Prop where
 nd:(ts.map (·.tok)).Nodup
 low:∀a∈ts,1<=a.tok/\a.tok<=S.NK
 at_:∀a∈ts,1<=a.tri/\∃s,R.NN[a.node]?=some s/\a.tri<=s.NM
 inj:∀a∈ts,∀b∈ts,a.node=b.node->a.tri=b.tri->a=b
 work:∀(k:Nat) (s:Sp),R.NN[k]?=some s->s.state=3->⟨k,s.NM,s.token⟩∈ts
def JB(h:S.now<=4611686018427387904)(n:Nat):S.now<=S.later n:=by unfold En.later;omega
section
variable{k:Nat}{U:En}{R':Rn}{new:List KD}
def Mv.lone(E:Mv id k S U R R' new)(J:Lone id F S R)(K:Ok U)(I:∀x∈new,S.now<=x.2):Lone id F U R':=
 ⟨K,E.get,E.fl.trans J.fl,E.seed.trans J.seed,λa A O T=>J.alone a A O (by rw[<-E.others a O];exact T),E.hon,λx Y=>by
  rw[E.now];rcases E.tms x Y with h|h
  ·exact J.due x h
  ·exact I x h⟩
def Mv.wt(K:Mv id k S U R R' new)(E:R.state=1)(hk:∀s s',R.NN[k]?=some s->R'.NN[k]?=some s'->s.NM<=s'.NM/\(over s=true->s'.state=s.state)):Wt R R':=
 ⟨K.len,λj s s' O I=>by
  by_cases Y:j=k
  ·subst Y
   exact hk s s' O I
  ·obtain⟨u,J,T⟩:=K.NN j s Y O
   rw[I]at J;injection J with J;subst J;exact⟨Int.le_of_eq T.NM.symm,T.ov⟩,λh=>absurd E h⟩
def Mv.back(K:Mv id k S U R R' new){j:Nat}{s':Sp}(T:j≠k)(E:R'.NN[j]?=some s'):∃s,R.NN[j]?=some s/\Nx s s':=by
 have J:j<R.NN.length:=by rw[<-K.len];exact(gfGet.1 E).1
 have O:R.NN[j]?=some (R.NN[j]):=List.getElem?_eq_getElem J;obtain⟨u,I,Y⟩:=K.NN j _ T O;rw[E]at I;injection I with I;subst I;exact⟨_,O,Y⟩
def Mv.rdy(O:Mv id k S U R R' new){rd E:Nat->Nat}(hr:ME id S R rd)(T:∀x∈new,∃w,x.1=⟨id,(k:Int),w⟩)(Y:∀j,j≠k->E j=rd j)
(hk:∀s',R'.NN[k]?=some s'->(s'.state=1\/s'.state=2\/s'.state=3->E k<=U.now)/\(s'.state=4->∀a,((⟨id,(k:Int),1⟩:Pl),a)∈U.tms->E k<=a)):ME id U R' E:=by
 intro j s' I
 by_cases K:j=k
 ·subst K
  exact hk s' I
 ·obtain⟨s,hs,J⟩:=O.back K I
  obtain⟨a1,a2⟩:=hr j s hs;rw[Y j K,O.now];refine⟨λh=>a1 ?_,λh4 a ha=>?_⟩
  ·rcases h with h|h|h
   ·exact .inl (J.w1 h)
   ·rcases J.w2 h with h|h
    ·exact .inr (.inl h)
    ·exact .inl h
   ·have:=J.w3 h
    rw[<-this];exact .inr (.inr h)
  ·rcases O.tms _ ha with h|h
   ·exact a2 (J.w4 h4) a h
   ·obtain⟨w,e⟩:=T _ h
    obtain⟨_,e,_⟩:=kx e;exact absurd e K
def Mv.tsk(O:Mv id k S U R R' new)(T:R.state=1){ts:List Hd}(I:Tsk S R ts)(hk:∀s s',R.NN[k]?=some s->R'.NN[k]?=some s'->s.NM<=s'.NM/\(over s=true->s'.state=s.state)/\(s'.state=3->s'=s)):Tsk U R' ts:=by
 have hw:=O.wt T λs s' h h'=>⟨(hk s s' h h').1,(hk s s' h h').2.1⟩;refine⟨I.nd,λa Y=>⟨(I.low a Y).1,Nat.le_trans (I.low a Y).2 O.NK.1⟩,λa Y=>?_,I.inj,λj s' E h3=>?_⟩
 ·obtain⟨h1,s,J,h2⟩:=I.at_ a Y
  have K:a.node<R'.NN.length:=by rw[O.len];exact(gfGet.1 J).1
  have E:R'.NN[a.node]?=some (R'.NN[a.node]):=List.getElem?_eq_getElem K;exact⟨h1,_,E,Int.le_trans h2 (hw.tr _ _ _ J E).1⟩
 ·by_cases hj:j=k
  ·subst hj
   have K:j<R.NN.length:=by rw[<-O.len];exact(gfGet.1 E).1
   have J:R.NN[j]?=some (R.NN[j]):=List.getElem?_eq_getElem K;have:=(hk _ _ J E).2.2 h3;rw[this]at h3 ⊢;exact I.work j _ J h3
  ·obtain⟨s,J,hn⟩:=O.back hj E
   have:=hn.w3 h3;rw[this]at h3 ⊢;exact I.work j s J h3
def Fin.mv{st:Int}(h:Fin id S U R R' st)(E:st≠1)(J:Hon R'):Mv id R.NN.length S U R R' []:=
 ⟨h.get,h.fr.others,h.fr.keys,h.fr.now,h.fr.seed,h.fr.NL,⟨Nat.le_of_eq h.fr.NK.symm,Nat.le_trans (Nat.le_of_eq h.fr.NK) (Nat.le_succ _)⟩,Nat.le_of_eq h.ends,Nat.le_trans (Nat.le_of_eq h.sets) (Nat.le_add_right _ _),h.fl,h.len,λj s _ K=>⟨_,h.NN j s K,Nx.ended s⟩,J,λx I=>.inl (h.tms x I),λe=>absurd (h.state.symm.trans e) E,λ_ x I=>by cases I⟩
end
structure Go(id:Nat)(F:Flow)(S U:En)(R R':Rn):Prop where
 lone:Lone id F U R'
 wt:Wt R R'
 rdy:∀rd,ME id S R rd->ME id U R' rd
 tsk:∀ts,Tsk S R ts->Tsk U R' ts
 now:S.now<=U.now
 keys:U.runs.map (·.1)=S.runs.map (·.1)
 NL:U.NL=S.NL
 NK:U.NK<=S.NK
def Go.refl{id:Nat}{F:Flow}{S:En}{R:Rn}(h:Lone id F S R):Go id F S S R R:=⟨h,Wt.refl R,λ_ h=>h,λ_ h=>h,cx _,rfl,rfl,cx _⟩
def Go.trans{id:Nat}{F:Flow}{S T U:En}{R A B:Rn}(h:Go id F S T R A)(k:Go id F T U A B):Go id F S U R B:=
 ⟨k.lone,h.wt.trans k.wt,λrd E=>k.rdy rd (h.rdy rd E),λts I=>k.tsk ts (h.tsk ts I),Nat.le_trans h.now k.now,k.keys.trans h.keys,k.NL.trans h.NL,Nat.le_trans k.NK h.NK⟩
def Lone.failed{id:Nat}{F:Flow}{S:En}{R:Rn}(E:Lone id F S R){k:Nat}{s:Sp}(K:R.NN[k]?=some s)(h3:s.state=3):∃R' s' n,F.NO[k]?=some n/\R'.NN[k]?=some s'/\s'.NM=s.NM/\(s'.state=4\/s'.state=6)/\∃new,Mv id k S (S.failed id k) R R' new/\(∀x∈new,S.now<=x.2)/\(∀x∈new,∃w,x.1=⟨id,(k:Int),w⟩)/\Ok (S.failed id k)/\(s'.state=4->R'.state=1/\R'=R.setS k ⟨4,s.NM,0⟩/\new=[(⟨id,(k:Int),1⟩,S.later (gE n.base n.cap n.NS s.NM 0).toNat)])/\(s'.state=6->new=[]):=by
 obtain⟨n,hn,hp⟩:=E.ok.node E.get K;have O:=E.ok.running E.get K am;have J:=E.ok.failed E.get K h3;have T:F.NO[k]?=some n:=by rw[<-E.fl];exact hn
 have Y:=kY E.get K hn
 by_cases hb:s.NM<n.NR
 ·rw[if_pos hb]at Y
  rw[Y]at J ⊢;refine⟨R.setS k ⟨4,s.NM,0⟩,⟨4,s.NM,0⟩,n,T,setS_at K,rfl,.inl rfl,_,E.ok.rests_mv E.get K h3 _ E.hon,λx I=>?_,λx I=>?_,J,λ_=>⟨O,rfl,by rw[E.seed];rfl⟩,λe=>by replace e:(4:Int)=6:=e;omega⟩
  ·rw[List.mem_singleton]at I
   subst I;exact JB E.ok.now _
  ·rw[List.mem_singleton]at I
   subst I;exact⟨_,rfl⟩
 ·rw[if_neg hb]at Y
  rw[Y]at J ⊢;obtain⟨R',hm,s',h1,h2,h4⟩:=E.ok.dies_mv E.get K hn h3 (by have:=hp.trb;omega) E.hon;exact⟨R',s',n,T,h1,h4,.inr h2,[],hm,λx I=>(by cases I),λx I=>(by cases I),J,λe=>by omega,λ_=>rfl⟩
def Lone.due_go(hL:Lone id F S R){f8:List KD}(hm:IsMin S.tms x f8):∃R',Go id F S ({S with now:=x.2,tms:=f8}.due x.1) R R':=by
 obtain⟨d6,hno,R1,f9,d9⟩:=hL.ok.pop hm;have Fd:=hm.mem;have mt:=hm.perm;have I:x.1.run=id:=Classical.byContradiction λhn=>hL.alone _ R1 hn f9 d9.1;have d7:R1=R:=by rw[I,hL.get]at f9;injection f9 with f9;exact f9.symm
 subst d7;have K:=d9.1;obtain⟨S1,Y⟩:∃S1:En,S1={S with now:=x.2,tms:=f8}:=⟨_,rfl⟩;have J:Lone id F S1 R1:=by
  rw[Y];refine⟨d6,hL.get,hL.fl,hL.seed,hL.alone,hL.hon,λy hy=>?_⟩;exact hm.le y (mt.mem_iff.2 (.tail _ hy))
 have t8:∀rd,ME id S R1 rd->ME id S1 R1 rd:=λrd hr j s hs=>by
  obtain⟨a1,a2⟩:=hr j s hs;rw[Y];exact⟨λh=>Nat.le_trans (a1 h) (hL.due x Fd),λh a ha=>a2 h a (mt.mem_iff.2 (.tail _ ha))⟩
 have wf:∀ts,Tsk S R1 ts->Tsk S1 R1 ts:=λts h=>by
  rw[Y];exact⟨h.nd,h.low,h.at_,h.inj,h.work⟩
 have f7:Go id F S S1 R1 R1:=⟨J,Wt.refl _,t8,wf,by rw[Y];exact hL.due x Fd,by rw[Y],by rw[Y],by rw[Y];exact cx _⟩;rw[<-Y]at d6 ⊢;have d7:S1.getR x.1.run=some R1:=by rw[I];exact J.get
 have O:=d6.due d7 d9 (by rw[Y];exact hno);obtain⟨p,hp⟩:∃p,p=x.1:=⟨_,rfl⟩;rw[<-hp]at d7 d9 I O ⊢;rcases jP d7 d9 with⟨_,e⟩|⟨k,s,hs,⟨e1,h4,e⟩|⟨_,h3,e⟩⟩
 ·rw[e,I]at O ⊢
  obtain⟨R',hF⟩:=d6.fin J.get 5;have E:=hF.mv fh (hF.hon fh fh J.hon K);have t6:∀{α:Prop} (s:Sp),R1.NN[R1.NN.length]?=some s->α:=λs hs=>by
   have:=(gfGet.1 hs).1;omega
  refine⟨R',f7.trans ⟨E.lone J O (λx hx=>by cases hx),E.wt K λs s' h _=>t6 s h,λrd hr=>E.rdy hr (λx hx=>by cases hx) (λ_ _=>rfl) λs' BT=>?_,λts ht=>E.tsk K ht λs s' h _=>t6 s h,Nat.le_of_eq E.now.symm,E.keys,E.NL,Nat.le_of_eq hF.fr.NK⟩⟩;have:=(gfGet.1 BT).1;rw[hF.len]at this;omega
 ·rw[e,I]at O ⊢
  have E:=I7 J.get hs K h4 J.hon;have hk:∀u u',R1.NN[k]?=some u->(R1.setS k {s with state:=2}).NN[k]?=some u'->u=s/\u'={s with state:=2}:=λu u' h T=>by
   rw[hs]at h;rw[setS_at hs]at T;injection h with h;injection T with T;exact⟨h.symm,T.symm⟩
  have d8:¬over s=true:=by rw[over_iff];omega
  have NT:=E.lone J O (λx hx=>by cases hx);refine⟨_,⟨NT,E.wt K λu u' h T=>?_,λrd hr=>E.rdy (t8 rd hr) (λx hx=>by cases hx) (λ_ _=>rfl) λu' T=>?_,λts ht=>E.tsk K (wf ts ht) λu u' h T=>?_,Nat.le_trans f7.now (Nat.le_of_eq E.now.symm),E.keys.trans f7.keys,E.NL.trans f7.NL,?_⟩⟩
  ·obtain⟨rfl,rfl⟩:=hk u u' h T
   exact⟨Int.le_refl _,λh=>absurd h d8⟩
  ·obtain⟨_,rfl⟩:=hk s u' hs T
   refine⟨λ_=>?_,λe=>by replace e:(2:Int)=4:=e;omega⟩;rw[E.now,Y];have In:((⟨id,(k:Int),1⟩:Pl),x.2)∈S.tms:=by
    rw[<-I,<-e1,hp];exact Fd
   exact(hr k s hs).2 h4 _ In
  ·obtain⟨rfl,rfl⟩:=hk u u' h T
   exact⟨Int.le_refl _,λh=>absurd h d8,λe=>by replace e:(2:Int)=3:=e;omega⟩
  ·have:(S1.ready id k).NK=S1.NK:=(zE J.get hs).1.NK
   rw[this];exact f7.NK
 ·rw[e,I]at O ⊢
  obtain⟨R',s',n,hn,BT,ht,NU,new,E,t7,LT,_,h4,_⟩:=J.failed hs h3;have d8:¬over s=true:=by rw[over_iff];omega
  have hk:∀u u',R1.NN[k]?=some u->R'.NN[k]?=some u'->u=s/\u'=s':=λu u' h T=>by
   rw[hs]at h;rw[BT]at T;injection h with h;injection T with T;exact⟨h.symm,T.symm⟩
  refine⟨R',f7.trans ⟨E.lone J O t7,E.wt K λu u' h T=>?_,λrd hr=>E.rdy hr LT (λ_ _=>rfl) λu' T=>?_,λts hT=>E.tsk K hT λu u' h T=>?_,Nat.le_of_eq E.now.symm,E.keys,E.NL,?_⟩⟩
  ·obtain⟨rfl,rfl⟩:=hk u u' h T
   exact⟨Int.le_of_eq ht.symm,λh=>absurd h d8⟩
  ·obtain⟨_,rfl⟩:=hk s u' hs T
   have LE:=(hr k s hs).1 (.inr (.inr h3));refine⟨λe=>by omega,λ_ a ha=>?_⟩;rcases E.tms _ ha with h|h
   ·exact Nat.le_trans LE (J.due _ h)
   ·exact Nat.le_trans LE (t7 _ h)
  ·obtain⟨rfl,rfl⟩:=hk u u' h T
   exact⟨Int.le_of_eq ht.symm,λh=>absurd h d8,λe=>by omega⟩
  ·have:=(d6.due_less (by rw[I];exact J.get) d9).NK
   rw[e,I]at this;exact Nat.le_of_eq this
def Ticks.go{up:Nat}{U:En}(h:Ticks up S U):∀{id:Nat} {F:Flow} {R:Rn},S.now<=up->up<=4611686018427387904->Lone id F S R->∃R',Go id F S U R R'/\U.now=up/\∀x∈U.tms,up<x.2:=by
 induction h with
 |@done S hd=>
  intro id F R I J E;refine⟨R,⟨⟨E.ok.times (sets:=_) J E.ok.knd E.ok.tms,E.get,E.fl,E.seed,E.alone,E.hon,λx hx=>Nat.le_of_lt (hd x hx)⟩,Wt.refl _,λrd hr j s hs=>⟨λe=>Nat.le_trans ((hr j s hs).1 e) I,(hr j s hs).2⟩,λts K=>⟨K.nd,K.low,K.at_,K.inj,K.work⟩,I,rfl,rfl,cx _⟩,rfl,hd⟩
 |@step S U x Y hm hx _ ih=>
  intro id F R I J E;obtain⟨R1,hg⟩:=E.due_go hm;have T:({S with now:=x.2,tms:=Y}.due x.1).now=x.2:=by
   obtain⟨O,hno,R1,d6,d7⟩:=E.ok.pop hm;exact(O.due_less d6 d7).now
  obtain⟨R2,d8,h1,h2⟩:=ih (by rw[T];exact hx) J hg.lone;exact⟨R2,hg.trans d8,h1,h2⟩
def Ticks.bound{U:En}(h:Ticks id S U)(T:Ok S):U.sets<=S.sets+S.mass/\U.ends<=S.ends+S.mass/\U.NK=S.NK/\U.NL=S.NL:=by
 induction h with
 |done _=>exact⟨Nat.le_add_right _ _,Nat.le_add_right _ _,rfl,rfl⟩
 |@step S U x E hm hx _ ih=>
  obtain⟨I,hno,R1,J,K⟩:=T.pop hm;have O:=I.due_less J K;obtain⟨a1,a2,Y,a4⟩:=ih (I.due J K hno);have h1:({S with now:=x.2,tms:=E}.due x.1).mass<S.mass:=O.mass;have h2:({S with now:=x.2,tms:=E}.due x.1).sets<=S.sets+1:=O.sets;have h3:({S with now:=x.2,tms:=E}.due x.1).ends<=S.ends+1:=O.ends;exact⟨am,am,Y.trans O.NK,a4.trans O.NL⟩
structure Seen(id:Nat)(F:Flow)(S:En)(R:Rn)(rd:Nat->Nat)(ts:List Hd):Prop where
 lone:Lone id F S R
 rdy:ME id S R rd
 tsk:Tsk S R ts
structure Few(n:Nat)(S:En):Prop where
 sets:S.sets<=100+200*n
 ends:S.ends<=100+200*n
 tok:S.NK<=100+n
 run:S.NL<=100
 now:S.now<=100+100*n
section
variable{rd:Nat->Nat}{ts:List Hd}
end
def JY(i:Nat):Node:=⟨1,50,0,1,1,0,if i%3=2 then[((i-1:Nat):Int)] else[]⟩
def JZ(n:Nat):Flow:=⟨100,(List.range n).map JY⟩
structure FRun(n:Nat)(R:Rn):Prop where
 fl:R.fl=JZ n
 len:R.NN.length=n
 a:∀(j:Nat) (s:Sp),R.NN[j]?=some s->j%3≠2->s.state=2\/s.state=5
 b:∀(j:Nat) (s:Sp),R.NN[j]?=some s->j%3=2->(s.state=1/\cY R.NN (j-1) 2=true)\/((s.state=2\/s.state=5)/\cY R.NN (j-1) 5=true)
 t:∀(j:Nat) (s:Sp),R.NN[j]?=some s->s.state=2->s=⟨2,0,0⟩
 w:∀(j:Nat) (s:Sp),R.NN[j]?=some s->s.state=1->s=⟨1,0,0⟩
def fnext(id n k:Nat):List Pl:=if k%3=1/\k+1<n then[⟨id,((k+1:Nat):Int),0⟩] else[]
structure Stepped(S S1 S2:En)(id k n:Nat)(q:List Pl):Prop where
 one:Ok S1
 two:Ok S2
 task:(S1.NQ.find? (·.1==S.NK+1)).map (·.2)=some ⟨id,(k:Int),0⟩
 NP:S2.NP=q++fnext id n k
 run:∃R',S2.getR id=some R'/\FRun n R'
 others:∀a,a≠id->S2.getR a=S.getR a
 NL:S2.NL=S.NL
 runs:S2.runs.length=S.runs.length
 sets:S2.sets=S.sets+1
 now:S2.now=S.now
 NK:S2.NK=S.NK+1
 ends:S2.ends<=S.ends+1
 sets1:S1.sets=S.sets+1
 ends1:S1.ends=S.ends
 token1:S1.NK=S.NK+1
 lastRun1:S1.NL=S.NL
def flow2:Flow:=⟨100,[⟨2,9,0,3,9,0,[]⟩,⟨1,9,0,1,1,0,[0]⟩]⟩
def rn2(st:Int)(a b:Sp)(e:Nat):Rn:=⟨flow2,st,[a,b],e⟩
def o1:En:=⟨0,0,1,0,0,[(1,rn2 1 ⟨2,0,0⟩ ⟨1,0,0⟩ 0)],[],[⟨1,0,0⟩],[(⟨1,-1,0⟩,100)],1⟩
def o2:En:=⟨0,0,1,1,0,[(1,rn2 1 ⟨3,1,1⟩ ⟨1,0,0⟩ 0)],[(1,⟨1,0,0⟩)],[],[(⟨1,-1,0⟩,100),(⟨1,0,1⟩,9)],2⟩
def o3:En:=⟨0,0,1,1,0,[(1,rn2 1 ⟨4,1,0⟩ ⟨1,0,0⟩ 0)],[],[],[(⟨1,-1,0⟩,100),(⟨1,0,1⟩,3)],3⟩
def o4:En:=⟨3,0,1,1,0,[(1,rn2 1 ⟨2,1,0⟩ ⟨1,0,0⟩ 0)],[],[⟨1,0,0⟩],[(⟨1,-1,0⟩,100)],3⟩
def o6:En:=⟨3,0,1,2,0,[(1,rn2 1 ⟨5,2,0⟩ ⟨2,0,0⟩ 0)],[],[⟨1,1,0⟩],[(⟨1,-1,0⟩,100)],4⟩
def o8:En:=⟨3,0,1,3,1,[(1,rn2 2 ⟨5,2,0⟩ ⟨5,1,0⟩ 1)],[],[],[],5⟩
def cut0{S0:En}(h:Cut En.fresh S0):S0=En.fresh:=by
 unfold Cut at h;rw[if_neg fh]at h;exact h
def uD{n k:Nat}:n<128 ^ (k+1)->(dJ n).length<=k+1:=by
 induction k generalizing n with
 |zero=>
  intro h;rw[dJ,if_pos (by simpa using h)];simp
 |succ k E=>
  intro h;rw[dJ]
  split
  ·simp
  ·have:=E (n:=n/128) (by rw[Nat.div_lt_iff_lt_mul am];rw[Nat.pow_succ]at h;exact h)
   simp only[List.length_cons];omega
def iq{x:Int}(E:x<=1048576):(dJ x.toNat).length<=3:=uD (k:=2) am
def uz{α β:Type}{f:α->List β}{n:Nat}:∀{l:List α},(∀x∈l,(f x).length<=n)->(l.flatMap f).length<=l.length*n
 | [],_=>by simp
 |x::l,h=>by
  have I:=h x (.head _);have J:=uz (l:=l) λy E=>h y (.tail _ E);rw[List.flatMap_cons,List.length_append,List.length_cons,Nat.succ_mul];omega
def vu{len:Nat}:∀(l:List Int) (p:Int),EdgesOk len p l->(l.length:Int)<=max 0 ((len:Int)-1-p)
 | [],_,_=>by simp;omega
 |k::r,p,h=>by
  obtain⟨E,I,h3⟩:=h;have:=vu r k h3;simp only[List.length_cons];omega
def Fit.encLen(h:Fit f):(mP f).length<=1000:=by
 have Y:=h.head.2.2;have hd:=iq h.head.1.2;have hn:(dJ f.NO.length).length<=3:=uD (k:=2) am;have I:(f.NO.flatMap js).length<=f.NO.length*60:=uz λnd hnd=>by
  obtain⟨i,hi⟩:=List.getElem?_of_mem hnd;obtain⟨⟨a1,a2,⟨b1,b2⟩,⟨c1,c2⟩,⟨d1,d2⟩,⟨e1,e2⟩,g1,g2⟩,K⟩:=h.NO i nd (eK hi) hi;have hl:=vu _ _ K;have k1:=iq (x:=nd.NR) am;have k2:=iq (x:=nd.close) am;have k3:=iq (x:=nd.beat) am;have k4:=iq (x:=nd.base) am;have k5:=iq (x:=nd.cap) am;have k6:=iq (x:=nd.NS) am;have k7:(dJ nd.after.length).length<=3:=uD (k:=2) am;have k8:(nd.after.flatMap λk=>dJ k.toNat).length<=nd.after.length*3:=uz λx T=>by
   have J:∀(l:List Int) (p:Int),EdgesOk f.NO.length p l->∀y∈l,y<f.NO.length:=by
    intro l
    induction l with
    |nil=>intro _ _ y E;simp at E
    |cons z l ih=>
     intro p O y E;rcases List.mem_cons.1 E with rfl|E
     ·exact O.2.1
     ·exact ih z O.2.2 y E
   exact iq (by have:=J _ _ K x T;omega)
  unfold js;simp only[List.length_append];omega
 unfold mP;simp only[List.length_append];omega
structure Reach(ns:List Node)(a:Nat)(R:Nat->Bool):Prop where
 at_:R a=true
 low:∀i,i<a->R i=false
 dom:∀i,R i=true->ns[i]?≠none
 step:∀i nd,a<i->ns[i]?=some nd->(R i=true<->∃k∈nd.after,R k.toNat=true)
section
variable{ns:List Node}{a z:Nat}{nd:Node}{R:Nat->Bool}
end
end FK
