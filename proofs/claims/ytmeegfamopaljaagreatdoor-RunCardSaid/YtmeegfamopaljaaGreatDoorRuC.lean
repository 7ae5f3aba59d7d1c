/- The engine in plain data: what each call turns of the one run that goes on. -/
import Derived.Test.YtmeegfamopaljaaGreatDoorRuB
variable {S:FK.En} {id:Nat} {R:FK.Rn} {F f:FK.Flow} {x:FK.KD}
namespace FK
structure Mv (id k:Nat) (S U:En) (R R':Rn) (new:List KD):Prop where
 get:U.getR id=some R'
 others:∀a,a≠id->U.getR a=S.getR a
 keys:U.runs.map (·.1)=S.runs.map (·.1)
 now:U.now=S.now
 seed:U.seed=S.seed
 KT:U.KT=S.KT
 KS:S.KS<=U.KS/\U.KS<=S.KS+1
 ends:U.ends<=S.ends+1
 sets:U.sets<=S.sets+2
 fl:R'.fl=R.fl
 len:R'.KV.length=R.KV.length
 KV:∀(j:Nat) (s:Sp),j≠k->R.KV[j]?=some s->∃s',R'.KV[j]?=some s'/\Nx s s'
 hon:Hon R'
 tms:∀x∈U.tms,x∈S.tms\/x∈new
 keep:R'.state=1->∀x∈S.tms,(∀w,x.1≠⟨id,(k:Int),w⟩)->x∈U.tms
 newin:R'.state=1->∀x∈new,x∈U.tms
section
variable {a j k:Nat} {s s':Sp} {p:Pl}
theorem oW (R:Rn) (k:Nat) (s:Sp) (st:Int):R.turned k s st=R.setS k ⟨st,s.KU,0⟩:=by
 unfold Rn.turned;rw[setS_setS]
theorem oo (h:j≠k):(R.setS k s).KV[j]?=R.KV[j]?:=by
 unfold Rn.setS;exact List.getElem?_set_ne (Ne.symm h)
theorem setS_len:(R.setS k s).KV.length=R.KV.length:=by simp[Rn.setS]
theorem ls {u:Sp} (h:(R.setS k s').KV[j]?=some u):(j=k/\u=s')\/(j≠k/\R.KV[j]?=some u):=by
 by_cases E:j=k
 · subst E
   have I:j<R.KV.length:=by have:=(gfGet.1 h).1;rwa [setS_len] at this
   have J:R.KV[j]?=some (R.KV[j]):=List.getElem?_eq_getElem I;rw[setS_at J] at h;injection h with h;exact .inl ⟨rfl,h.symm⟩
 · rw[oo E] at h
   exact .inr ⟨E,h⟩
theorem qU {u:Nat} {x:Int} (E:R.KV[k]?=some s) (h:u=k->(s'.state=x<->s.state=x)):cO (R.setS k s').KV u x=cO R.KV u x:=by
 by_cases I:u=k
 · subst I
   rw[fk (setS_at E),fk E,Bool.eq_iff_iff];simpa using h rfl
 · exact jo (oo I)
theorem Cy (E:R.KV[k]?=some s) (h:s'.state=5<->s.state=5):qC (R.setS k s') j<->qC R j:=by
 unfold qC;have:∀u,cO (R.setS k s').KV u 5=cO R.KV u 5:=λu=>qU E λ_=>h;simp only[this];exact Iff.rfl
theorem Hon0.set (h:Hon0 R) (J:R.KV[k]?=some s) (Y:2<=s.state/\s.state<=4) (h2:2<=s'.state/\s'.state<=4):Hon0 (R.setS k s'):=by
 have O:s'.state=5<->s.state=5:=am;refine⟨λj u E K=>?_,λI j u E K=>?_,λI j u E K v T=>?_⟩
 · rw[Cy J O]
   rcases ls E with⟨rfl,rfl⟩|⟨_,E⟩
   · exact h.up _ s J am
   · exact h.up j u E K
 · rw[Cy J O]
   rcases ls E with⟨rfl,rfl⟩|⟨_,E⟩
   · omega
   · exact h.wt I j u E K
 · rcases ls E with⟨rfl,rfl⟩|⟨_,E⟩
   · omega
   · have:=h.sk I j u E K v T
     rw[qU J (λ_=>by omega),qU J (λ_=>by omega)];exact this
theorem Hon.set {R:Rn} (h:Hon R) (E:R.state=1) {k:Nat} {s s':Sp} (I:R.KV[k]?=some s) (J:2<=s.state/\s.state<=4) (K:2<=s'.state/\s'.state<=4):Hon (R.setS k s'):=
 ⟨h.h0.set I J K,λ_=>⟨k,s',setS_at I,by rw[xF];omega⟩,λe=>absurd (E.symm.trans e) fi,λe=>absurd E e⟩
theorem Gv (h:x∈(S.setT p a).tms):(x∈S.tms/\x.1≠p)\/x=(p,a):=by
 unfold En.setT at h;rcases List.mem_append.1 h with h|h
 · obtain⟨E,I⟩:=List.mem_filter.1 h
   exact .inl ⟨E,by simpa using I⟩
 · exact .inr (List.mem_singleton.1 h)
theorem DD (h:x∈S.tms) (E:x.1≠p):x∈(S.setT p a).tms:=by
 unfold En.setT;exact List.mem_append_left _ (List.mem_filter.2 ⟨h,by simpa using E⟩)
theorem F0:(p,a)∈(S.setT p a).tms:=by
 unfold En.setT;exact List.mem_append_right _ (List.mem_singleton.2 rfl)
theorem Ok.running {S:En} (h:Ok S) {id k:Nat} {R:Rn} {s:Sp} (E:S.getR id=some R) (I:R.KV[k]?=some s) (J:s.state=1\/s.state=2\/s.state=3\/s.state=4):R.state=1:=by
 obtain⟨n,O,K⟩:=h.node E I;exact K.running J
theorem Ga (O:S.getR id=some R) (T:R.KV[k]?=some s) (I:R.state=1) (h4:s.state=4) (Y:Hon R):Mv id k S (S.ready id k) R (R.setS k {s with state:=2}) []:=by
 obtain⟨E,K⟩:=xx O T;refine⟨?_,E.others,E.keys,E.now,E.seed,E.KT,by rw[E.KS];omega,by rw[K.ends];omega,by rw[K.sets];omega,rfl,setS_len,λj u hj hu=>⟨u,by rw[oo hj];exact hu,Nx.refl u⟩,Y.set I T am (by show(2:Int)<=2/\(2:Int)<=4;omega),λx J=>.inl (by rw[<-K.tms];exact J),λ_ x J _=>by rw[K.tms];exact J,λ_ x J=>by cases J⟩;rw[jz O T];exact dO O
end
structure Part (id k:Nat) (S D:En) (A:Rn):Prop where
 get:D.getR id=some A
 fr:Fr id S D
 ends:D.ends=S.ends
 sets:D.sets=S.sets
 tms:∀x∈D.tms,x∈S.tms
 keep:∀x∈S.tms,(∀w,x.1≠⟨id,(k:Int),w⟩)->x∈D.tms
section
variable {k:Nat} {s:Sp}
theorem part_at {A:Rn} (I:S.getR id=some R) (J:R.KV[k]?=some s):Part id k S ((S.leave id k).setR id A) A:=by
 rw[fe I J];have e:((({S with KY:=S.KY.eraseP (·.1==s.token)}.setR id (R.setS k {s with token:=0})).unset ⟨id,(k:Int),1⟩).unset ⟨id,(k:Int),2⟩).setR id A={S.setR id A with KY:=S.KY.eraseP (·.1==s.token),tms:=(S.tms.filter λx=>x.1 !=⟨id,(k:Int),1⟩).filter λx=>x.1 !=⟨id,(k:Int),2⟩}:=by
  show((({S with KY:=S.KY.eraseP (·.1==s.token)}.setR id (R.setS k {s with token:=0})).setR id A).unset _).unset _=_;rw[setR_setR]
  rfl
 rw[e];refine⟨dO I,⟨λa K=>gf K,setR_keys,rfl,rfl,rfl,rfl⟩,rfl,rfl,λx E=>?_,λx E hno=>?_⟩
 · exact(List.mem_filter.1 (List.mem_filter.1 E).1).1
 · exact List.mem_filter.2 ⟨List.mem_filter.2 ⟨E,by simpa using hno 1⟩,by simpa using hno 2⟩
theorem Ok.rests_mv (h:Ok S) (T:S.getR id=some R) (O:R.KV[k]?=some s) (h3:s.state=3) (E:Nat) (Y:Hon R):Mv id k S (S.rests id k R s E) R (R.setS k ⟨4,s.KU,0⟩) [(⟨id,(k:Int),1⟩,S.later E)]:=by
 have K:=h.running T O am;have I:=part_at (A:=R.turned k s 4) T O;have hl:(S.leave id k).later E=S.later E:=by rw[fe T O];rfl
 unfold En.rests;rw[hl];rw[oW] at I ⊢;refine⟨I.get,I.fr.others,I.fr.keys,I.fr.now,I.fr.seed,I.fr.KT,⟨Nat.le_of_eq I.fr.KS.symm,Nat.le_trans (Nat.le_of_eq I.fr.KS) (Nat.le_succ _)⟩,Nat.le_trans (Nat.le_of_eq I.ends) (Nat.le_succ _),Nat.le_trans (Nat.succ_le_succ (Nat.le_of_eq I.sets)) (Nat.le_succ _),rfl,setS_len,λj u hj hu=>⟨u,by rw[oo hj];exact hu,Nx.refl u⟩,Y.set K O am (by show(2:Int)<=4/\(4:Int)<=4;omega),λx J=>?_,λ_ x J hno=>DD (I.keep x J hno) (hno 1),λ_ x J=>?_⟩
 · rcases Gv J with⟨J,_⟩|rfl
   · exact .inl (I.tms x J)
   · exact .inr (List.mem_singleton.2 rfl)
 · rw[List.mem_singleton] at J
   subst J;exact F0
theorem Settled.mv {D W U:En} {A B R':Rn} (J:Part id k S D A) (Y:Fr id D W) (K:W.tms=D.tms) (mt:W.ends=D.ends) (wf:W.sets=D.sets) (E:Settled id W U B R') (BT:B.fl=R.fl) (O:B.KV.length=R.KV.length) (Fd:∀(j:Nat) (s:Sp),j≠k->R.KV[j]?=some s->∃s',B.KV[j]?=some s'/\Nx s s'):Mv id k S U R R' []:=by
 have I:=(J.fr.trans Y).trans E.fr;refine⟨E.get,I.others,I.keys,I.now,I.seed,I.KT,by rw[I.KS];omega,by have:=E.ends;rw[mt,J.ends] at this;exact this,by rw[E.sets,wf,J.sets];omega,E.fl.trans BT,E.len.trans O,λj s hj In=>?_,E.hon,λx T=>.inl (J.tms x (by rw[<-K];exact E.tms x T)),λe x T hno=>?_,λ_ x T=>by cases T⟩
 · obtain⟨s1,h1,n1⟩:=Fd j s hj In
   obtain⟨s2,h2,n2,_⟩:=E.KV j s1 h1;exact⟨s2,h2,n1.trans n2⟩
 · rw[(E.stay e).1,K]
   exact J.keep x T hno
theorem Id (O:Fit f):∃T,Ordering f.KW 0 T:=by
 have key:∀(m left:Nat) (told:List Nat),Ordering f.KW left told->f.KW.length-told.length<=m->∃T,Ordering f.KW 0 T:=by
  intro m
  induction m with
  | zero=>
   intro left told h I;refine⟨told,?_⟩;have:left=0:=Nat.eq_of_testBit_eq λi=>by
    rw[Nat.zero_testBit];cases hb:left.testBit i with
    | false=>rfl
    | true=>
     obtain⟨h1,h2⟩:=(h.bits i).1 hb;have:=ll (l:=i::told) (m:=List.range f.KW.length) (List.nodup_cons.2 ⟨h2,h.nodup⟩) (λx E=>by
      rcases List.mem_cons.1 E with rfl|E
      · exact List.mem_range.2 h1
      · exact List.mem_range.2 (h.lt x E))
     rw[List.length_range] at this;simp only[List.length_cons] at this;omega
   rw[this] at h;exact h
  | succ m ih=>
   intro left told h I
   by_cases J:∀i,left.testBit i=true->∃k∈aft f.KW i,left.testBit k=true
   · have:=h.zero O J
     rw[this] at h;exact⟨told,h⟩
   · have:∃i,left.testBit i=true/\∀k∈aft f.KW i,left.testBit k=false:=Classical.byContradiction λY=>J λi hi=>Classical.byContradiction λhk=>Y ⟨i,hi,λk I=>by
      cases hb:left.testBit k with
      | false=>rfl
      | true=>exact absurd ⟨k,I,hb⟩ hk⟩
     obtain⟨i,hi,hno⟩:=this;refine ih (left ^^^ (1<<<i)) (told++[i]) (h.tell hi hno λj=>?_) (by simp;omega);rw[Nat.testBit_xor,l9]
     by_cases K:j=i
     · subst K
       simp[hi]
     · simp[K]
 exact key _ _ _ (Ordering.start _) (cu _)
theorem Ok.dies_mv (h:Ok S) {n:Node} (hR:S.getR id=some R) (hs:R.KV[k]?=some s) (hn:R.fl.KW[k]?=some n) (h3:s.state=3) (hb:s.KU=n.KZ) (hH:Hon R):∃R',Mv id k S (S.dies id k R s (kQ R.fl.KW)) R R' []/\∃s',R'.KV[k]?=some s'/\s'.state=6/\s'.KU=s.KU:=by
 have In:=h.running hR hs am;have K4:=h.run id R hR;have hl:=K4.len;obtain⟨A,hA⟩:∃A,A=R.turned k s 6:=⟨_,rfl⟩;have J:A=R.setS k ⟨6,s.KU,0⟩:=by rw[hA,oW]
 obtain⟨T,hT⟩:∃T,T=kQ R.fl.KW:=⟨_,rfl⟩;have K8:∃T,Ordering R.fl.KW 0 T:=by
  have:=Id K4.fl;exact this
 have K5:Ordering R.fl.KW 0 T:=by
  rw[hT];unfold kQ;rw[dif_pos K8];exact K8.choose_spec
 unfold En.dies;rw[<-hT,<-hA];have hp:=part_at (A:=(R.turned k s 6).skips T) hR hs;have K6:Ok ((S.leave id k).setR id ((R.turned k s 6).skips T)):=by
  have O:=h.part hR hs hn h3 (st:=6) (.inr (.inr ⟨rfl,hb⟩));have h2:=Ok.skips (id:=id) T O (lz hR hs);rw[setR_setR] at h2;exact h2
 rw[<-hA] at hp K6;have Y:A.KV.length=R.fl.KW.length:=by rw[J,setS_len];exact hl
 have K3:A.fl=R.fl:=by rw[J];rfl
 have mt:=λj u K=>mG (ns:=R.fl.KW) (l:=A.KV) Y T.length T rfl (K5.beh K4.fl) j u K;obtain⟨B,hB⟩:∃B,B=A.skips T:=⟨_,rfl⟩;have K9:B.KV=T.foldl (skipK R.fl.KW) A.KV:=by rw[hB];unfold Rn.skips;rw[K3]
 have wf:B.fl=R.fl:=by rw[hB];exact K3
 have BT:B.KV.length=R.KV.length:=by rw[K9,lq,Y,hl]
 rw[<-K9] at mt;rw[<-hB] at hp K6 ⊢;have E:∀(j:Nat) (u:Sp),B.KV[j]?=some u->∃v,A.KV[j]?=some v/\((v.state=1/\u={v with state:=7})\/(u=v/\¬(v.state=1/\∃y∈aft R.fl.KW j,cO B.KV y 6=true\/cO B.KV y 7=true))):=λj u K=>by
  have Lb:j<A.KV.length:=by have:=(gfGet.1 K).1;rw[BT] at this;rw[Y,<-hl];exact this
  have I:A.KV[j]?=some (A.KV[j]):=List.getElem?_eq_getElem Lb;refine⟨_,I,?_⟩;obtain⟨g1,g2⟩:=mt j _ I
  by_cases hc:(A.KV[j]).state=1/\∃y∈aft R.fl.KW j,cO B.KV y 6=true\/cO B.KV y 7=true
  · have:=g1 ⟨K5.full j (by rw[<-Y];exact Lb),hc⟩
    rw[K] at this;injection this with this;exact .inl ⟨hc.1,this⟩
  · have:=g2 λh=>hc h.2
    rw[K] at this;injection this with this;exact .inr ⟨this,hc⟩
 have h5:∀u,cO B.KV u 5=cO R.KV u 5:=λu=>by
  have ha:cO A.KV u 5=cO R.KV u 5:=by rw[J];exact qU hs λ_=>by show(6:Int)=5<->_;omega
  rw[<-ha,Bool.eq_iff_iff,isAt_iff,isAt_iff];constructor
  · rintro⟨x,hx,e⟩
    obtain⟨v,I,⟨_,rfl⟩|⟨rfl,_⟩⟩:=E u x hx
    · replace e:(7:Int)=5:=e
      omega
    · exact⟨_,I,e⟩
  · rintro⟨x,hx,e⟩
    exact⟨x,(mt u x hx).2 (λh=>by omega),e⟩
 have Lc:∀j,qC B j<->qC R j:=λj=>by
  unfold qC;rw[wf];simp only[h5]
 have h0:Hon0 B:=by
  refine⟨λj u K hr=>?_,λ_ j u K O=>?_,λ_ j u K O v I=>?_⟩
  · rw[Lc]
    obtain⟨v,I,⟨_,rfl⟩|⟨rfl,_⟩⟩:=E j u K
    · have:(2:Int)<=7/\(7:Int)<=6:=hr
      omega
    · rw[J] at I
      rcases ls I with⟨rfl,rfl⟩|⟨_,I⟩
      · exact hH.h0.up _ s hs am
      · exact hH.h0.up j _ I hr
  · rw[Lc]
    obtain⟨v,I,⟨_,rfl⟩|⟨rfl,_⟩⟩:=E j u K
    · replace O:(7:Int)=1:=O
      omega
    · rw[J] at I
      rcases ls I with⟨rfl,rfl⟩|⟨_,I⟩
      · replace O:(6:Int)=1:=O
        omega
      · exact hH.h0.wt In j _ I O
  · obtain⟨x,hx,⟨_,rfl⟩|⟨rfl,hc⟩⟩:=E j u K
    · replace O:(7:Int)=1:=O
      omega
    · rw[wf] at I
      constructor
      · cases hi:cO B.KV v 6 with
        | false=>rfl
        | true=>exact absurd ⟨O,v,I,.inl hi⟩ hc
      · cases hi:cO B.KV v 7 with
        | false=>rfl
        | true=>exact absurd ⟨O,v,I,.inr hi⟩ hc
 have K7:B.state=1:=by rw[hB,J];exact In
 obtain⟨R',Fd⟩:=K6.settled hp.get K7 h0;refine⟨R',Settled.mv hp (Fr.refl _ _) rfl rfl rfl Fd wf BT λj u K hu=>?_,?_⟩
 · have Ld:A.KV[j]?=some u:=by rw[J,oo K];exact hu
   obtain⟨g1,g2⟩:=mt j u Ld
   by_cases hc:u.state=1/\∃y∈aft R.fl.KW j,cO B.KV y 6=true\/cO B.KV y 7=true
   · exact⟨_,g1 ⟨K5.full j (by rw[<-Y];exact(gfGet.1 Ld).1),hc⟩,Nx.skip hc.1⟩
   · exact⟨_,g2 λh=>hc h.2,Nx.refl u⟩
 · have Le:A.KV[k]?=some ⟨6,s.KU,0⟩:=by rw[J];exact setS_at hs
   have Lg:B.KV[k]?=some ⟨6,s.KU,0⟩:=(mt k _ Le).2 λh=>by
    have:=h.2.1;replace this:(6:Int)=1:=this;omega
   obtain⟨s',g1,g2,g3⟩:=Fd.KV k _ Lg;exact⟨s',g1,g3,g2.KU⟩
end
structure Lone (id:Nat) (F:Flow) (S:En) (R:Rn):Prop where
 ok:Ok S
 get:S.getR id=some R
 fl:R.fl=F
 seed:S.seed=0
 alone:∀a A,a≠id->S.getR a=some A->A.state≠1
 hon:Hon R
 due:∀x∈S.tms,S.now<=x.2
structure Wt (R R':Rn):Prop where
 len:R'.KV.length=R.KV.length
 tr:∀(k:Nat) (s s':Sp),R.KV[k]?=some s->R'.KV[k]?=some s'->s.KU<=s'.KU/\(over s=true->s'.state=s.state)
 st:R.state≠1->R'.state=R.state
theorem Wt.refl (R:Rn):Wt R R:=⟨rfl,λk s s' h E=>by rw[h] at E;injection E with E;subst E;exact⟨Int.le_refl _,λ_=>rfl⟩,λ_=>rfl⟩
theorem Wt.trans {A B C:Rn} (h:Wt A B) (k:Wt B C):Wt A C:=⟨k.len.trans h.len,λj s s' J E=>by
 have I:j<B.KV.length:=by rw[h.len];exact(gfGet.1 J).1
 have T:B.KV[j]?=some (B.KV[j]):=List.getElem?_eq_getElem I;obtain⟨Y,a2⟩:=h.tr j s _ J T;obtain⟨b1,b2⟩:=k.tr j _ s' T E;refine⟨Int.le_trans Y b1,λK=>?_⟩;have e:=a2 K;rw[<-e];exact b2 (by rw[over_iff] at K ⊢;omega),λO=>by
 have:=h.st O;rw[<-this];exact k.st (by rw[this];exact O)⟩
def JQ (id:Nat) (S:En) (R:Rn) (rd:Nat->Nat):Prop:=∀(k:Nat) (s:Sp),R.KV[k]?=some s->(s.state=1\/s.state=2\/s.state=3->rd k<=S.now)/\(s.state=4->∀a,((⟨id,(k:Int),1⟩:Pl),a)∈S.tms->rd k<=a)
structure Hd where
 node:Nat
 tri:Int
 tok:Nat
structure Tsk (S:En) (R:Rn) (ts:List Hd):Prop where
 nd:(ts.map (·.tok)).Nodup
 low:∀a∈ts,1<=a.tok/\a.tok<=S.KS
 at_:∀a∈ts,1<=a.tri/\∃s,R.KV[a.node]?=some s/\a.tri<=s.KU
 inj:∀a∈ts,∀b∈ts,a.node=b.node->a.tri=b.tri->a=b
 work:∀(k:Nat) (s:Sp),R.KV[k]?=some s->s.state=3->⟨k,s.KU,s.token⟩∈ts
theorem GB (h:S.now<=4611686018427387904) (n:Nat):S.now<=S.later n:=by unfold En.later;omega
section
variable {k:Nat} {U:En} {R':Rn} {new:List KD}
theorem Mv.lone (E:Mv id k S U R R' new) (J:Lone id F S R) (K:Ok U) (I:∀x∈new,S.now<=x.2):Lone id F U R':=
 ⟨K,E.get,E.fl.trans J.fl,E.seed.trans J.seed,λa A O T=>J.alone a A O (by rw[<-E.others a O];exact T),E.hon,λx Y=>by
  rw[E.now];rcases E.tms x Y with h|h
  · exact J.due x h
  · exact I x h⟩
theorem Mv.wt (K:Mv id k S U R R' new) (E:R.state=1) (hk:∀s s',R.KV[k]?=some s->R'.KV[k]?=some s'->s.KU<=s'.KU/\(over s=true->s'.state=s.state)):Wt R R':=
 ⟨K.len,λj s s' O I=>by
  by_cases Y:j=k
  · subst Y
    exact hk s s' O I
  · obtain⟨u,J,T⟩:=K.KV j s Y O
    rw[I] at J;injection J with J;subst J;exact⟨Int.le_of_eq T.KU.symm,T.ov⟩,λh=>absurd E h⟩
theorem Mv.back (K:Mv id k S U R R' new) {j:Nat} {s':Sp} (T:j≠k) (E:R'.KV[j]?=some s'):∃s,R.KV[j]?=some s/\Nx s s':=by
 have J:j<R.KV.length:=by rw[<-K.len];exact(gfGet.1 E).1
 have O:R.KV[j]?=some (R.KV[j]):=List.getElem?_eq_getElem J;obtain⟨u,I,Y⟩:=K.KV j _ T O;rw[E] at I;injection I with I;subst I;exact⟨_,O,Y⟩
theorem Mv.rdy (O:Mv id k S U R R' new) {rd E:Nat->Nat} (hr:JQ id S R rd) (T:∀x∈new,∃w,x.1=⟨id,(k:Int),w⟩) (Y:∀j,j≠k->E j=rd j)
 (hk:∀s',R'.KV[k]?=some s'->(s'.state=1\/s'.state=2\/s'.state=3->E k<=U.now)/\(s'.state=4->∀a,((⟨id,(k:Int),1⟩:Pl),a)∈U.tms->E k<=a)):JQ id U R' E:=by
 intro j s' I
 by_cases K:j=k
 · subst K
   exact hk s' I
 · obtain⟨s,hs,J⟩:=O.back K I
   obtain⟨a1,a2⟩:=hr j s hs;rw[Y j K,O.now];refine⟨λh=>a1 ?_,λh4 a ha=>?_⟩
   · rcases h with h|h|h
     · exact .inl (J.w1 h)
     · rcases J.w2 h with h|h
       · exact .inr (.inl h)
       · exact .inl h
     · have:=J.w3 h
       rw[<-this];exact .inr (.inr h)
   · rcases O.tms _ ha with h|h
     · exact a2 (J.w4 h4) a h
     · obtain⟨w,e⟩:=T _ h
       obtain⟨_,e,_⟩:=jM e;exact absurd e K
theorem Mv.tsk (O:Mv id k S U R R' new) (T:R.state=1) {ts:List Hd} (I:Tsk S R ts) (hk:∀s s',R.KV[k]?=some s->R'.KV[k]?=some s'->s.KU<=s'.KU/\(over s=true->s'.state=s.state)/\(s'.state=3->s'=s)):Tsk U R' ts:=by
 have hw:=O.wt T λs s' h h'=>⟨(hk s s' h h').1,(hk s s' h h').2.1⟩;refine⟨I.nd,λa Y=>⟨(I.low a Y).1,Nat.le_trans (I.low a Y).2 O.KS.1⟩,λa Y=>?_,I.inj,λj s' E h3=>?_⟩
 · obtain⟨h1,s,J,h2⟩:=I.at_ a Y
   have K:a.node<R'.KV.length:=by rw[O.len];exact(gfGet.1 J).1
   have E:R'.KV[a.node]?=some (R'.KV[a.node]):=List.getElem?_eq_getElem K;exact⟨h1,_,E,Int.le_trans h2 (hw.tr _ _ _ J E).1⟩
 · by_cases hj:j=k
   · subst hj
     have K:j<R.KV.length:=by rw[<-O.len];exact(gfGet.1 E).1
     have J:R.KV[j]?=some (R.KV[j]):=List.getElem?_eq_getElem K;have:=(hk _ _ J E).2.2 h3;rw[this] at h3 ⊢;exact I.work j _ J h3
   · obtain⟨s,J,hn⟩:=O.back hj E
     have:=hn.w3 h3;rw[this] at h3 ⊢;exact I.work j s J h3
theorem Fin.mv {st:Int} (h:Fin id S U R R' st) (E:st≠1) (J:Hon R'):Mv id R.KV.length S U R R' []:=
 ⟨h.get,h.fr.others,h.fr.keys,h.fr.now,h.fr.seed,h.fr.KT,⟨Nat.le_of_eq h.fr.KS.symm,Nat.le_trans (Nat.le_of_eq h.fr.KS) (Nat.le_succ _)⟩,Nat.le_of_eq h.ends,Nat.le_trans (Nat.le_of_eq h.sets) (Nat.le_add_right _ _),h.fl,h.len,λj s _ K=>⟨_,h.KV j s K,Nx.ended s⟩,J,λx I=>.inl (h.tms x I),λe=>absurd (h.state.symm.trans e) E,λ_ x I=>by cases I⟩
end
structure Go (id:Nat) (F:Flow) (S U:En) (R R':Rn):Prop where
 lone:Lone id F U R'
 wt:Wt R R'
 rdy:∀rd,JQ id S R rd->JQ id U R' rd
 tsk:∀ts,Tsk S R ts->Tsk U R' ts
 now:S.now<=U.now
 keys:U.runs.map (·.1)=S.runs.map (·.1)
 KT:U.KT=S.KT
 KS:U.KS<=S.KS
theorem Go.refl {id:Nat} {F:Flow} {S:En} {R:Rn} (h:Lone id F S R):Go id F S S R R:=⟨h,Wt.refl R,λ_ h=>h,λ_ h=>h,cu _,rfl,rfl,cu _⟩
theorem Go.trans {id:Nat} {F:Flow} {S T U:En} {R A B:Rn} (h:Go id F S T R A) (k:Go id F T U A B):Go id F S U R B:=
 ⟨k.lone,h.wt.trans k.wt,λrd I=>k.rdy rd (h.rdy rd I),λE J=>k.tsk E (h.tsk E J),Nat.le_trans h.now k.now,k.keys.trans h.keys,k.KT.trans h.KT,Nat.le_trans k.KS h.KS⟩
theorem Lone.failed {id:Nat} {F:Flow} {S:En} {R:Rn} (E:Lone id F S R) {k:Nat} {s:Sp} (K:R.KV[k]?=some s) (h3:s.state=3):∃R' s' n,F.KW[k]?=some n/\R'.KV[k]?=some s'/\s'.KU=s.KU/\(s'.state=4\/s'.state=6)/\∃new,Mv id k S (S.failed id k) R R' new/\(∀x∈new,S.now<=x.2)/\(∀x∈new,∃w,x.1=⟨id,(k:Int),w⟩)/\Ok (S.failed id k)/\(s'.state=4->R'.state=1/\R'=R.setS k ⟨4,s.KU,0⟩/\new=[(⟨id,(k:Int),1⟩,S.later (fU n.base n.cap n.K0 s.KU 0).toNat)])/\(s'.state=6->new=[]):=by
 obtain⟨n,hn,hp⟩:=E.ok.node E.get K;have O:=E.ok.running E.get K am;have J:=E.ok.failed E.get K h3;have T:F.KW[k]?=some n:=by rw[<-E.fl];exact hn
 have Y:=kb E.get K hn
 by_cases hb:s.KU<n.KZ
 · rw[if_pos hb] at Y
   rw[Y] at J ⊢;refine⟨R.setS k ⟨4,s.KU,0⟩,⟨4,s.KU,0⟩,n,T,setS_at K,rfl,.inl rfl,_,E.ok.rests_mv E.get K h3 _ E.hon,λx I=>?_,λx I=>?_,J,λ_=>⟨O,rfl,by rw[E.seed];rfl⟩,λe=>by replace e:(4:Int)=6:=e;omega⟩
   · rw[List.mem_singleton] at I
     subst I;exact GB E.ok.now _
   · rw[List.mem_singleton] at I
     subst I;exact⟨_,rfl⟩
 · rw[if_neg hb] at Y
   rw[Y] at J ⊢;obtain⟨R',hm,s',h1,h2,h4⟩:=E.ok.dies_mv E.get K hn h3 (by have:=hp.trb;omega) E.hon;exact⟨R',s',n,T,h1,h4,.inr h2,[],hm,λx I=>(by cases I),λx I=>(by cases I),J,λe=>by omega,λ_=>rfl⟩
theorem Lone.due_go (hL:Lone id F S R) {K3:List KD} (hm:IsMin S.tms x K3):∃R',Go id F S ({S with now:=x.2,tms:=K3}.due x.1) R R':=by
 obtain⟨mt,hno,R1,K4,Fd⟩:=hL.ok.pop hm;have Lc:=hm.mem;have K5:=hm.perm;have I:x.1.run=id:=Classical.byContradiction λhn=>hL.alone _ R1 hn K4 Fd.1;have wf:R1=R:=by rw[I,hL.get] at K4;injection K4 with K4;exact K4.symm
 subst wf;have K:=Fd.1;obtain⟨S1,Y⟩:∃S1:En,S1={S with now:=x.2,tms:=K3}:=⟨_,rfl⟩;have J:Lone id F S1 R1:=by
  rw[Y];refine⟨mt,hL.get,hL.fl,hL.seed,hL.alone,hL.hon,λy hy=>?_⟩;exact hm.le y (K5.mem_iff.2 (.tail _ hy))
 have K8:∀rd,JQ id S R1 rd->JQ id S1 R1 rd:=λrd hr j s hs=>by
  obtain⟨a1,a2⟩:=hr j s hs;rw[Y];exact⟨λh=>Nat.le_trans (a1 h) (hL.due x Lc),λh a ha=>a2 h a (K5.mem_iff.2 (.tail _ ha))⟩
 have K9:∀ts,Tsk S R1 ts->Tsk S1 R1 ts:=λts h=>by
  rw[Y];exact⟨h.nd,h.low,h.at_,h.inj,h.work⟩
 have In:Go id F S S1 R1 R1:=⟨J,Wt.refl _,K8,K9,by rw[Y];exact hL.due x Lc,by rw[Y],by rw[Y],by rw[Y];exact cu _⟩;rw[<-Y] at mt ⊢;have wf:S1.getR x.1.run=some R1:=by rw[I];exact J.get
 have O:=mt.due wf Fd (by rw[Y];exact hno);obtain⟨p,hp⟩:∃p,p=x.1:=⟨_,rfl⟩;rw[<-hp] at wf Fd I O ⊢;rcases i8 wf Fd with⟨_,e⟩|⟨k,s,hs,⟨e1,h4,e⟩|⟨_,h3,e⟩⟩
 · rw[e,I] at O ⊢
   obtain⟨R',hF⟩:=mt.fin J.get 5;have E:=hF.mv fi (hF.hon fi fi J.hon K);have K6:∀{α:Prop} (s:Sp),R1.KV[R1.KV.length]?=some s->α:=λs hs=>by
    have:=(gfGet.1 hs).1;omega
   refine⟨R',In.trans ⟨E.lone J O (λx hx=>by cases hx),E.wt K λs s' h _=>K6 s h,λrd hr=>E.rdy hr (λx hx=>by cases hx) (λ_ _=>rfl) λs' Lb=>?_,λts ht=>E.tsk K ht λs s' h _=>K6 s h,Nat.le_of_eq E.now.symm,E.keys,E.KT,Nat.le_of_eq hF.fr.KS⟩⟩;have:=(gfGet.1 Lb).1;rw[hF.len] at this;omega
 · rw[e,I] at O ⊢
   have E:=Ga J.get hs K h4 J.hon;have hk:∀u u',R1.KV[k]?=some u->(R1.setS k {s with state:=2}).KV[k]?=some u'->u=s/\u'={s with state:=2}:=λu u' h T=>by
    rw[hs] at h;rw[setS_at hs] at T;injection h with h;injection T with T;exact⟨h.symm,T.symm⟩
   have BT:¬over s=true:=by rw[over_iff];omega
   have Lh:=E.lone J O (λx hx=>by cases hx);refine⟨_,⟨Lh,E.wt K λu u' h T=>?_,λrd hr=>E.rdy (K8 rd hr) (λx hx=>by cases hx) (λ_ _=>rfl) λu' T=>?_,λts ht=>E.tsk K (K9 ts ht) λu u' h T=>?_,Nat.le_trans In.now (Nat.le_of_eq E.now.symm),E.keys.trans In.keys,E.KT.trans In.KT,?_⟩⟩
   · obtain⟨rfl,rfl⟩:=hk u u' h T
     exact⟨Int.le_refl _,λh=>absurd h BT⟩
   · obtain⟨_,rfl⟩:=hk s u' hs T
     refine⟨λ_=>?_,λe=>by replace e:(2:Int)=4:=e;omega⟩;rw[E.now,Y];have Ld:((⟨id,(k:Int),1⟩:Pl),x.2)∈S.tms:=by
      rw[<-I,<-e1,hp];exact Lc
     exact(hr k s hs).2 h4 _ Ld
   · obtain⟨rfl,rfl⟩:=hk u u' h T
     exact⟨Int.le_refl _,λh=>absurd h BT,λe=>by replace e:(2:Int)=3:=e;omega⟩
   · have:(S1.ready id k).KS=S1.KS:=(xx J.get hs).1.KS
     rw[this];exact In.KS
 · rw[e,I] at O ⊢
   obtain⟨R',s',n,hn,Lb,ht,Li,new,E,K7,Lg,_,h4,_⟩:=J.failed hs h3;have BT:¬over s=true:=by rw[over_iff];omega
   have hk:∀u u',R1.KV[k]?=some u->R'.KV[k]?=some u'->u=s/\u'=s':=λu u' h T=>by
    rw[hs] at h;rw[Lb] at T;injection h with h;injection T with T;exact⟨h.symm,T.symm⟩
   refine⟨R',In.trans ⟨E.lone J O K7,E.wt K λu u' h T=>?_,λrd hr=>E.rdy hr Lg (λ_ _=>rfl) λu' T=>?_,λts hT=>E.tsk K hT λu u' h T=>?_,Nat.le_of_eq E.now.symm,E.keys,E.KT,?_⟩⟩
   · obtain⟨rfl,rfl⟩:=hk u u' h T
     exact⟨Int.le_of_eq ht.symm,λh=>absurd h BT⟩
   · obtain⟨_,rfl⟩:=hk s u' hs T
     have Le:=(hr k s hs).1 (.inr (.inr h3));refine⟨λe=>by omega,λ_ a ha=>?_⟩;rcases E.tms _ ha with h|h
     · exact Nat.le_trans Le (J.due _ h)
     · exact Nat.le_trans Le (K7 _ h)
   · obtain⟨rfl,rfl⟩:=hk u u' h T
     exact⟨Int.le_of_eq ht.symm,λh=>absurd h BT,λe=>by omega⟩
   · have:=(mt.due_less (by rw[I];exact J.get) Fd).KS
     rw[e,I] at this;exact Nat.le_of_eq this
theorem Ticks.go {up:Nat} {U:En} (h:Ticks up S U):∀{id:Nat} {F:Flow} {R:Rn},S.now<=up->up<=4611686018427387904->Lone id F S R->∃R',Go id F S U R R'/\U.now=up/\∀x∈U.tms,up<x.2:=by
 induction h with
 | @done S hd=>
  intro id F R I J E;refine⟨R,⟨⟨E.ok.times (sets:=_) J E.ok.knd E.ok.tms,E.get,E.fl,E.seed,E.alone,E.hon,λx hx=>Nat.le_of_lt (hd x hx)⟩,Wt.refl _,λrd hr j s hs=>⟨λe=>Nat.le_trans ((hr j s hs).1 e) I,(hr j s hs).2⟩,λts K=>⟨K.nd,K.low,K.at_,K.inj,K.work⟩,I,rfl,rfl,cu _⟩,rfl,hd⟩
 | @step S U x Y hm hx _ ih=>
  intro id F R I J E;obtain⟨R1,hg⟩:=E.due_go hm;have T:({S with now:=x.2,tms:=Y}.due x.1).now=x.2:=by
   obtain⟨O,hno,R1,mt,wf⟩:=E.ok.pop hm;exact(O.due_less mt wf).now
  obtain⟨R2,BT,h1,h2⟩:=ih (by rw[T];exact hx) J hg.lone;exact⟨R2,hg.trans BT,h1,h2⟩
theorem Ticks.bound {U:En} (h:Ticks id S U) (T:Ok S):U.sets<=S.sets+S.mass/\U.ends<=S.ends+S.mass/\U.KS=S.KS/\U.KT=S.KT:=by
 induction h with
 | done _=>exact⟨Nat.le_add_right _ _,Nat.le_add_right _ _,rfl,rfl⟩
 | @step S U x E hm hx _ ih=>
  obtain⟨I,hno,R1,J,K⟩:=T.pop hm;have O:=I.due_less J K;obtain⟨a1,a2,Y,a4⟩:=ih (I.due J K hno);have h1:({S with now:=x.2,tms:=E}.due x.1).mass<S.mass:=O.mass;have h2:({S with now:=x.2,tms:=E}.due x.1).sets<=S.sets+1:=O.sets;have h3:({S with now:=x.2,tms:=E}.due x.1).ends<=S.ends+1:=O.ends;exact⟨am,am,Y.trans O.KS,a4.trans O.KT⟩
structure Seen (id:Nat) (F:Flow) (S:En) (R:Rn) (rd:Nat->Nat) (ts:List Hd):Prop where
 lone:Lone id F S R
 rdy:JQ id S R rd
 tsk:Tsk S R ts
structure Few (n:Nat) (S:En):Prop where
 sets:S.sets<=100+200*n
 ends:S.ends<=100+200*n
 tok:S.KS<=100+n
 run:S.KT<=100
 now:S.now<=100+100*n
section
variable {rd:Nat->Nat} {ts:List Hd}
end
def GW (i:Nat):Node:=⟨1,50,0,1,1,0,if i%3=2 then[((i-1:Nat):Int)] else[]⟩
def GX (n:Nat):Flow:=⟨100,(List.range n).map GW⟩
structure FRun (n:Nat) (R:Rn):Prop where
 fl:R.fl=GX n
 len:R.KV.length=n
 a:∀(j:Nat) (s:Sp),R.KV[j]?=some s->j%3≠2->s.state=2\/s.state=5
 b:∀(j:Nat) (s:Sp),R.KV[j]?=some s->j%3=2->(s.state=1/\cO R.KV (j-1) 2=true)\/((s.state=2\/s.state=5)/\cO R.KV (j-1) 5=true)
 t:∀(j:Nat) (s:Sp),R.KV[j]?=some s->s.state=2->s=⟨2,0,0⟩
 w:∀(j:Nat) (s:Sp),R.KV[j]?=some s->s.state=1->s=⟨1,0,0⟩
def fnext (id n k:Nat):List Pl:=if k%3=1/\k+1<n then[⟨id,((k+1:Nat):Int),0⟩] else[]
structure Stepped (S S1 S2:En) (id k n:Nat) (q:List Pl):Prop where
 one:Ok S1
 two:Ok S2
 task:(S1.KY.find? (·.1==S.KS+1)).map (·.2)=some ⟨id,(k:Int),0⟩
 KX:S2.KX=q++fnext id n k
 run:∃R',S2.getR id=some R'/\FRun n R'
 others:∀a,a≠id->S2.getR a=S.getR a
 KT:S2.KT=S.KT
 runs:S2.runs.length=S.runs.length
 sets:S2.sets=S.sets+1
 now:S2.now=S.now
 KS:S2.KS=S.KS+1
 ends:S2.ends<=S.ends+1
 sets1:S1.sets=S.sets+1
 ends1:S1.ends=S.ends
 token1:S1.KS=S.KS+1
 lastRun1:S1.KT=S.KT
def flow2:Flow:=⟨100,[⟨2,9,0,3,9,0,[]⟩,⟨1,9,0,1,1,0,[0]⟩]⟩
def rn2 (st:Int) (a b:Sp) (e:Nat):Rn:=⟨flow2,st,[a,b],e⟩
def o2:En:=⟨0,0,1,1,0,[(1,rn2 1 ⟨3,1,1⟩ ⟨1,0,0⟩ 0)],[(1,⟨1,0,0⟩)],[],[(⟨1,-1,0⟩,100),(⟨1,0,1⟩,9)],2⟩
def o3:En:=⟨0,0,1,1,0,[(1,rn2 1 ⟨4,1,0⟩ ⟨1,0,0⟩ 0)],[],[],[(⟨1,-1,0⟩,100),(⟨1,0,1⟩,3)],3⟩
def o4:En:=⟨3,0,1,1,0,[(1,rn2 1 ⟨2,1,0⟩ ⟨1,0,0⟩ 0)],[],[⟨1,0,0⟩],[(⟨1,-1,0⟩,100)],3⟩
def o6:En:=⟨3,0,1,2,0,[(1,rn2 1 ⟨5,2,0⟩ ⟨2,0,0⟩ 0)],[],[⟨1,1,0⟩],[(⟨1,-1,0⟩,100)],4⟩
def o8:En:=⟨3,0,1,3,1,[(1,rn2 2 ⟨5,2,0⟩ ⟨5,1,0⟩ 1)],[],[],[],5⟩
theorem sw {n k:Nat}:n<128 ^ (k+1)->(dW n).length<=k+1:=by
 induction k generalizing n with
 | zero=>
  intro h;rw[dW,if_pos (by simpa using h)];simp
 | succ k E=>
  intro h;rw[dW]
  split
  · simp
  · have:=E (n:=n/128) (by rw[Nat.div_lt_iff_lt_mul am];rw[Nat.pow_succ] at h;exact h)
    simp only[List.length_cons];omega
theorem gI {x:Int} (E:x<=1048576):(dW x.toNat).length<=3:=sw (k:=2) am
theorem sm {α β:Type} {f:α->List β} {n:Nat}:∀{l:List α},(∀x∈l,(f x).length<=n)->(l.flatMap f).length<=l.length*n
 | [],_=>by simp
 | x::l,h=>by
  have I:=h x (.head _);have J:=sm (l:=l) λy E=>h y (.tail _ E);rw[List.flatMap_cons,List.length_append,List.length_cons,Nat.succ_mul];omega
theorem tD {len:Nat}:∀(l:List Int) (p:Int),EdgesOk len p l->(l.length:Int)<=max 0 ((len:Int)-1-p)
 | [],_,_=>by simp;omega
 | k::r,p,h=>by
  obtain⟨E,I,h3⟩:=h;have:=tD r k h3;simp only[List.length_cons];omega
theorem Fit.encLen (h:Fit f):(lG f).length<=1000:=by
 have Y:=h.head.2.2;have hd:=gI h.head.1.2;have hn:(dW f.KW.length).length<=3:=sw (k:=2) am;have I:(f.KW.flatMap iH).length<=f.KW.length*60:=sm λnd hnd=>by
  obtain⟨i,hi⟩:=List.getElem?_of_mem hnd;obtain⟨⟨a1,a2,⟨b1,b2⟩,⟨c1,c2⟩,⟨d1,d2⟩,⟨e1,e2⟩,g1,g2⟩,K⟩:=h.KW i nd (ep hi) hi;have hl:=tD _ _ K;have k1:=gI (x:=nd.KZ) am;have k2:=gI (x:=nd.close) am;have k3:=gI (x:=nd.beat) am;have k4:=gI (x:=nd.base) am;have k5:=gI (x:=nd.cap) am;have k6:=gI (x:=nd.K0) am;have k7:(dW nd.after.length).length<=3:=sw (k:=2) am;have k8:(nd.after.flatMap λk=>dW k.toNat).length<=nd.after.length*3:=sm λx T=>by
   have J:∀(l:List Int) (p:Int),EdgesOk f.KW.length p l->∀y∈l,y<f.KW.length:=by
    intro l
    induction l with
    | nil=>intro _ _ y E;simp at E
    | cons z l ih=>
     intro p O y E;rcases List.mem_cons.1 E with rfl|E
     · exact O.2.1
     · exact ih z O.2.2 y E
   exact gI (by have:=J _ _ K x T;omega)
  unfold iH;simp only[List.length_append];omega
 unfold lG;simp only[List.length_append];omega
end FK
