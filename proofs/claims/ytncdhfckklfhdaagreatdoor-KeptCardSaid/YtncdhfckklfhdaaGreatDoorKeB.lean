/- The engine in plain data: tasks that fail; ticks. -/
import Derived.Test.YtncdhfckklfhdaaGreatDoorKeA
set_option linter.defProp false
variable{S U:FK.En}{a i j k n:Nat}{R:FK.Rn}{s:FK.Sp}{st w:Int}{p:FK.Pl}{l':List FK.Sp}{f:FK.Flow}{x:FK.KD}
namespace FK
def gE(E I ji k seed:Int):Int:=(if k<=1 then E else if k<22 then min I (E*2 ^ (k.toNat-1)) else I)+seed%(ji+1)
noncomputable def En.failed(S:En)(id k:Nat):En:=match S.getR id with
 |some R=>match R.NN[k]?,R.fl.NO[k]? with
  |some s,some n=>if s.NM<n.NR then S.rests id k R s (gE n.base n.cap n.NS s.NM S.seed).toNat else S.dies id k R s (lS R.fl.NO)
  |_,_=>S
 |none=>S
noncomputable def En.fail(S:En)(t:Nat):En:=match (S.NQ.find? (·.1==t)).map (·.2)with
 |some p=>S.failed p.run p.node.toNat
 |none=>S
def kY{id:Nat}{n:Node}(E:S.getR id=some R)(I:R.NN[k]?=some s)(J:R.fl.NO[k]?=some n):S.failed id k=if s.NM<n.NR then S.rests id k R s (gE n.base n.cap n.NS s.NM S.seed).toNat else S.dies id k R s (lS R.fl.NO):=by
 unfold En.failed;rw[E];simp only[I,J]
theorem Ok.failed{S:En}(h:Ok S){id k:Nat}{R:Rn}{s:Sp}(E:S.getR id=some R)(I:R.NN[k]?=some s)(h3:s.state=3):Ok (S.failed id k):=by
 obtain⟨n,J,K⟩:=h.node E I;rw[kY E I J]
 split
 ·rename_i O
  exact h.rests E I J h3 O _
 ·exact h.dies E I J h3 (by have:=K.trb;omega) _
def tw{t id:Nat}(E:(S.NQ.find? (·.1==t)).map (·.2)=some ⟨id,(k:Int),w⟩):S.fail t=S.failed id k:=by
 unfold En.fail;rw[E]
 rfl
def Ok.fail{S:En}(h:Ok S)(t:Nat):Ok (S.fail t):=by
 cases hf:(S.NQ.find? (·.1==t)).map (·.2)with
 |none=>unfold En.fail;rw[hf];exact h
 |some p=>
  obtain⟨id,k,R,s,n,rfl,E,I,J,h3,_⟩:=h.find hf;rw[tw hf];exact h.failed E I h3
def LR(h:Ok S){id:Nat}(I:S.getR id=some R){left:Nat}{T:List Nat}(J:Ordering R.fl.NO left T)(K:∀i,left.testBit i=true->∃j∈aft R.fl.NO i,left.testBit j=true):S.dies id k R s T=S.dies id k R s (lS R.fl.NO):=by
 have E:=h.run id R I;unfold En.dies Rn.skips;have:T.foldl (skipK (R.turned k s 6).fl.NO) (R.turned k s 6).NN=(lS R.fl.NO).foldl (skipK (R.turned k s 6).fl.NO) (R.turned k s 6).NN:=KK E.fl J K _ (by simpa[Rn.turned,Rn.setS]using E.len);rw[this]
noncomputable def En.due(S:En)(p:Pl):En:=if p.what=0 then S.finish p.run 5 else match S.stp p.run p.node.toNat with
 |some s=>if s.state=4 then S.ready p.run p.node.toNat else S.failed p.run p.node.toNat
 |none=>S
inductive Ticks(up:Nat):En->En->Prop where
 |done {S:En}:(∀y∈S.tms,up<y.2)->Ticks up S {S with now:=up}
 |step {S U:En} {x:KD} {tms':List KD}:IsMin S.tms x tms'->x.2<=up->Ticks up ({S with now:=x.2,tms:=tms'}.due x.1) U->Ticks up S U
section
variable{f g:Nat->Nat}{l:List Nat}
def Ticks.unique{up:Nat}{S A B:En}(h:Ticks up S A):Ticks up S B->A=B:=by
 induction h with
 |done h=>
  intro k;cases k with
  |done _=>rfl
  |step E J _=>
   have:=h _ E.mem;omega
 |step E J _ K=>
  intro k;cases k with
  |done h=>
   have:=h _ E.mem;omega
  |step I _ k=>
   obtain⟨rfl,rfl⟩:=E.unique I;exact K k
def Ok.pop(h:Ok S){E:List KD}(K:IsMin S.tms x E):Ok {S with now:=x.2,tms:=E}/\(∀y∈E,y.1≠x.1)/\∃R,S.getR x.1.run=some R/\Cw R x.1:=by
 have O:=K.perm;have T:=h.tms x K.mem;have hk:=h.knd;have I:((x::E).map (·.1)).Nodup:=(O.map (·.1)).nodup_iff.1 hk;rw[List.map_cons,List.nodup_cons]at I;refine⟨h.times (sets:=S.sets) T.1 I.2 λy J=>h.tms y (O.mem_iff.2 (.tail _ J)),λy J e=>I.1 (by rw[<-e];exact List.mem_map_of_mem (f:=(·.1)) J),T.2⟩
def jP(T:S.getR p.run=some R)(Y:Cw R p):(p=⟨p.run,-1,0⟩/\S.due p=S.finish p.run 5)\/∃(k:Nat) (s:Sp),R.NN[k]?=some s/\((p=⟨p.run,(k:Int),1⟩/\s.state=4/\S.due p=S.ready p.run k)\/((p=⟨p.run,(k:Int),1⟩\/p=⟨p.run,(k:Int),2⟩)/\s.state=3/\S.due p=S.failed p.run k)):=by
 obtain⟨id,nd,wh⟩:=p;obtain⟨_,⟨J,I⟩|⟨k,s,J,I,h3⟩⟩:=Y
 ·simp only at J I
  subst J;subst I;exact .inl ⟨rfl,by unfold En.due;rfl⟩
 ·simp only at J I h3 T
  subst J;have K:=jp T I;refine .inr ⟨k,s,I,?_⟩;have O:wh≠0->En.due S ⟨id,(k:Int),wh⟩=if s.state=4 then S.ready id k else S.failed id k:=λhw=>by
   unfold En.due;simp only[Int.toNat_natCast,K];rw[if_neg hw]
  rcases h3 with⟨rfl,E⟩|⟨rfl,E⟩
  ·rcases E with E|E
   ·exact .inr ⟨.inl rfl,E,by rw[O fh,if_neg am]⟩
   ·exact .inl ⟨rfl,E,by rw[O fh,if_pos E]⟩
  ·exact .inr ⟨.inr rfl,E,by rw[O fh,if_neg am]⟩
def Ok.due{S:En}(h:Ok S){p:Pl}{R:Rn}(E:S.getR p.run=some R)(J:Cw R p)(hno:∀y∈S.tms,y.1≠p):Ok (S.due p):=by
 rcases jP E J with⟨_,e⟩|⟨k,s,I,⟨e1,T,e⟩|⟨_,h3,e⟩⟩
 ·rw[e]
  exact h.finish E fh
 ·rw[e]
  exact h.ready E I (.inr ⟨T,λy K O=>hno y K (by rw[O,e1])⟩)
 ·rw[e]
  exact h.failed E I h3
def Ticks.ok(h:Ticks k S U)(E:k<=4611686018427387904):Ok S->Ok U:=by
 induction h with
 |done _=>exact λh=>h.times (sets:=_) E h.knd h.tms
 |step T hx _ Y=>
  intro h;obtain⟨I,J,R,K,O⟩:=h.pop T;exact Y (I.due K O J)
def rD(s:Sp):Nat:=if s.state=3 then 2 else if s.state=4 then 1 else 0
def vJ(R:Rn):Nat:=if R.state=1 then 1+(R.NN.map rD).sum else 0
def wor:Option Rn->Nat
 |some R=>vJ R
 |none=>0
def En.mass(S:En):Nat:=((S.runs.map (·.1)).map λid=>wor (S.getR id)).sum
def MS(h:∀a∈l,f a<=g a):(l.map f).sum<=(l.map g).sum:=by
 induction l with
 |nil=>exact cx _
 |cons x l I=>
  have J:=h x (.head _);have K:=I λa E=>h a (.tail _ E);simp only[List.map_cons,List.sum_cons];omega
def MR(h:∀a∈l,f a<=g a)(hi:i∈l)(I:f i<g i):(l.map f).sum<(l.map g).sum:=by
 induction l with
 |nil=>cases hi
 |cons x l K=>
  have O:=h x (.head _);simp only[List.map_cons,List.sum_cons];rcases List.mem_cons.1 hi with rfl|hi
  ·have J:=MS λa E=>h a (.tail _ E)
   omega
  ·have J:=K (λa E=>h a (.tail _ E)) hi
   omega
def tp(hk:U.runs.map (·.1)=S.runs.map (·.1)){id:Nat}{R':Rn}(J:S.getR id=some R)(E:U.getR id=some R')(O:∀a,a≠id->U.getR a=S.getR a)(I:vJ R'<vJ R):U.mass<S.mass:=by
 unfold En.mass;rw[hk];refine MR (i:=id) (λa _=>?_) (List.mem_map_of_mem (f:=(·.1)) (kX J)) ?_
 ·by_cases K:a=id
  ·subst K
   rw[J,E];exact Nat.le_of_lt I
  ·rw[O a K]
   exact cx _
 ·show wor (U.getR id)<wor (S.getR id)
  rw[J,E];exact I
def xU:∀{l:List Sp} {k:Nat} {s s':Sp},l[k]?=some s->((l.set k s').map rD).sum+rD s=(l.map rD).sum+rD s'
 | [],_,_,_,h=>by simp at h
 |x::l,0,s,s',h=>by
  simp at h;subst h;simp only[List.set_cons_zero,List.map_cons,List.sum_cons];omega
 |x::l,k+1,s,s',h=>by
  have:=xU (l:=l) (k:=k) (s:=s) (s':=s') (by simpa using h);simp only[List.set_cons_succ,List.map_cons,List.sum_cons];omega
def F7(ns:List Node)(l:List Sp)(k:Nat):((skipK ns l k).map rD).sum=(l.map rD).sum:=by
 unfold skipK
 split
 ·rename_i s n E I
  split
  ·rename_i hc
   have:=xU (s':={s with state:=7}) E;have J:rD s=0:=by unfold rD;rw[hc.1];rfl
   have K:rD {s with state:=7}=0:=rfl;omega
  ·rfl
 ·rfl
def wG(ns:List Node):∀(T:List Nat) (l:List Sp),((T.foldl (skipK ns) l).map rD).sum=(l.map rD).sum
 | [],_=>rfl
 |k::T,l=>by rw[List.foldl_cons,wG ns T,F7]
theorem MJ(s:Sp):rD s<=2:=by unfold rD;split<;>(try split)<;>omega
def xV{α:Type}{f:α->Nat}{n:Nat}(h:∀a,f a<=n):∀l:List α,(l.map f).sum<=l.length*n
 | []=>by simp
 |x::l=>by
  have:=xV h l;have:=h x;simp only[List.map_cons,List.sum_cons,List.length_cons,Nat.succ_mul];omega
def Ok.massLe(h:Ok S):S.mass<=150:=by
 have hw:∀a,wor (S.getR a)<=25:=λa=>by
  cases hR:S.getR a with
  |none=>exact Nat.zero_le _
  |some R=>
   show vJ R<=25;have E:=h.run a R hR;have:=xV MJ R.NN;have:=E.len;have:=E.fl.head.2.2;unfold vJ
   split<;>omega
 have:=xV hw (S.runs.map (·.1));have I:=h.six;rw[List.length_map]at this;unfold En.mass;omega
def qf{id:Nat}(E:S.getR id=some R):S.settle id=S\/∃st,(st=2\/st=3)/\S.settle id=S.finish id st:=by
 unfold En.settle;rw[E];simp only
 split
 ·refine .inr ⟨_,?_,rfl⟩
  split
  ·exact .inl rfl
  ·exact .inr rfl
 ·exact .inl rfl
end
structure Less(S U:En):Prop where
 mass:U.mass<S.mass
 sets:U.sets<=S.sets+1
 ends:U.ends<=S.ends+1
 NL:U.NL=S.NL
 NK:U.NK=S.NK
 now:U.now=S.now
 seed:U.seed=S.seed
def Ok.finish_less(h:Ok S){id:Nat}(J:S.getR id=some R)(K:R.state=1)(I:st≠1):Less S (S.finish id st):=by
 have E:=h.ended J st;obtain⟨R',O,Y,T,g4,g5,g6⟩:=E.run;refine⟨tp E.keys J O E.others ?_,by rw[E.sets];omega,by rw[E.ends];exact cx _,E.NL,E.NK,E.now,E.seed⟩;have h1:vJ R'=0:=by unfold vJ;rw[T,if_neg I]
 have h2:1<=vJ R:=by unfold vJ;rw[if_pos K];omega
 omega
def xT{s':Sp}(I:R.NN[k]?=some s)(E:R.state=1)(J:rD s'<rD s):vJ (R.setS k s')<vJ R:=by
 have:=xU (s':=s') I;have K:vJ (R.setS k s')=1+((R.NN.set k s').map rD).sum:=by unfold vJ;exact if_pos E
 have O:vJ R=1+(R.NN.map rD).sum:=by unfold vJ;rw[if_pos E]
 omega
def Ok.due_less(h:Ok S)(I:S.getR p.run=some R)(ht:Cw R p):Less S (S.due p):=by
 have E:=ht.1;rcases jP I ht with⟨_,e⟩|⟨k,s,J,⟨e1,h4,e⟩|⟨_,h3,e⟩⟩
 ·rw[e]
  exact h.finish_less I E fh
 ·rw[e,kg I J]
  refine⟨tp (U:={S.setR p.run (R.setS k {s with state:=2})with NP:=_}) setR_keys I (ek I) (λa ha=>gO ha) (xT J E ?_),Nat.le_succ _,Nat.le_succ _,rfl,rfl,rfl,rfl⟩;have h5:rD s=1:=by unfold rD;rw[h4];rfl
  rw[h5];show 0<1;decide
 ·rw[e]
  obtain⟨n,hn,hp⟩:=h.node I J;rw[kY I J hn];obtain⟨id,f8⟩:∃id,id=p.run:=⟨_,rfl⟩;rw[<-f8]at I ⊢;have K:∀(st:Int),(S.leave id k).setR id (R.turned k s st)={S.setR id (R.setS k ⟨st,s.NM,0⟩)with NQ:=S.NQ.eraseP (·.1==s.token),tms:=(S.tms.filter λx=>x.1 !=⟨id,(k:Int),1⟩).filter λx=>x.1 !=⟨id,(k:Int),2⟩}:=λst=>pQ I J
  split
  ·have d7:=K 4
   have O:(S.leave id k).sets=S.sets/\(S.leave id k).ends=S.ends/\(S.leave id k).NL=S.NL/\(S.leave id k).NK=S.NK/\(S.leave id k).now=S.now/\(S.leave id k).seed=S.seed:=by
    rw[fL I J];exact⟨rfl,rfl,rfl,rfl,rfl,rfl⟩
   refine⟨?_,by show(S.leave id k).sets+1<=_;omega,by show(S.leave id k).ends<=_;omega,O.2.2.1,O.2.2.2.1,O.2.2.2.2.1,O.2.2.2.2.2⟩;refine tp (U:=S.rests id k R s _) (id:=id) (R:=R) (R':=R.setS k ⟨4,s.NM,0⟩) ?_ I ?_ (λa ha=>?_) (xT J E ?_)
   ·show((S.leave id k).setR id (R.turned k s 4)).runs.map (·.1)=_
    rw[d7];exact setR_keys
   ·show((S.leave id k).setR id (R.turned k s 4)).getR id=_
    rw[d7];exact ek I
   ·show((S.leave id k).setR id (R.turned k s 4)).getR a=_
    rw[d7];exact gO ha
   ·have h5:rD s=2:=by unfold rD;rw[h3];rfl
    rw[h5];show 1<2;decide
  ·rename_i hb
   obtain⟨T,hT⟩:∃T,T=lS R.fl.NO:=⟨_,rfl⟩;rw[<-hT];have d8:s.NM=n.NR:=by have:=hp.trb;omega
   obtain⟨D,hD⟩:∃D,D=(S.leave id k).setR id ((R.turned k s 6).skips T):=⟨_,rfl⟩;have d9:Ok D:=by
    have h1:=h.part I J hn h3 (st:=6) (.inr (.inr ⟨rfl,d8⟩));have h2:=Ok.skips (id:=id) T h1 (mE I J);rw[setR_setR]at h2;rw[hD];exact h2
   have Y:D={S.setR id ((R.turned k s 6).skips T)with NQ:=S.NQ.eraseP (·.1==s.token),tms:=(S.tms.filter λx=>x.1 !=⟨id,(k:Int),1⟩).filter λx=>x.1 !=⟨id,(k:Int),2⟩}:=by
    rw[hD,fL I J];show((({S with NQ:=S.NQ.eraseP (·.1==s.token)}.setR id (R.setS k {s with token:=0})).setR id _).unset _).unset _=_;rw[setR_setR]
    rfl
   have d6:D.getR id=some ((R.turned k s 6).skips T):=by rw[Y];exact ek I
   have hw:vJ ((R.turned k s 6).skips T)<vJ R:=by
    have h1:vJ ((R.turned k s 6).skips T)=1+((R.turned k s 6).NN.map rD).sum:=by
     unfold vJ Rn.skips;rw[wG];exact if_pos E
    have h2:vJ (R.setS k ⟨6,s.NM,0⟩)=1+((R.setS k ⟨6,s.NM,0⟩).NN.map rD).sum:=by unfold vJ;exact if_pos E
    have h5:R.turned k s 6=R.setS k ⟨6,s.NM,0⟩:=by unfold Rn.turned;rw[setS_setS]
    rw[h1,h5,<-h2];refine xT J E ?_;have h6:rD s=2:=by unfold rD;rw[h3];rfl
    rw[h6];show 0<2;decide
   have hm:D.mass<S.mass:=tp (by rw[Y];exact setR_keys) I d6 (λa ha=>by rw[Y];exact gO ha) hw;have f7:S.dies id k R s T=D.settle id:=by rw[hD];rfl
   rw[f7];have hl:D.sets=S.sets/\D.ends=S.ends/\D.NL=S.NL/\D.NK=S.NK/\D.now=S.now/\D.seed=S.seed:=by rw[Y];exact⟨rfl,rfl,rfl,rfl,rfl,rfl⟩
   rcases qf d6 with e|⟨st,f9,e⟩
   ·rw[e]
    exact⟨hm,am,am,hl.2.2.1,hl.2.2.2.1,hl.2.2.2.2.1,hl.2.2.2.2.2⟩
   ·rw[e]
    have:=d9.finish_less d6 E (st:=st) am;exact⟨Nat.lt_trans this.mass hm,by have:=(d9.ended d6 st).sets;omega,by have:=this.ends;omega,this.NL.trans hl.2.2.1,this.NK.trans hl.2.2.2.1,this.now.trans hl.2.2.2.2.1,this.seed.trans hl.2.2.2.2.2⟩
end FK
namespace FR
open FK (Pl KD)
structure St where
 state:Int
 NM:Int
 token:Nat
 fin:Nat
 sign:Nat
 finAt:Nat
 signAt:Nat
structure Rn where
 id:Nat
 fl:FK.Flow
 state:Int
 till:Nat
 tillAt:Nat
 NN:List St
 ended:Nat
structure En where
 time:Nat
 seed:Nat
 runs:List Rn
 NP:List (Nat×Int)
 NL:Nat
 NK:Nat
 timers:Nat
 ends:Nat
def St.ab(s:St):FK.Sp:=⟨s.state,s.NM,if s.state=3 then s.token else 0⟩
def Rn.ab(r:Rn):FK.Rn:=⟨r.fl,r.state,r.NN.map St.ab,r.ended⟩
def Rn.abI(r:Rn):Nat×FK.Rn:=(r.id,r.ab)
def zd(p:Nat×Int):Pl:=⟨p.1,p.2,0⟩
def Rn.setS(r:Rn)(k:Nat)(s:St):Rn:={r with NN:=r.NN.set k s}
def En.setR(M:En)(i:Nat)(r:Rn):En:={M with runs:=M.runs.set i r}
def En.later(M:En)(n:Nat):Nat:=min (M.time+n) 4611686018427387904
def En.ready(M:En)(i k:Nat)(r:Rn)(s:St):En:={M.setR i (r.setS k {s with state:=2})with NP:=M.NP++[(r.id,(k:Int))]}
def En.wakeK(i:Nat)(M:En)(k:Nat):En:=match M.runs[i]? with
 |some r=>if FK.kz r.ab k then(match r.NN[k]? with|some s=>M.ready i k r s|none=>M) else M
 |none=>M
def En.wakeN(M:En)(i n:Nat):En:=(List.range n).foldl (En.wakeK i) M
def En.drop(M:En)(id:Nat):En:={M with NP:=M.NP.filter λp=>p.1 !=id}
def endS(s:St):St:=if s.state=5\/s.state=6 then s else {s with state:=7}
def Rn.fin(r:Rn)(st:Int)(e:Nat):Rn:={r with state:=st,ended:=e,NN:=r.NN.map endS}
def En.endr(M:En)(i:Nat)(r:Rn)(st:Int):En:=({M.setR i (r.fin st (M.ends+1))with ends:=M.ends+1}).drop r.id
def En.settle(M:En)(i:Nat):En:=match M.runs[i]? with
 |some r=>if r.ab.NN.all FK.over then M.endr i r (if r.ab.NN.all λs=>s.state==5 then 2 else 3) else M
 |none=>M
def St.act(s:St)(w:Int):Option (Nat×Nat):=if w=1/\(s.state=3\/s.state=4) then some (s.fin,s.finAt) else if w=2/\s.state=3/\0<s.sign then some (s.sign,s.signAt) else none
def Rn.act(r:Rn)(p:Pl):Option (Nat×Nat):=if r.state=1 then(if p.node=-1 then(if p.what=0 then some (r.till,r.tillAt) else none) else if 0<=p.node then(r.NN[p.node.toNat]?.bind λs=>s.act p.what) else none) else none
def En.getR(M:En)(id:Nat):Option Rn:=M.runs.find? (·.id==id)
def En.act(M:En)(p:Pl):Option (Nat×Nat):=match M.getR p.run with|some r=>r.act p|none=>none
def gg{r:Rn}{s:St}(h:r.NN[k]?=some s):r.ab.NN[k]?=some s.ab:=by
 show(r.NN.map St.ab)[k]?=_;rw[List.getElem?_map,h]
 rfl
def EJ{r:Rn}{x:FK.Sp}(h:r.ab.NN[k]?=some x):∃s,r.NN[k]?=some s/\s.ab=x:=by
 have h:(r.NN.map St.ab)[k]?=_:=h;rw[List.getElem?_map]at h;cases hs:r.NN[k]? with
 |none=>rw[hs]at h;cases h
 |some s=>rw[hs]at h;exact⟨s,rfl,by injection h⟩
def xQ(r:Rn)(k:Nat)(s:St):(r.setS k s).ab=r.ab.setS k s.ab:=by
 unfold Rn.ab Rn.setS FK.Rn.setS;simp only[List.map_set]
structure Ab(S:FK.En)(M:En):Prop where
 now:S.now=M.time
 seed:S.seed=M.seed
 lr:S.NL=M.NL
 lt:S.NK=M.NK
 ends:S.ends=M.ends
 runs:S.runs=M.runs.map Rn.abI
 NP:S.NP=M.NP.map zd
 nd:(M.runs.map (·.id)).Nodup
section
variable{M:En}{r:Rn}
def Ab.keys(h:Ab S M):S.runs.map (·.1)=M.runs.map (·.id):=by
 rw[h.runs,List.map_map]
 rfl
def Ab.snd(h:Ab S M):(S.runs.map (·.1)).Nodup:=by rw[h.keys];exact h.nd
def Ab.get(h:Ab S M)(hi:M.runs[i]?=some r):S.getR r.id=some r.ab:=
 FK.uo h.snd (by rw[h.runs];exact List.mem_map.2 ⟨r,cg hi,rfl⟩)
def Ab.back(h:Ab S M){id:Nat}(E:S.getR id=some R):∃(i:Nat) (r:Rn),M.runs[i]?=some r/\r.id=id/\r.ab=R:=by
 have:=FK.kX E;rw[h.runs]at this;obtain⟨r,I,e⟩:=List.mem_map.1 this;obtain⟨i,hi⟩:=List.getElem?_of_mem I;injection e with e1 e2;exact⟨i,r,hi,e1,e2⟩
def zf{l:List Rn}(h:(l.map (·.id)).Nodup){i:Nat}{r u:Rn}(hi:l[i]?=some r)(J:l[j]?=some u)(e:r.id=u.id):i=j:=by
 have E:(l.map (·.id))[i]?=some r.id:=by rw[List.getElem?_map,hi];rfl
 have I:(l.map (·.id))[j]?=some u.id:=by rw[List.getElem?_map,J];rfl
 rw[<-e]at I;have K:=(gfGet.1 E).1;exact(List.getElem?_inj K h).1 (E.trans I.symm)
def kN(h:(M.runs.map (·.id)).Nodup)(hi:M.runs[i]?=some r):M.getR r.id=some r:=by
 unfold En.getR;cases hf:M.runs.find? (·.id==r.id)with
 |none=>
  have:=List.find?_eq_none.1 hf r (cg hi);simp at this
 |some u=>
  have I:u.id=r.id:=by simpa using List.find?_some hf
  obtain⟨j,E⟩:=List.getElem?_of_mem (List.mem_of_find?_eq_some hf);have:=zf h hi E I.symm;subst this;rw[hi]at E;exact E.symm
def oA{id:Nat}(h:M.getR id=some r):r.id=id/\∃i:Nat,M.runs[i]?=some r:=
 ⟨by simpa using List.find?_some h,List.getElem?_of_mem (List.mem_of_find?_eq_some h)⟩
def pV{r':Rn}(hi:M.runs[i]?=some r)(e:r'.id=r.id):(M.setR i r').runs.map (·.id)=M.runs.map (·.id):=by
 unfold En.setR;simp only[List.map_set,e];exact List.ext_getElem? λj=>by
  rw[List.getElem?_set]
  split
  ·rename_i h
   subst h;have:=(gfGet.1 hi).1;rw[if_pos (by simpa using this),List.getElem?_map,hi]
   rfl
  ·rfl
def getR_set{r':Rn}(h:(M.runs.map (·.id)).Nodup)(hi:M.runs[i]?=some r)(e:r'.id=r.id)(a:Nat):(M.setR i r').getR a=if a=r.id then some r' else M.getR a:=by
 have O:=(gfGet.1 hi).1;have hnd:((M.setR i r').runs.map (·.id)).Nodup:=by rw[pV hi e];exact h
 have T:(M.setR i r').runs[i]?=some r':=by unfold En.setR;simp[O]
 split
 ·rename_i K
  rw[K,<-e];exact kN hnd T
 ·rename_i K
  cases hf:M.getR a with
  |some u=>
   obtain⟨J,j,E⟩:=oA hf;have I:i≠j:=λI=>by
    subst I;rw[hi]at E;injection E with E;rw[<-E]at J;exact K J.symm
   rw[<-J];exact kN hnd (by unfold En.setR;rw[List.getElem?_set_ne I];exact E)
  |none=>
   cases hg:(M.setR i r').getR a with
   |none=>rfl
   |some u=>
    obtain⟨J,j,E⟩:=oA hg;unfold En.setR at E;rw[List.getElem?_set]at E
    split at E
    ·injection E with E
     rw[<-E,e]at J;exact absurd J.symm K
    ·rw[<-J,kN h E]at hf
     cases hf
def Ab.setR(h:Ab S M){r':Rn}(hi:M.runs[i]?=some r)(e:r'.id=r.id):Ab (S.setR r.id r'.ab) (M.setR i r'):=by
 refine⟨h.now,h.seed,h.lr,h.lt,h.ends,?_,h.NP,by rw[pV hi e];exact h.nd⟩;have I:=(gfGet.1 hi).1;unfold FK.En.setR En.setR;simp only[h.runs];refine List.ext_getElem? λj=>?_;rw[List.getElem?_map,List.getElem?_map,List.getElem?_map,List.getElem?_set]
 split
 ·rename_i E
  subst E;rw[hi];simp[Rn.abI,e]
 ·rename_i E
  cases hj:M.runs[j]? with
  |none=>rfl
  |some u=>
   have:¬u.id=r.id:=λe=>E (zf h.nd hi hj e.symm);simp[Rn.abI,this]
theorem tG{r':Rn}(h:(M.runs.map (·.id)).Nodup)(hi:M.runs[i]?=some r)(e:r'.id=r.id)(p:Pl):(M.setR i r').act p=if p.run=r.id then r'.act p else M.act p:=by
 unfold En.act;rw[getR_set h hi e]
 by_cases E:p.run=r.id
 ·rw[if_pos E,if_pos E]
 ·rw[if_neg E,if_neg E]
theorem qI(h:(M.runs.map (·.id)).Nodup)(hi:M.runs[i]?=some r)(E:p.run=r.id):M.act p=r.act p:=by
 unfold En.act;rw[E,kN h hi]
theorem AD{s s':St}(K:r.NN[k]?=some s)(p:Pl):(r.setS k s').act p=if r.state=1/\p.node=k then s'.act p.what else r.act p:=by
 have hk:=(gfGet.1 K).1;unfold Rn.act Rn.setS;simp only
 by_cases E:r.state=1
 ·rw[if_pos E,if_pos E]
  by_cases J:p.node=(k:Int)
  ·rw[if_pos (show r.state=1/\p.node=k from⟨E,J⟩),J,if_neg am,if_pos am,Int.toNat_natCast,List.getElem?_set_self hk]
   rfl
  ·rw[if_neg (show ¬(r.state=1/\p.node=k) from λh=>J h.2)]
   by_cases h3:p.node=-1
   ·rw[if_pos h3,if_pos h3]
   ·rw[if_neg h3,if_neg h3]
    by_cases I:0<=p.node
    ·rw[if_pos I,if_pos I,List.getElem?_set_ne am]
    ·rw[if_neg I,if_neg I]
 ·rw[if_neg E,if_neg E,if_neg (show ¬(r.state=1/\p.node=k) from λh=>E h.1)]
end
structure Tm(tms:List KD)(A:Pl->Option (Nat×Nat))(t n:Nat):Prop where
 lo:∀x∈tms,n<=x.2
 nd:(tms.map (·.1)).Nodup
 mem:∀p a,(p,a)∈tms<->∃s,A p=some (a,s)
 ord:tms.Pairwise λx y=>∀a b,A x.1=some a->A y.1=some b->a.2<b.2
 le:∀p a,A p=some a->a.2<=t
section
variable{A A':Pl->Option (Nat×Nat)}{t:Nat}
def Tm.sub{tms E:List KD}(h:Tm tms A t n)(O:E.Sublist tms)(q:Pl->Prop)(hm:∀x∈tms,x∈E<->q x.1)(hq:∀p,q p->A' p=A p)(hn:∀p,¬q p->A' p=none)(ht:t<=k):Tm E A' k n:=by
 have I:∀p a,A' p=some a->q p/\A p=some a:=λp a e=>by
  by_cases K:q p
  ·exact⟨K,by rw[<-hq p K];exact e⟩
  ·rw[hn p K]at e;cases e
 refine⟨λx hx=>h.lo x (O.subset hx),h.nd.sublist (O.map _),λp a=>⟨λJ=>?_,λ⟨s,e⟩=>?_⟩,(h.ord.sublist O).imp λT a b ha hb=>T a b (I _ _ ha).2 (I _ _ hb).2,λp a e=>Nat.le_trans (h.le p a (I _ _ e).2) ht⟩
 ·have K:=(hm _ (O.subset J)).1 J
  obtain⟨s,e⟩:=(h.mem p a).1 (O.subset J);exact⟨s,by rw[hq p K];exact e⟩
 ·obtain⟨K,e⟩:=I _ _ e
  exact(hm _ ((h.mem p a).2 ⟨s,e⟩)).2 K
def Tm.same{tms:List KD}(h:Tm tms A t n)(e:∀p,A' p=A p):Tm tms A' t n:=
 h.sub (List.Sublist.refl _) (λ_=>True) (λ_ E=>⟨λ_=>trivial,λ_=>E⟩) (λp _=>e p) (λ_ h=>absurd trivial h) (cx _)
def Tm.set{tms:List KD}(h:Tm tms A t n)(p:Pl)(a:Nat)(hn:n<=a)(Y:A' p=some (a,t+1))(ho:∀x,x≠p->A' x=A x):Tm (tms.filter (λx=>x.1 !=p)++[(p,a)]) A' (t+1) n:=by
 obtain⟨B,T⟩:∃B:Pl->Option (Nat×Nat),B=λx=>if x=p then none else A x:=⟨_,rfl⟩
 have K:Tm (tms.filter (λx=>x.1 !=p)) B t n:=h.sub List.filter_sublist (λx=>x≠p) (λx E=>by rw[List.mem_filter];simp[E]) (λx E=>by rw[T];exact if_neg E) (λx E=>by rw[T];exact if_pos (Decidable.not_not.1 E)) (cx _);have d7:B p=none:=by rw[T];exact if_pos rfl
 have I:∀x,x≠p->A' x=B x:=λx E=>by rw[T,ho x E];exact(if_neg E).symm
 have hno:∀x∈tms.filter (λx=>x.1 !=p),x.1≠p:=λx E=>by simpa using(List.mem_filter.1 E).2
 refine⟨λx E=>?_,?_,λx b=>?_,?_,λx b e=>?_⟩
 ·rcases List.mem_append.1 E with E|E
  ·exact K.lo x E
  ·rw[List.mem_singleton.1 E];exact hn
 ·rw[List.map_append,List.nodup_append]
  refine⟨K.nd,by simp,λx E y J e=>?_⟩;obtain⟨z,hz,rfl⟩:=List.mem_map.1 E;simp at J;exact hno z hz (e.trans J)
 ·rw[List.mem_append,K.mem,List.mem_singleton]
  by_cases E:x=p
  ·subst E
   rw[d7,Y];constructor
   ·rintro(⟨s,e⟩|e)
    ·cases e
    ·injection e with _ e
     exact⟨t+1,by rw[e]⟩
   ·rintro⟨s,e⟩
    injection e with e;injection e with e _;exact .inr (by rw[e])
  ·rw[I x E]
   exact⟨λh=>h.elim id λe=>absurd (by injection e) E,.inl⟩
 ·rw[List.pairwise_append]
  refine⟨K.ord.imp_of_mem λE J d6 a b ha hb=>d6 a b (by rw[<-I _ (hno _ E)];exact ha) (by rw[<-I _ (hno _ J)];exact hb),by simp,λx E y J c d hc O=>?_⟩;simp at J;subst J;rw[Y]at O;injection O with O;subst O;rw[I _ (hno _ E)]at hc;exact Nat.lt_succ_of_le (K.le _ _ hc)
 ·by_cases E:x=p
  ·subst E
   rw[Y]at e;injection e with e;subst e;exact cx _
  ·rw[I x E]at e
   exact Nat.le_succ_of_le (K.le _ _ e)
end
structure Sim(S:FK.En)(M:En):Prop extends Ab S M where
 tm:Tm S.tms M.act M.timers M.time
open FK (Pl KD)
section
variable{M:En}{r:Rn}{s:St}
def Km(h:s.state≠3):({s with state:=2}:St).ab={s.ab with state:=2}:=by
 unfold St.ab;simp[h]
theorem Ab.ready(h:Ab S M)(hi:M.runs[i]?=some r)(I:r.NN[k]?=some s)(h3:s.state≠3):Ab (S.ready r.id k) (M.ready i k r s):=by
 rw[FK.kg (h.get hi) (gg I)];have E:=h.setR (r':=r.setS k {s with state:=2}) hi rfl;rw[xQ,Km h3]at E;refine⟨E.now,E.seed,E.lr,E.lt,E.ends,E.runs,?_,E.nd⟩;unfold En.ready;simp only[List.map_append,h.NP]
 rfl
def zF(hi:M.runs[i]?=some r):(M.ready i k r s).runs[i]?=some (r.setS k {s with state:=2}):=by
 have E:=(gfGet.1 hi).1;unfold En.ready En.setR;simp[E]
theorem rq(h:Ab S M)(hi:M.runs[i]?=some r)(J:r.NN[k]?=some s)(p:Pl):(M.ready i k r s).act p=if p.run=r.id/\p.node=k then none else M.act p:=by
 have:(M.ready i k r s).act p=(M.setR i (r.setS k {s with state:=2})).act p:=rfl;rw[this,tG (r':=r.setS k {s with state:=2}) h.nd hi rfl,AD J];have K:({s with state:=2}:St).act p.what=none:=by unfold St.act;simp
 rw[K]
 by_cases I:p.run=r.id
 ·rw[if_pos I]
  by_cases hk:p.node=(k:Int)
  ·rw[if_pos (And.intro I hk)]
   by_cases E:r.state=1
   ·exact if_pos ⟨E,hk⟩
   ·rw[if_neg λh=>E h.1]
    unfold Rn.act;exact if_neg E
  ·rw[if_neg λh=>hk h.2,if_neg λh=>hk h.2,qI h.nd hi I]
 ·rw[if_neg I,if_neg λh=>I h.1]
theorem AE(h:Ab S M)(hi:M.runs[i]?=some r)(E:r.NN[k]?=some s)(h3:s.state≠3)(I:s.state≠4)(J:p.run=r.id)(hk:p.node=k):M.act p=none:=by
 rw[qI h.nd hi J];unfold Rn.act;have K:¬(k:Int)=-1:=am;have O:s.act p.what=none:=by unfold St.act;simp[h3,I]
 rw[hk];simp[K,E,O]
theorem Sim.ready(h:Sim S M)(hi:M.runs[i]?=some r)(E:r.NN[k]?=some s)(J:s.state=1):Sim (S.ready r.id k) (M.ready i k r s):=by
 refine⟨h.toAb.ready hi E am,?_⟩;rw[FK.kg (h.get hi) (gg E)];refine h.tm.same λp=>?_;rw[rq h.toAb hi E]
 split
 ·rename_i I
  exact(AE h.toAb hi E am am I.1 I.2).symm
 ·rfl
def Sim.wakeK(h:Sim S M)(hi:M.runs[i]?=some r)(k:Nat):Sim (FK.En.wakeK r.id S k) (En.wakeK i M k)/\∃r',(En.wakeK i M k).runs[i]?=some r'/\r'.id=r.id/\r'.NN.length=r.NN.length/\r'.fl=r.fl:=by
 rw[FK.nJ (h.get hi)];unfold En.wakeK;rw[hi];simp only
 by_cases E:FK.kz r.ab k=true
 ·rw[if_pos E,if_pos E]
  have O:FK.cY r.ab.NN k 1=true:=by
   unfold FK.kz at E;rw[Bool.and_eq_true]at E;exact E.1
  obtain⟨x,K,I⟩:=FK.pR O;obtain⟨s,J,rfl⟩:=EJ K;rw[J];exact⟨h.ready hi J I,_,zF hi,rfl,by simp[Rn.setS],rfl⟩
 ·rw[if_neg E,if_neg E]
  exact⟨h,r,hi,rfl,rfl,rfl⟩
def wakeN_succ(M:En)(i n:Nat):M.wakeN i (n+1)=En.wakeK i (M.wakeN i n) n:=by
 unfold En.wakeN;rw[List.range_succ,List.foldl_append]
 rfl
def Sim.wakeN(h:Sim S M)(hi:M.runs[i]?=some r):∀n,Sim (S.wakeN r.id n) (M.wakeN i n)/\∃r',(M.wakeN i n).runs[i]?=some r'/\r'.id=r.id/\r'.NN.length=r.NN.length/\r'.fl=r.fl
 |0=>⟨h,r,hi,rfl,rfl,rfl⟩
 |n+1=>by
  obtain⟨J,r1,K,E,O,T⟩:=h.wakeN hi n;obtain⟨I,Y,m1,m2,m3,m4⟩:=J.wakeK K n;rw[E]at I;rw[FK.wakeN_succ,wakeN_succ];exact⟨I,Y,m1,m2.trans E,m3.trans O,m4.trans T⟩
def Sim.wake(h:Sim S M)(hi:M.runs[i]?=some r)(E:r.NN.length=r.fl.NO.length):Sim (S.wake r.id) (M.wakeN i r.NN.length)/\∃r',(M.wakeN i r.NN.length).runs[i]?=some r'/\r'.id=r.id:=by
 unfold FK.En.wake;rw[h.get hi];obtain⟨I,r',J,h3,_⟩:=h.wakeN hi r.NN.length;refine⟨?_,r',J,h3⟩;show Sim (S.wakeN r.id r.fl.NO.length) _;rw[<-E];exact I
def KZ{l:List Rn}(hk:U.runs.map (·.1)=l.map (·.id))(J:(l.map (·.id)).Nodup)(K:∀r∈l,U.getR r.id=some r.ab):U.runs=l.map Rn.abI:=by
 refine List.ext_getElem? λj=>?_;have E:(U.runs.map (·.1))[j]?=(l.map (·.id))[j]?:=by rw[hk]
 rw[List.getElem?_map,List.getElem?_map]at E;rw[List.getElem?_map];cases hl:l[j]? with
 |none=>
  rw[hl]at E;cases hu:U.runs[j]? with
  |none=>rfl
  |some x=>rw[hu]at E;cases E
 |some r=>
  rw[hl]at E;cases hu:U.runs[j]? with
  |none=>rw[hu]at E;cases E
  |some x=>
   rw[hu]at E;injection E with E;have E:x.1=r.id:=E;have O:=K r (cg hl);have I:U.getR x.1=some x.2:=FK.uo (by rw[hk];exact J) (cg hu);rw[E,O]at I;injection I with I;show some x=some (r.id,r.ab);rw[I,<-E]
theorem NH(s:St):(endS s).ab=FK.endS {s.ab with token:=0}:=by
 unfold endS FK.endS;show _=if s.state=5\/s.state=6 then _ else _
 split
 ·rename_i h
  unfold St.ab;have:s.state≠3:=am;simp[this]
 ·unfold St.ab
  simp
def AF(h:Ab S M)(hi:M.runs[i]?=some r)(E:st≠1)(p:Pl):(M.endr i r st).act p=if p.run=r.id then none else M.act p:=by
 have:(M.endr i r st).act p=(M.setR i (r.fin st (M.ends+1))).act p:=rfl;rw[this,tG (r':=r.fin st (M.ends+1)) h.nd hi rfl];have I:(r.fin st (M.ends+1)).act p=none:=by unfold Rn.act Rn.fin;exact if_neg E
 rw[I]
theorem Ab.endr(ok:FK.Ok S)(h:Ab S M)(hi:M.runs[i]?=some r)(st:Int):Ab (S.finish r.id st) (M.endr i r st):=by
 have E:=ok.ended (h.get hi) st;have hk:(S.finish r.id st).runs.map (·.1)=(M.setR i (r.fin st (M.ends+1))).runs.map (·.id):=by rw[E.keys,h.keys,pV (r':=r.fin st (M.ends+1)) hi rfl]
 have O:((M.setR i (r.fin st (M.ends+1))).runs.map (·.id)).Nodup:=by rw[pV (r':=r.fin st (M.ends+1)) hi rfl];exact h.nd
 refine⟨E.now.trans h.now,E.seed.trans h.seed,E.NL.trans h.lr,E.NK.trans h.lt,by rw[E.ends,h.ends];rfl,KZ hk O λu T=>?_,?_,O⟩
 ·obtain⟨j,I⟩:=List.getElem?_of_mem T
  have I:(M.runs.set i (r.fin st (M.ends+1)))[j]?=some u:=I;rw[List.getElem?_set]at I
  split at I
  ·rename_i J
   split at I
   ·injection I with I
    subst I;obtain⟨R',e1,e2,e3,e4,Y,e6⟩:=E.run;show(S.finish r.id st).getR r.id=some (r.fin st (M.ends+1)).ab;rw[e1]
    congr 1
    obtain⟨fl,d6,NN,en⟩:=R';subst e2;subst e3;subst e4;have:NN=(r.NN.map endS).map St.ab:=by
     refine List.ext_getElem? λm=>?_;rw[List.getElem?_map,List.getElem?_map];cases hm:r.NN[m]? with
     |none=>
      rw[List.getElem?_eq_none]
      ·rfl
      ·rw[Y]
       show(r.NN.map St.ab).length<=m;rw[List.length_map];exact List.getElem?_eq_none_iff.1 hm
     |some s=>
      rw[e6 m _ (gg hm),<-NH]
      rfl
    unfold Rn.ab Rn.fin;rw[this,h.ends]
   ·cases I
  ·rename_i J
   have K:u.id≠r.id:=λe=>J (zf h.nd hi I e.symm);rw[E.others _ K];exact h.get I
 ·rw[E.NP,h.NP]
  unfold En.endr En.drop;simp only[List.filter_map]
  rfl
def Sim.endr(ok:FK.Ok S)(h:Ab S M){tms:List KD}(K:Tm tms M.act M.timers M.time)(O:S.tms.Sublist tms)(T:∀x∈tms,x.1.run≠r.id->x∈S.tms)(hi:M.runs[i]?=some r){st:Int}(I:st≠1):Sim (S.finish r.id st) (M.endr i r st):=by
 have E:=ok.ended (h.get hi) st;refine⟨h.endr ok hi st,K.sub (E.msub.trans O) (λp=>p.run≠r.id) (λx Y=>?_) (λp J=>?_) (λp J=>?_) (cx _)⟩
 ·rw[E.tms]
  exact⟨λh=>h.2,λh=>⟨T x Y h,h⟩⟩
 ·rw[AF h hi I,if_neg J]
 ·rw[AF h hi I,if_pos (Decidable.not_not.1 J)]
theorem Sim.endr'(ok:FK.Ok S)(h:Sim S M)(hi:M.runs[i]?=some r)(E:st≠1):Sim (S.finish r.id st) (M.endr i r st):=
 Sim.endr ok h.toAb h.tm (List.Sublist.refl _) (λ_ I _=>I) hi E
def Sim.settle(ok:FK.Ok S)(h:Sim S M)(hi:M.runs[i]?=some r):Sim (S.settle r.id) (M.settle i):=by
 unfold FK.En.settle En.settle;rw[h.get hi,hi];simp only
 split
 ·exact h.endr' ok hi (by split<;>decide)
 ·exact h
end
open FK (Pl KD)
def skipK(ns:List FK.Node)(l:List St)(j:Nat):List St:=match l[j]?,ns[j]? with
 |some s,some n=>if s.state=1/\(n.after.any λu=>FK.cY (l.map St.ab) u.toNat 6||FK.cY (l.map St.ab) u.toNat 7) then l.set j {s with state:=7} else l
 |_,_=>l
def nu(ns:List FK.Node)(l:List St)(n:Nat):List St:=(List.range n).foldl (skipK ns) l
def gF(ns:List FK.Node)(n m:Nat)(l:List St):List St:=(List.range m).foldl (λl _=>nu ns l n) l
def skipK_len(ns:List FK.Node)(l:List St)(j:Nat):(skipK ns l j).length=l.length:=by
 unfold skipK
 split
 ·split
  ·simp
  ·rfl
 ·rfl
def mS(ns:List FK.Node)(l:List St)(n:Nat):nu ns l (n+1)=skipK ns (nu ns l n) n:=by
 unfold nu;rw[List.range_succ,List.foldl_append]
 rfl
def qN(ns:List FK.Node)(l:List St):∀n,(nu ns l n).length=l.length
 |0=>rfl
 |n+1=>by rw[mS,skipK_len,qN ns l n]
theorem lN(ns:List FK.Node)(n m:Nat)(l:List St):gF ns n (m+1) l=nu ns (gF ns n m l) n:=by
 unfold gF;rw[List.range_succ,List.foldl_append]
 rfl
def lB(ns:List FK.Node)(n:Nat)(l:List St):∀m,(gF ns n m l).length=l.length
 |0=>rfl
 |m+1=>by rw[lN,qN,lB ns n l m]
theorem IZ(ns:List FK.Node)(l:List St)(j:Nat):(skipK ns l j).map St.ab=FK.skipK ns (l.map St.ab) j:=by
 unfold skipK FK.skipK;rw[List.getElem?_map];cases l[j]? with
 |none=>rfl
 |some s=>
  cases ns[j]? with
  |none=>rfl
  |some n=>
   simp only[Option.map_some]
   by_cases h:s.state=1/\(n.after.any λu=>FK.cY (l.map St.ab) u.toNat 6||FK.cY (l.map St.ab) u.toNat 7)=true
   ·have h3:s.state≠3:=by have:=h.1;omega
    have e:({s with state:=7}:St).ab={s.ab with state:=7}:=by unfold St.ab;simp[h3]
    rw[if_pos h,List.map_set,e];exact(if_pos h).symm
   ·rw[if_neg h]
    exact(if_neg h).symm
def wy{f:FK.Flow}(O:FK.Fit f):∀(m left:Nat) (T:List Nat),FK.Ordering f.NO left T->f.NO.length-T.length<=m->∃T,FK.Ordering f.NO 0 T
 |m,left,T,h,hm=>by
  by_cases Y:∀i,left.testBit i=true->∃k∈FK.aft f.NO i,left.testBit k=true
  ·have:=h.zero O Y
   subst this;exact⟨T,h⟩
  ·obtain⟨i,hi⟩:=Classical.not_forall.1 Y
   obtain⟨I,J⟩:=Classical.not_imp.1 hi;have J:∀k∈FK.aft f.NO i,left.testBit k=false:=λk hk=>by
    cases hb:left.testBit k with
    |false=>rfl
    |true=>exact absurd ⟨k,hk,hb⟩ J
   have ht:=h.tell I J (left':=left ^^^ 2 ^ i) λj=>by
    rw[Nat.testBit_xor,Nat.testBit_two_pow]
    by_cases K:i=j
    ·subst K
     simp[I]
    ·simp[K,Ne.symm K]
   have hi:=(h.bits i).1 I;have d6:T.length<f.NO.length:=by
    have hnd:(i::T).Nodup:=List.nodup_cons.2 ⟨hi.2,h.nodup⟩;have:=FK.mj (m:=List.range f.NO.length) hnd λx E=>by
     rw[List.mem_range];rcases List.mem_cons.1 E with rfl|E
     ·exact hi.1
     ·exact h.lt x E
    rw[List.length_range,List.length_cons]at this;exact this
   match m with
   |0=>omega
   |m+1=>exact wy O m _ _ ht (by simp;omega)
def IM(E:FK.Fit f):FK.Ordering f.NO 0 (FK.lS f.NO):=by
 have h:=wy E f.NO.length _ _ (FK.Ordering.start f.NO) di;unfold FK.lS;rw[dif_pos h];exact h.choose_spec
section
variable{ns:List FK.Node}{l F:List FK.Sp}
structure Btw(ns:List FK.Node)(l F l':List FK.Sp):Prop where
 at_:∀(j:Nat) (s:FK.Sp),l[j]?=some s->l'[j]?=some s\/l'[j]?=F[j]?
 len:l'.length=l.length
structure Skp(ns:List FK.Node)(l F:List FK.Sp):Prop where
 len:F.length=l.length
 yes:∀(j:Nat) (s:FK.Sp),l[j]?=some s->s.state=1->(∃u∈FK.aft ns j,FK.cY F u 6=true\/FK.cY F u 7=true)->F[j]?=some {s with state:=7}
 no:∀(j:Nat) (s:FK.Sp),l[j]?=some s->¬(s.state=1/\∃u∈FK.aft ns j,FK.cY F u 6=true\/FK.cY F u 7=true)->F[j]?=some s
def IG(O:Skp ns l F)(h:Btw ns l F l'){u:Nat}{x:Int}(Y:x=6\/x=7)(I:FK.cY l' u x=true):FK.cY F u x=true:=by
 obtain⟨s,J,e⟩:=FK.pR I;have K:u<l.length:=by rw[<-h.len];exact(gfGet.1 J).1
 rcases h.at_ u _ (List.getElem?_eq_getElem K)with E|E
 ·rw[J]at E
  injection E with E;have T:=O.no u _ (List.getElem?_eq_getElem K) λh=>by have:=h.1;rw[<-E,e]at this;omega
  rw[FK.fO T,<-E,e];simp
 ·rw[<-FK.j4 E]
  exact I
def Ki(T:Skp ns l F)(h:Btw ns l F l')(k:Nat):Btw ns l F (FK.skipK ns l' k)/\(∀j:Nat,l'[j]?=F[j]?->(FK.skipK ns l' k)[j]?=F[j]?)/\(k<ns.length->(∀u∈FK.aft ns k,l'[u]?=F[u]?)->(FK.skipK ns l' k)[k]?=F[k]?):=by
 have key:∀(s:FK.Sp) (n:FK.Node),l'[k]?=some s->ns[k]?=some n->s.state=1->(n.after.any λu=>FK.cY l' u.toNat 6||FK.cY l' u.toNat 7)=true->F[k]?=some {s with state:=7}:=λs n I hn h1 ha=>by
  obtain⟨u,hu,d6⟩:=(FK.rp hn l').1 ha;have hl:k<l.length:=by rw[<-h.len];exact(gfGet.1 I).1
  have ex:∃u∈FK.aft ns k,FK.cY F u 6=true\/FK.cY F u 7=true:=⟨u,hu,d6.imp (IG T h (.inl rfl)) (IG T h (.inr rfl))⟩;obtain⟨o,O⟩:∃o,l[k]?=some o:=⟨_,List.getElem?_eq_getElem hl⟩;rcases h.at_ k o O with E|E
  ·rw[I]at E
   injection E with E;subst E;exact T.yes k _ O h1 ex
  ·rw[I]at E
   by_cases h3:o.state=1
   ·have:=T.yes k o O h3 ex
    rw[this]at E;injection E with E;rw[E]at h1;exact absurd h1 di
   ·have:=T.no k o O λh=>h3 h.1
    rw[this]at E;injection E with E;rw[E]at h1;exact absurd h1 h3
 unfold FK.skipK
 split
 ·rename_i s n I hn
  split
  ·rename_i hc
   have hk:=key s n I hn hc.1 hc.2;have d7:=(gfGet.1 I).1;have J:∀j,(l'.set k {s with state:=7})[j]?=if j=k then F[k]? else l'[j]?:=λj=>by
    by_cases K:j=k
    ·rw[if_pos K,K,List.getElem?_set_self d7,hk]
    ·rw[if_neg K,List.getElem?_set_ne (Ne.symm K)]
   refine⟨⟨λj o O=>?_,by rw[List.length_set,h.len]⟩,λj K=>?_,λ_ _=>?_⟩
   ·rw[J]
    by_cases K:j=k
    ·rw[if_pos K,K];exact .inr rfl
    ·rw[if_neg K];exact h.at_ j o O
   ·rw[J]
    by_cases Y:j=k
    ·rw[if_pos Y,Y]
    ·rw[if_neg Y];exact K
   ·rw[J,if_pos rfl]
  ·rename_i hc
   refine⟨h,λ_ h=>h,λ_ hu=>?_⟩;have hl:k<l.length:=by rw[<-h.len];exact(gfGet.1 I).1
   obtain⟨o,O⟩:∃o,l[k]?=some o:=⟨_,List.getElem?_eq_getElem hl⟩;rcases h.at_ k o O with E|E
   ·rw[I]at E
    injection E with E;subst E;rw[I];refine(T.no k _ O λhx=>hc ⟨hx.1,(FK.rp hn l').2 ?_⟩).symm;obtain⟨u,h3,h4⟩:=hx.2;rw[<-FK.j4 (hu u h3),<-FK.j4 (hu u h3)]at h4;exact⟨u,h3,h4⟩
   ·exact E
 ·rename_i hx
  refine⟨h,λ_ h=>h,λhk _=>?_⟩;cases I:l'[k]? with
  |none=>
   have:=List.getElem?_eq_none_iff.1 I;rw[h.len,<-T.len]at this;rw[List.getElem?_eq_none this]
  |some s=>exact absurd (List.getElem?_eq_getElem hk) (λhn=>hx _ _ I hn)
def xr{l':List FK.Sp}(I:Skp ns l F)(h:Btw ns l F l'):∀n,n<=ns.length->Btw ns l F ((List.range n).foldl (FK.skipK ns) l')/\(∀j:Nat,l'[j]?=F[j]?->((List.range n).foldl (FK.skipK ns) l')[j]?=F[j]?)/\∀k,k<n->(∀u∈FK.aft ns k,l'[u]?=F[u]?)->((List.range n).foldl (FK.skipK ns) l')[k]?=F[k]?
 |0,_=>⟨h,λ_ h=>h,λ_ h=>absurd h (Nat.not_lt_zero _)⟩
 |n+1,hn=>by
  obtain⟨Y,K,h3⟩:=xr I h n am;rw[List.range_succ,List.foldl_append];obtain⟨k1,O,k3⟩:=Ki I Y n;refine⟨k1,λj T=>O j (K j T),λk hk J=>?_⟩;rcases Nat.lt_succ_iff_lt_or_eq.1 hk with hk|rfl
  ·exact O k (h3 k hk J)
  ·exact k3 am λu E=>K u (J u E)
end
def zw(ns:List FK.Node)(l:List St):∀n,(nu ns l n).map St.ab=(List.range n).foldl (FK.skipK ns) (l.map St.ab)
 |0=>rfl
 |n+1=>by
  rw[mS,IZ,zw ns l n,List.range_succ,List.foldl_append]
  rfl
def Gf(hf:FK.Fit f){l:List St}(hl:l.length=f.NO.length):(gF f.NO l.length l.length l).map St.ab=(FK.lS f.NO).foldl (FK.skipK f.NO) (l.map St.ab):=by
 obtain⟨T,hT⟩:∃T,T=FK.lS f.NO:=⟨_,rfl⟩;have E:=IM hf;rw[<-hT]at E ⊢;obtain⟨F,I⟩:∃F,F=T.foldl (FK.skipK f.NO) (l.map St.ab):=⟨_,rfl⟩;have Y:(l.map St.ab).length=f.NO.length:=by rw[List.length_map,hl]
 have hF:Skp f.NO (l.map St.ab) F:=by
  have hs:=FK.nN Y T.length T rfl (E.beh hf);rw[<-I]at hs;refine⟨by rw[I,FK.mz],λj s h O hu=>(hs j s h).1 ⟨E.full j ?_,O,hu⟩,λj s h hn=>(hs j s h).2 λh=>hn h.2⟩;have:=(gfGet.1 h).1;omega
 rw[<-I];have d6:T.length<=l.length:=by
  have:=FK.mj (m:=List.range f.NO.length) E.nodup λx hx=>List.mem_range.2 (E.lt x hx);rw[hl];simpa using this
 have key:∀m,Btw f.NO (l.map St.ab) F ((gF f.NO l.length m l).map St.ab)/\∀k∈T.take m,((gF f.NO l.length m l).map St.ab)[k]?=F[k]?:=by
  intro m
  induction m with
  |zero=>exact⟨⟨λj s h=>.inl h,rfl⟩,λk hk=>by simp at hk⟩
  |succ m ih=>
   obtain⟨O,h2⟩:=ih;rw[lN,zw];obtain⟨k1,k2,k3⟩:=xr hF O l.length am;refine⟨k1,λk hk=>?_⟩
   by_cases J:k∈T.take m
   ·exact k2 k (h2 k J)
   ·have K:m<T.length:=by
     refine Classical.byContradiction λhm=>J ?_;rw[List.take_of_length_le am]at hk ⊢;exact hk
    rw[List.take_succ_eq_append_getElem K,List.mem_append,List.mem_singleton]at hk;rcases hk with hk|rfl
    ·exact absurd hk J
    ·refine k3 _ (by rw[hl];exact E.lt _ (List.getElem_mem K)) λu hu=>h2 u ?_
     have e:T=T.take m++T[m]::T.drop (m+1):=by
      rw[<-List.drop_eq_getElem_cons K,List.take_append_drop]
     exact(E.beh hf).2 _ _ _ e u hu
 obtain⟨O,h2⟩:=key l.length;refine List.ext_getElem? λj=>?_
 by_cases hj:j<f.NO.length
 ·exact h2 j (by rw[List.take_of_length_le d6];exact E.full j hj)
 ·rw[List.getElem?_eq_none (by rw[O.len];omega),List.getElem?_eq_none (by rw[hF.len];omega)]
open FK (Pl KD)
def En.fails(M:En)(i k:Nat)(r:Rn)(s:St)(n:FK.Node):En:=
 if s.NM<n.NR then {M.setR i (r.setS k {s with state:=4,fin:=M.later (FK.gE n.base n.cap n.NS s.NM M.seed).toNat,finAt:=M.timers+1})with timers:=M.timers+1}
 else(M.setR i {r with NN:=gF r.fl.NO r.NN.length r.NN.length (r.NN.set k {s with state:=6})}).settle i
def En.complete(M:En)(i k:Nat)(r:Rn)(s:St):En:=((M.setR i (r.setS k {s with state:=5})).wakeN i r.NN.length).settle i
def En.handS(M:En)(s:St)(n:FK.Node):St:=⟨3,s.NM+1,M.NK+1,M.later n.close.toNat,if 0<n.beat then M.later n.beat.toNat else 0,M.timers+1,if 0<n.beat then M.timers+2 else s.signAt⟩
def En.hand(M:En)(q:List (Nat×Int))(i k:Nat)(r:Rn)(s:St)(n:FK.Node):En:={M.setR i (r.setS k (M.handS s n))with NP:=q,NK:=M.NK+1,timers:=if 0<n.beat then M.timers+2 else M.timers+1}
def En.beat(M:En)(i k:Nat)(r:Rn)(s:St)(n:FK.Node):En:=if 0<n.beat then {M.setR i (r.setS k {s with sign:=M.later n.beat.toNat,signAt:=M.timers+1})with timers:=M.timers+1} else M
section
variable{M:En}{r:Rn}{s s':St}
def ml(h:Ab S M)(n:Nat):S.later n=M.later n:=by
 unfold FK.En.later En.later;rw[h.now]
theorem mG(h:Ab S M)(hi:M.runs[i]?=some r)(J:r.NN[k]?=some s)(p:Pl):(M.setR i (r.setS k s')).act p=if p.run=r.id/\p.node=k then(if r.state=1 then s'.act p.what else none) else M.act p:=by
 rw[tG (r':=r.setS k s') h.nd hi rfl,AD J]
 by_cases I:p.run=r.id
 ·rw[if_pos I]
  by_cases hk:p.node=(k:Int)
  ·rw[if_pos (And.intro I hk)]
   by_cases E:r.state=1
   ·rw[if_pos (And.intro E hk),if_pos E]
   ·rw[if_neg λh=>E h.1,if_neg E]
    unfold Rn.act;exact if_neg E
  ·rw[if_neg λh=>hk h.2,if_neg λh=>hk h.2,qI h.nd hi I]
 ·rw[if_neg I,if_neg λh=>I h.1]
theorem qb(h:Ab S M)(hi:M.runs[i]?=some r)(E:r.NN[k]?=some s)(I:p.run=r.id)(hk:p.node=k):M.act p=if r.state=1 then s.act p.what else none:=by
 rw[qI h.nd hi I];unfold Rn.act;have J:¬(k:Int)=-1:=am;rw[hk];simp[J,E]
theorem ld(E:w≠1)(I:w≠2):s.act w=none:=by
 unfold St.act;rw[if_neg λh=>E h.1,if_neg λh=>I h.1]
theorem Kv{b c:Int}(E:p.run=a)(I:p.node=b)(h3:p.what=c):p=⟨a,b,c⟩:=by
 obtain⟨_,_,_⟩:=p;subst E;subst I;subst h3
 rfl
def Ab.part(h:Ab S M)(hi:M.runs[i]?=some r)(J:r.NN[k]?=some s)(I:s'.ab=⟨st,s.NM,0⟩):Ab ((S.leave r.id k).setR r.id (r.ab.turned k s.ab st)) (M.setR i (r.setS k s')):=by
 unfold FK.Rn.turned;rw[FK.pQ (h.get hi) (gg J)];have E:=h.setR (r':=r.setS k s') hi rfl;rw[xQ,I]at E;exact⟨E.now,E.seed,E.lr,E.lt,E.ends,E.runs,E.NP,E.nd⟩
def Gone(id k:Nat)(p:Pl):Prop:=p≠⟨id,(k:Int),1⟩/\p≠⟨id,(k:Int),2⟩
def zK(h:Ab S M)(hi:M.runs[i]?=some r)(E:r.NN[k]?=some s){tms:List KD}(I:S.tms.Sublist tms)(J:∀x∈tms,Gone r.id k x.1->x∈S.tms):((S.leave r.id k).setR r.id (r.ab.turned k s.ab st)).tms.Sublist tms/\∀x∈tms,x∈((S.leave r.id k).setR r.id (r.ab.turned k s.ab st)).tms<->Gone r.id k x.1:=by
 unfold FK.Rn.turned;rw[FK.pQ (h.get hi) (gg E)];refine⟨(List.filter_sublist.trans List.filter_sublist).trans I,λx K=>?_⟩;rw[List.mem_filter,List.mem_filter];simp only[bne_iff_ne,ne_eq];exact⟨λh=>⟨h.1.2,h.2⟩,λh=>⟨⟨J x K h,h.1⟩,h.2⟩⟩
def Sim.part(h:Ab S M)(hi:M.runs[i]?=some r)(I:r.NN[k]?=some s){tms:List KD}(ht:Tm tms M.act M.timers M.time)(K:S.tms.Sublist tms)(T:∀x∈tms,Gone r.id k x.1->x∈S.tms){st:Int}(J:s'.ab=⟨st,s.NM,0⟩)(h3:st≠3)(h4:st≠4):Sim ((S.leave r.id k).setR r.id (r.ab.turned k s.ab st)) (M.setR i (r.setS k s')):=by
 obtain⟨k1,k2⟩:=zK (st:=st) h hi I K T;have e:s'.state=st:=congrArg FK.Sp.state J;have Y:∀w,s'.act w=none:=λw=>by unfold St.act;rw[e];simp[h3,h4]
 refine⟨h.part hi I J,ht.sub k1 (Gone r.id k) k2 (λp O=>?_) (λp O=>?_) (cx _)⟩
 ·rw[mG h hi I]
  split
  ·rename_i E
   rw[qb h hi I E.1 E.2,Y,ld λe=>O.1 (Kv E.1 E.2 e)];exact λe=>O.2 (Kv E.1 E.2 e)
  ·rfl
 ·have E:p.run=r.id/\p.node=k:=by
   by_cases K:p=⟨r.id,(k:Int),1⟩
   ·rw[K];exact⟨rfl,rfl⟩
   ·have:p=⟨r.id,(k:Int),2⟩:=Classical.byContradiction λT=>O ⟨K,T⟩
    rw[this];exact⟨rfl,rfl⟩
  rw[mG h hi I,if_pos E,Y,ite_self]
theorem Sim.complete(ok:FK.Ok S)(h:Sim S M)(hi:M.runs[i]?=some r)(E:r.NN[k]?=some s)(h3:s.state=3){t:Nat}(T:(S.NQ.find? (·.1==t)).map (·.2)=some ⟨r.id,(k:Int),0⟩):Sim (S.complete t) (M.complete i k r s):=by
 have I:=h.get hi;obtain⟨n,hn,_⟩:=ok.node I (gg E);have hl:(r.setS k {s with state:=5}).NN.length=(r.setS k {s with state:=5}).fl.NO.length:=by
  have:=(ok.run _ _ I).len;simpa[Rn.setS,Rn.ab]using this
 rw[FK.oa T I (gg E)];have hp:=Sim.part (s':={s with state:=5}) (st:=5) h.toAb hi E h.tm (List.Sublist.refl _) (λ_ Y _=>Y) (by unfold St.ab;simp) fh fh;have J:=ok.part I (gg E) hn h3 (.inl rfl);have K:(M.setR i (r.setS k {s with state:=5})).runs[i]?=some (r.setS k {s with state:=5}):=by
  have:=(gfGet.1 hi).1;unfold En.setR;simp[this]
 obtain⟨h1,r',h2,h4⟩:=hp.wake K hl;have O:=h1.settle (J.wake _) h2;rw[h4]at O;have e:(r.setS k {s with state:=5}).NN.length=r.NN.length:=by simp[Rn.setS]
 rw[e]at O;exact O
def F8(ns:List FK.Node)(l:List St)(k j:Nat)(w:Int):((skipK ns l k)[j]?.bind λs=>s.act w)=l[j]?.bind λs=>s.act w:=by
 unfold skipK
 split
 ·rename_i s n E K
  split
  ·rename_i hc
   by_cases I:j=k
   ·subst I
    rw[List.getElem?_set_self (gfGet.1 E).1,E];have J:=hc.1;unfold St.act;simp[J]
   ·rw[List.getElem?_set_ne (Ne.symm I)]
  ·rfl
 ·rfl
def wE(ns:List FK.Node)(l:List St)(j:Nat)(w:Int):∀n,((nu ns l n)[j]?.bind λs=>s.act w)=l[j]?.bind λs=>s.act w
 |0=>rfl
 |n+1=>by rw[mS,F8,wE ns l j w n]
theorem rM(ns:List FK.Node)(n:Nat)(l:List St)(j:Nat)(w:Int):∀m,((gF ns n m l)[j]?.bind λs=>s.act w)=l[j]?.bind λs=>s.act w
 |0=>rfl
 |m+1=>by rw[lN,wE,rM ns n l j w m]
theorem Sim.fails(ok:FK.Ok S)(h:Ab S M)(hi:M.runs[i]?=some r)(I:r.NN[k]?=some s)(h3:s.state=3){tms:List KD}(ht:Tm tms M.act M.timers M.time)(Y:S.tms.Sublist tms)(h2:∀x∈tms,Gone r.id k x.1->x∈S.tms){n:FK.Node}(hn:r.fl.NO[k]?=some n):Sim (S.failed r.id k) (M.fails i k r s n):=by
 have hR:=h.get hi;have hk:=(gfGet.1 I).1;obtain⟨E,d6,d9⟩:=ok.node hR (gg I);obtain rfl:E=n:=by
  have:r.fl.NO[k]?=some E:=d6;rw[hn]at this;injection this with this;exact this.symm
 have f7:=(gfGet.1 hi).1;rw[FK.kY hR (gg I) d6];unfold En.fails;show Sim (if s.NM<E.NR then _ else _) _
 split
 ·rename_i hb
  unfold FK.En.rests;have f8:(S.leave r.id k).later (FK.gE E.base E.cap E.NS s.NM S.seed).toNat=M.later (FK.gE E.base E.cap E.NS s.NM M.seed).toNat:=by
   rw[FK.fL hR (gg I)];show S.later _=_;rw[ml h,h.seed]
  have wf:s.ab.NM=s.NM:=rfl;rw[wf,f8];obtain⟨a,ha⟩:∃a,a=M.later (FK.gE E.base E.cap E.NS s.NM M.seed).toNat:=⟨_,rfl⟩;rw[<-ha];obtain⟨k1,k2⟩:=zK (st:=4) h hi I Y h2;have O:=h.part (s':={s with state:=4,fin:=a,finAt:=M.timers+1}) (st:=4) hi I (by unfold St.ab;simp);refine⟨⟨O.now,O.seed,O.lr,O.lt,O.ends,O.runs,O.NP,O.nd⟩,?_⟩;have f9:r.state=1:=by
   have:=d9.over;refine Classical.byContradiction λt7=>?_;have h4:s.ab.state=3:=h3;rcases this t7 with h|h|h<;>rw[h4]at h<;>exact absurd h fh
  obtain⟨q,hq⟩:∃q,q=λp=>decide (p≠(⟨r.id,(k:Int),1⟩:Pl)/\p≠⟨r.id,(k:Int),2⟩):=⟨_,rfl⟩;have hT:Tm ((S.leave r.id k).setR r.id (r.ab.turned k s.ab 4)).tms (λp=>if q p then M.act p else none) M.timers M.time:=
   ht.sub k1 (Gone r.id k) k2 (λp J=>by simp only[hq];exact if_pos (xC (show p≠_/\p≠_ from J))) (λp J=>by simp only[hq];exact if_neg λe=>J (show p≠_/\p≠_ from of_decide_eq_true e)) (cx _)
  have T:∀p,(M.setR i (r.setS k {s with state:=4,fin:=a,finAt:=M.timers+1})).act p=_:=λp=>mG (s':={s with state:=4,fin:=a,finAt:=M.timers+1}) h hi I p;refine hT.set ⟨r.id,(k:Int),1⟩ a ?_ ?_ λp J=>?_
  ·rw[ha,<-ml h]
   have:=ok.now;have e:=h.now;unfold FK.En.later;omega
  ·refine(T _).trans ?_
   rw[if_pos ⟨rfl,rfl⟩,if_pos f9];unfold St.act;exact if_pos ⟨rfl,.inr rfl⟩
  ·refine(T p).trans ?_
   simp only[hq]
   by_cases hc:p.run=r.id/\p.node=k
   ·rw[if_pos hc,if_pos f9]
    have hw:p.what≠1:=λe=>J (Kv hc.1 hc.2 e);have e4:({s with state:=4,fin:=a,finAt:=M.timers+1}:St).act p.what=none:=by unfold St.act;simp[hw]
    rw[e4]
    by_cases mt:p.what=2
    ·exact(if_neg (by simp[Kv hc.1 hc.2 mt])).symm
    ·rw[qb h hi I hc.1 hc.2,ld hw mt,ite_self,ite_self]
   ·rw[if_neg hc]
    refine(if_pos ?_).symm;simp only[decide_eq_true_eq];exact⟨J,λe=>hc (by rw[e];exact⟨rfl,rfl⟩)⟩
 ·rename_i hb
  unfold FK.En.dies;have BT:s.NM=E.NR:=by have:=d9.trb;have e:s.ab.NM=s.NM:=rfl;omega
  have J:=Sim.part (s':={s with state:=6}) (st:=6) h hi I ht Y h2 (by unfold St.ab;simp) fh fh;have Fd:=ok.part hR (gg I) d6 h3 (.inr (.inr ⟨rfl,BT⟩));have hl:(r.NN.set k {s with state:=6}).length=r.fl.NO.length:=by
   have:=(ok.run _ _ hR).len;simpa[Rn.ab]using this
  have In:r.NN.length=(r.NN.set k {s with state:=6}).length:=by simp
  obtain⟨rd,K⟩:∃rd,rd=gF r.fl.NO r.NN.length r.NN.length (r.NN.set k {s with state:=6}):=⟨_,rfl⟩;have LE:rd.map St.ab=(FK.lS r.fl.NO).foldl (FK.skipK r.fl.NO) ((r.NN.set k {s with state:=6}).map St.ab):=by
   rw[K,In];exact Gf (ok.run _ _ hR).fl hl
  have NU:rd.length=r.NN.length:=by rw[K,lB,List.length_set]
  rw[<-K];have d7:(M.setR i (r.setS k {s with state:=6})).runs[i]?=some (r.setS k {s with state:=6}):=by unfold En.setR;simp[f7]
  have hS:=J.toAb.setR (r':={r with NN:=rd}) d7 rfl;have e1:(M.setR i (r.setS k {s with state:=6})).setR i {r with NN:=rd}=M.setR i {r with NN:=rd}:=by unfold En.setR;simp
  have e2:({r with NN:=rd}:Rn).ab=(r.ab.turned k s.ab 6).skips (FK.lS r.fl.NO):=by
   unfold FK.Rn.skips FK.Rn.turned;rw[FK.setS_setS];show(⟨r.fl,r.state,rd.map St.ab,r.ended⟩:FK.Rn)=⟨r.fl,r.state,_,r.ended⟩;rw[LE,List.map_set]
   rfl
  have e3:((S.leave r.id k).setR r.id (r.ab.turned k s.ab 6)).setR r.id ((r.ab.turned k s.ab 6).skips (FK.lS r.fl.NO))=(S.leave r.id k).setR r.id ((r.ab.turned k s.ab 6).skips (FK.lS r.fl.NO)):=FK.setR_setR;have e4:(r.setS k {s with state:=6}).id=r.id:=rfl;rw[e1,e2,e4,e3]at hS;have LT:((S.leave r.id k).setR r.id (r.ab.turned k s.ab 6)).getR r.id=some (r.ab.turned k s.ab 6):=FK.mE hR (gg I);have d8:=FK.Ok.skips (FK.lS r.fl.NO) Fd LT;have d8:FK.Ok _:=e3▸d8;have t6:Sim ((S.leave r.id k).setR r.id ((r.ab.turned k s.ab 6).skips (FK.lS r.fl.NO))) (M.setR i {r with NN:=rd}):=by
   refine⟨hS,?_⟩;refine J.tm.same λp=>?_;rw[<-e1,tG (r':={r with NN:=rd}) J.nd d7 rfl]
   split
   ·rename_i t8
    rw[qI J.nd d7 t8];unfold Rn.act Rn.setS;simp only
    by_cases Y:r.state=1
    ·rw[if_pos Y,if_pos Y]
     by_cases h2:p.node=-1
     ·rw[if_pos h2,if_pos h2]
     ·rw[if_neg h2,if_neg h2]
      by_cases h0:0<=p.node
      ·rw[if_pos h0,if_pos h0,K]
       obtain⟨j,hj⟩:∃j,j=p.node.toNat:=⟨_,rfl⟩;rw[<-hj];exact rM _ _ _ _ _ _
      ·rw[if_neg h0,if_neg h0]
    ·rw[if_neg Y,if_neg Y]
   ·rfl
  have NT:(M.setR i {r with NN:=rd}).runs[i]?=some {r with NN:=rd}:=by unfold En.setR;simp[f7]
  exact Sim.settle (r:={r with NN:=rd}) d8 t6 NT
end
open FK (Pl KD)
section
variable{M:En}{r:Rn}{s:St}
def ur(ok:FK.Ok S)(h:Ab S M)(n:Nat):M.time<=M.later n:=by
 have:=ok.now;have:=h.now;unfold En.later;omega
def Sim.hand(ok:FK.Ok S)(h:Sim S M){q:List (Nat×Int)}(hq:M.NP=(r.id,(k:Int))::q)(hi:M.runs[i]?=some r)(hs:r.NN[k]?=some s){n:FK.Node}(hn:r.fl.NO[k]?=some n):Sim (S.hand ⟨r.id,(k:Int),0⟩ (q.map zd) r.ab s.ab n) (M.hand q i k r s n):=by
 have hR:=h.get hi;have d6:S.NP=⟨r.id,(k:Int),0⟩::q.map zd:=by rw[h.NP,hq];rfl
 obtain⟨h2,_⟩:=ok.handT d6 hR (gg hs) hn;have h2:s.state=2:=h2;have d7:r.state=1:=((ok.run _ _ hR).sp k _ n (gg hs) hn).running (.inr (.inl h2));have E:=h.toAb.setR (r':=r.setS k (M.handS s n)) hi rfl;rw[xQ]at E;have d8:(M.handS s n).ab=⟨3,s.ab.NM+1,S.NK+1⟩:=by
  unfold En.handS St.ab;rw[h.lt]
  rfl
 rw[d8]at E;have T:=ur ok h.toAb;have K:∀p,(M.hand q i k r s n).act p=if p.run=r.id/\p.node=k then(M.handS s n).act p.what else M.act p:=λp=>by
  refine(mG (s':=M.handS s n) h.toAb hi hs p).trans ?_;simp only[d7,if_true]
 have d9:0<n.beat->0<M.later n.beat.toNat:=λI=>by unfold En.later;omega
 have e1:(M.handS s n).act 1=some (M.later n.close.toNat,M.timers+1):=by unfold En.handS St.act;exact if_pos ⟨rfl,.inl rfl⟩
 have e2:(M.handS s n).act 2=if 0<n.beat then some (M.later n.beat.toNat,M.timers+2) else none:=by
  unfold En.handS St.act
  by_cases I:0<n.beat
  ·simp[I,d9 I]
  ·simp[I]
 have O:∀p:Pl,p.run=r.id->p.node=k->M.act p=none:=λp J h3=>AE h.toAb hi hs am am J h3;obtain⟨B,hB⟩:∃B:Pl->Option (Nat×Nat),B=λp=>if p=⟨r.id,(k:Int),1⟩ then some (M.later n.close.toNat,M.timers+1) else M.act p:=⟨_,rfl⟩
 have hT:Tm (S.tms.filter (λx=>x.1 !=⟨r.id,(k:Int),1⟩)++[(⟨r.id,(k:Int),1⟩,M.later n.close.toNat)]) B (M.timers+1) M.time:=
  h.tm.set _ _ (T _) (by rw[hB];exact if_pos rfl) λx hx=>by rw[hB];exact if_neg hx
 have Y:Tm ((S.handT r.id k (q.map zd) r.ab s.ab).setT ⟨r.id,(k:Int),1⟩ (S.later n.close.toNat)).tms B (M.timers+1) M.time:=by
  rw[ml h.toAb];exact hT
 rw[FK.yb];unfold FK.En.life
 by_cases I:0<n.beat
 ·rw[if_pos I]
  refine⟨⟨E.now,E.seed,E.lr,by show S.NK+1=M.NK+1;rw[h.lt],E.ends,E.runs,rfl,E.nd⟩,?_⟩;have e3:(M.hand q i k r s n).timers=M.timers+1+1:=by unfold En.hand;exact if_pos I
  rw[e3];have e4:FK.En.later ((S.handT r.id k (q.map zd) r.ab s.ab).setT ⟨r.id,(k:Int),1⟩ (S.later n.close.toNat)) n.beat.toNat=M.later n.beat.toNat:=ml h.toAb _;rw[e4];refine Y.set ⟨r.id,(k:Int),2⟩ _ (T _) ?_ λx hx=>?_
  ·rw[K,if_pos ⟨rfl,rfl⟩]
   rw[e2,if_pos I]
  ·rw[K,hB]
   by_cases hc:x.run=r.id/\x.node=k
   ·rw[if_pos hc]
    by_cases J:x.what=1
    ·rw[J,e1]
     exact(if_pos (Kv hc.1 hc.2 J)).symm
    ·rw[ld J λe=>hx (Kv hc.1 hc.2 e)]
     simp only;rw[if_neg λe=>J (by rw[e]),O x hc.1 hc.2]
   ·rw[if_neg hc]
    exact(if_neg λe=>hc (by rw[e];exact⟨rfl,rfl⟩)).symm
 ·rw[if_neg I]
  refine⟨⟨E.now,E.seed,E.lr,by show S.NK+1=M.NK+1;rw[h.lt],E.ends,E.runs,rfl,E.nd⟩,?_⟩;have e3:(M.hand q i k r s n).timers=M.timers+1:=by unfold En.hand;exact if_neg I
  rw[e3];refine Y.same λx=>?_;rw[K,hB]
  by_cases hc:x.run=r.id/\x.node=k
  ·rw[if_pos hc]
   by_cases J:x.what=1
   ·rw[J,e1]
    exact(if_pos (Kv hc.1 hc.2 J)).symm
   ·simp only
    rw[if_neg λe=>J (by rw[e]),O x hc.1 hc.2]
    by_cases h3:x.what=2
    ·rw[h3,e2,if_neg I]
    ·exact ld J h3
  ·rw[if_neg hc]
   exact(if_neg λe=>hc (by rw[e];exact⟨rfl,rfl⟩)).symm
def Sim.beat(ok:FK.Ok S)(h:Sim S M)(hi:M.runs[i]?=some r)(K:r.NN[k]?=some s)(h3:s.state=3){n:FK.Node}(hn:r.fl.NO[k]?=some n)(w:Int):Sim (S.life ⟨r.id,(k:Int),w⟩ n) (M.beat i k r s n):=by
 have Y:=h.get hi;have J:r.state=1:=((ok.run _ _ Y).sp k _ n (gg K) hn).running (.inr (.inr (.inl h3)));unfold FK.En.life En.beat
 by_cases O:0<n.beat
 ·rw[if_pos O,if_pos O]
  have E:=h.toAb.setR (r':=r.setS k {s with sign:=M.later n.beat.toNat,signAt:=M.timers+1}) hi rfl;rw[xQ]at E;have e:({s with sign:=M.later n.beat.toNat,signAt:=M.timers+1}:St).ab=s.ab:=rfl;have e0:S.setR r.id (r.ab.setS k s.ab)=S:=by
   have:r.ab.setS k s.ab=r.ab:=by
    unfold FK.Rn.setS;have hk:=(gfGet.1 (gg K));obtain⟨hk,T⟩:=hk;rw[<-T,List.set_getElem_self]
   rw[this];exact FK.oF ok Y
  rw[e,e0]at E;refine⟨⟨E.now,E.seed,E.lr,E.lt,E.ends,E.runs,E.NP,E.nd⟩,?_⟩;rw[ml h.toAb];have I:=mG (s':={s with sign:=M.later n.beat.toNat,signAt:=M.timers+1}) h.toAb hi K;refine h.tm.set ⟨r.id,(k:Int),2⟩ _ (ur ok h.toAb _) ((I _).trans ?_) λx hx=>(I _).trans ?_
  ·rw[if_pos ⟨rfl,rfl⟩,if_pos J]
   have h0:0<M.later n.beat.toNat:=by unfold En.later;omega
   unfold St.act;simp[h3,h0]
  ·by_cases hc:x.run=r.id/\x.node=k
   ·rw[if_pos hc,if_pos J,qb h.toAb hi K hc.1 hc.2,if_pos J]
    have hw:x.what≠2:=λe=>hx (Kv hc.1 hc.2 e);unfold St.act;simp[hw]
   ·rw[if_neg hc]
 ·rw[if_neg O,if_neg O]
  exact h
end
def En.ids(M:En):List (Nat×Nat):=M.runs.map λr=>(r.id,r.ended)
def Ke(M:En):Prop:=M.ids.Pairwise λa b=>a.1<b.1/\(0<a.2->a.2≠b.2)
def mM{M:En}{r r':Rn}(hi:M.runs[i]?=some r)(e:r'.id=r.id)(E:r'.ended=r.ended):(M.setR i r').ids=M.ids:=by
 unfold En.ids En.setR;simp only[List.map_set,e,E];exact List.ext_getElem? λj=>by
  rw[List.getElem?_set]
  split
  ·rename_i h
   subst h;have:=(gfGet.1 hi).1;rw[if_pos (by simpa using this),List.getElem?_map,hi]
   rfl
  ·rfl
def GL(M:En)(i k:Nat):(En.wakeK i M k).ids=M.ids:=by
 unfold En.wakeK
 split
 ·rename_i r hi
  split
  ·split
   ·exact mM hi rfl rfl
   ·rfl
  ·rfl
 ·rfl
def qZ(M:En)(i:Nat):∀n,(M.wakeN i n).ids=M.ids
 |0=>rfl
 |n+1=>by rw[wakeN_succ,GL,qZ M i n]
theorem lF(M:En)(i:Nat):∀n,(M.wakeN i n).ends=M.ends
 |0=>rfl
 |n+1=>by
  rw[wakeN_succ];unfold En.wakeK
  split
  ·split
   ·split
    ·exact lF M i n
    ·exact lF M i n
   ·exact lF M i n
  ·exact lF M i n
def Ke.endr{M:En}{i:Nat}{r:Rn}(h:Ke M)(hi:M.runs[i]?=some r)(he:∀u∈M.runs,u.ended<=M.ends)(st:Int):Ke (M.endr i r st):=by
 unfold Ke at *
 have e:(M.endr i r st).ids=M.ids.set i (r.id,M.ends+1):=by
  unfold En.ids En.endr En.drop En.setR Rn.fin;simp only[List.map_set]
 rw[e];have E:M.ids[i]?=some (r.id,r.ended):=by unfold En.ids;rw[List.getElem?_map,hi];rfl
 have hl:=(gfGet.1 E).1;have I:∀x∈M.ids,x.2<=M.ends:=λx T=>by
  obtain⟨u,hu,rfl⟩:=List.mem_map.1 T;exact he u hu
 rw[List.pairwise_iff_getElem]at *
 intro a b Y hb d6;rw[List.length_set]at Y hb;have J:=h a b Y hb d6;have T:=gfGet.1 E;rw[List.getElem_set,List.getElem_set]
 by_cases K:i=a
 ·subst K
  rw[if_pos rfl,if_neg am];rw[T.2]at J;exact⟨J.1,λ_=>by have:=I _ (List.getElem_mem hb);show M.ends+1≠_;omega⟩
 ·rw[if_neg K]
  by_cases O:i=b
  ·subst O
   rw[if_pos rfl];rw[T.2]at J;exact⟨J.1,λ_=>by have:=I _ (List.getElem_mem Y);show _≠M.ends+1;omega⟩
  ·rw[if_neg O]
   exact J
def Ab.endle{M:En}(ok:FK.Ok S)(h:Ab S M):∀u∈M.runs,u.ended<=M.ends:=λu E=>by
 obtain⟨i,hi⟩:=List.getElem?_of_mem E;rw[<-h.ends];exact(ok.run _ _ (h.get hi)).ends
def Ke.settle{S:FK.En}{M:En}{i:Nat}(ok:FK.Ok S)(h:Ab S M)(k:Ke M):Ke (M.settle i):=by
 unfold En.settle
 split
 ·rename_i r hi
  split
  ·exact k.endr hi (h.endle ok) _
  ·exact k
 ·exact k
structure Old(M:En)(o:Option Nat):Prop where
 some:∀j,o=some j->∃r,M.runs[j]?=some r/\0<r.ended/\∀u∈M.runs,0<u.ended->r.ended<=u.ended
 none:o=none->∀u∈M.runs,u.ended=0
def xj{r:Rn}:∀{l:List Rn} {x:Nat},l[x]?=some r->(l.map (·.id)).Nodup->l.eraseP (·.id==r.id)=l.eraseIdx x
 | [],_,h,_=>by simp at h
 |a::l,0,h,_=>by
  have:a=r:=by simpa using h
  subst this;rw[List.eraseP_cons_of_pos di]
  rfl
 |a::l,x+1,h,hn=>by
  rw[List.map_cons,List.nodup_cons]at hn;have h:l[x]?=some r:=by simpa using h
  have:¬a.id=r.id:=λe=>hn.1 (by rw[e];exact List.mem_map_of_mem (f:=(·.id)) (cg h));rw[List.eraseP_cons_of_neg (by simpa using this),List.eraseIdx_cons_succ,xj h hn.2]
def En.cut(M:En)(j:Nat):En:={M with runs:=M.runs.eraseIdx j}
def Sim.cut{S S0:FK.En}{M:En}(ok:FK.Ok S)(h:Sim S M)(k:Ke M){j:Nat}(ho:Old M (some j))(h6:S.runs.length=6)(hc:FK.Cut S S0):Sim S0 (M.cut j)/\Ke (M.cut j):=by
 obtain⟨r,K,d7,d8⟩:=ho.some j rfl;have O:=(gfGet.1 K).1;have hR:=h.get K;unfold FK.Cut at hc;rw[if_pos h6]at hc;obtain⟨o,d9,rfl⟩:=hc;obtain⟨m,rfl,hm⟩:=d9.2 _ (FK.kX hR) d7;obtain⟨mt,f7⟩:=d9.1 m rfl;have Y:=mt;rw[h.runs]at Y;obtain⟨u,hu,rfl⟩:=List.mem_map.1 Y;obtain⟨x,hx⟩:=List.getElem?_of_mem hu;have t6:x=j:=by
  have he:r.ended=u.ended:=Nat.le_antisymm (d8 u hu f7) hm;have T:=(gfGet.1 hx).1;unfold Ke at k;rw[List.pairwise_iff_getElem]at k;refine Classical.byContradiction λf9=>?_;have E:M.ids.length=M.runs.length:=by unfold En.ids;rw[List.length_map]
  have ga:∀y (I:y<M.runs.length) v,M.runs[y]?=some v->M.ids[y]'(by rw[E];exact I)=(v.id,v.ended):=λy I v hv=>by
   unfold En.ids;rw[List.getElem_map];have:=(gfGet.1 hv).2;rw[this]
  rcases Nat.lt_or_gt_of_ne f9 with d6|d6
  ·have:=(k x j (by rw[E];exact T) (by rw[E];exact O) d6).2
   rw[ga x T u hx,ga j O r K]at this;exact this f7 he.symm
  ·have:=(k j x (by rw[E];exact O) (by rw[E];exact T) d6).2
   rw[ga x T u hx,ga j O r K]at this;exact this d7 he
 subst t6;rw[K]at hx;injection hx with hx;subst hx;have J:(M.runs.eraseIdx x).Sublist M.runs:=List.eraseIdx_sublist _ _;have hnd:((M.runs.eraseIdx x).map (·.id)).Nodup:=h.nd.sublist (J.map _);have f8:∀a,(M.cut x).getR a=if a=r.id then none else M.getR a:=λa=>by
  split
  ·rename_i ha
   subst ha;cases hf:(M.cut x).getR r.id with
   |none=>rfl
   |some v=>
    obtain⟨h1,y,I⟩:=oA hf;have I:(M.runs.eraseIdx x)[y]?=some v:=I;rw[List.getElem?_eraseIdx]at I
    split at I
    ·have:=zf h.nd I K h1
     omega
    ·have:=zf h.nd I K h1
     omega
  ·rename_i ha
   cases hf:M.getR a with
   |some v=>
    obtain⟨h1,y,I⟩:=oA hf;have hm:v∈M.runs.eraseIdx x:=(FK.jO K (cg I)).resolve_left λe=>ha (by rw[<-h1,e]);obtain⟨z,hz⟩:=List.getElem?_of_mem hm;rw[<-h1];exact kN (M:=M.cut x) hnd hz
   |none=>
    cases hg:(M.cut x).getR a with
    |none=>rfl
    |some v=>
     obtain⟨h1,y,I⟩:=oA hg;obtain⟨z,hz⟩:=List.getElem?_of_mem (J.subset (cg I));rw[<-h1,kN h.nd hz]at hf;cases hf
 refine⟨⟨⟨h.now,h.seed,h.lr,h.lt,h.ends,?_,h.NP,hnd⟩,h.tm.same λp=>?_⟩,?_⟩
 ·show S.runs.eraseP (·.1==r.id)=(M.runs.eraseIdx x).map Rn.abI
  rw[<-xj K h.nd,h.runs,List.eraseP_map]
  rfl
 ·unfold En.act
  rw[f8]
  by_cases hp:p.run=r.id
  ·rw[if_pos hp,hp,kN h.nd K]
   have:r.state≠1:=λe=>by
    have:=(ok.run _ _ hR).ended.2 e;have e2:r.ab.ended=r.ended:=rfl;omega
   unfold Rn.act;exact(if_neg this).symm
  ·rw[if_neg hp]
 ·unfold Ke En.ids at *
  exact k.sublist (J.map _)
def En.begin(M:En)(fl:FK.Flow):En:={M with runs:=M.runs++[⟨M.NL+1,fl,1,M.later fl.deadline.toNat,M.timers+1,List.replicate fl.NO.length ⟨1,0,0,0,0,0,0⟩,0⟩],NL:=M.NL+1,timers:=M.timers+1}
def En.submit(M:En)(fl:FK.Flow):En:=(M.begin fl).wakeN M.runs.length fl.NO.length
def Sim.submit{S:FK.En}{M:En}(ok:FK.Ok S)(h:Sim S M)(k:Ke M){fl:FK.Flow}:Sim (S.submit fl) (M.submit fl)/\Ke (M.submit fl):=by
 have I:∀u∈M.runs,u.id<=M.NL:=λu O=>by
  have:=ok.low u.id (by rw[h.keys];exact List.mem_map_of_mem (f:=(·.id)) O);rw[<-h.lr];exact this.2
 obtain⟨r,E⟩:∃r:Rn,r=⟨M.NL+1,fl,1,M.later fl.deadline.toNat,M.timers+1,List.replicate fl.NO.length ⟨1,0,0,0,0,0,0⟩,0⟩:=⟨_,rfl⟩;have hnd:((M.runs++[r]).map (·.id)).Nodup:=by
  rw[List.map_append,List.nodup_append];refine⟨h.nd,by simp,λa J b hb e=>?_⟩;obtain⟨u,O,rfl⟩:=List.mem_map.1 J;simp[E]at hb;have:=I u O;omega
 have d7:r.ab=FK.Rn.begun fl:=by
  rw[E];unfold Rn.ab FK.Rn.begun;simp[St.ab]
 have hB:M.begin fl={M with runs:=M.runs++[r],NL:=M.NL+1,timers:=M.timers+1}:=by rw[E];rfl
 have d8:Ab ((S.begin fl).setT ⟨S.NL+1,-1,0⟩ (S.later fl.deadline.toNat)) (M.begin fl):=by
  rw[hB];refine⟨h.now,h.seed,by show S.NL+1=M.NL+1;rw[h.lr],h.lt,h.ends,?_,h.NP,hnd⟩;show S.runs++[(S.NL+1,FK.Rn.begun fl)]=_;rw[List.map_append,<-h.runs,<-d7,h.lr];show _=S.runs++[(r.id,r.ab)];rw[E]
 have hno:M.getR (M.NL+1)=none:=by
  unfold En.getR;rw[List.find?_eq_none];intro u O;have:=I u O;simp;omega
 have T:∀a,(M.begin fl).getR a=if a=M.NL+1 then some r else M.getR a:=λa=>by
  rw[hB];show(M.runs++[r]).find? _=_;rw[List.find?_append];show(M.getR a).or _=_
  by_cases J:a=M.NL+1
  ·rw[if_pos J,J,hno,E]
   simp
  ·rw[if_neg J]
   have h2:[r].find? (·.id==a)=none:=by
    have:r.id=M.NL+1:=by rw[E]
    have h3:¬M.NL+1=a:=λe=>J e.symm;simp[this,h3]
   rw[h2,Option.or_none]
 have K:∀p,(M.begin fl).act p=if p=⟨M.NL+1,-1,0⟩ then some (M.later fl.deadline.toNat,M.timers+1) else M.act p:=λp=>by
  by_cases Y:p.run=M.NL+1
  ·have e:(M.begin fl).act p=r.act p:=by unfold En.act;rw[T,if_pos Y]
   have hA:M.act p=none:=by unfold En.act;rw[Y,hno]
   rw[e,hA];unfold Rn.act;have h1:r.state=1:=by rw[E]
   rw[if_pos h1]
   by_cases hn:p.node=-1
   ·rw[if_pos hn]
    by_cases hw:p.what=0
    ·rw[if_pos hw,if_pos (Kv Y hn hw),E]
    ·rw[if_neg hw,if_neg λe=>hw (by rw[e])]
   ·have d9:p≠⟨M.NL+1,-1,0⟩:=λe=>hn (by rw[e])
    rw[if_neg hn,if_neg d9]
    by_cases h0:0<=p.node
    ·rw[if_pos h0,E]
     rw[List.getElem?_replicate]
     split
     ·show St.act _ p.what=none
      unfold St.act;simp
     ·rfl
    ·rw[if_neg h0]
  ·have e:(M.begin fl).act p=M.act p:=by unfold En.act;rw[T,if_neg Y]
   rw[e,if_neg λe=>Y (by rw[e])]
 have hS:Sim ((S.begin fl).setT ⟨S.NL+1,-1,0⟩ (S.later fl.deadline.toNat)) (M.begin fl):=by
  refine⟨d8,?_⟩;rw[h.lr,ml h.toAb];exact h.tm.set _ _ (ur ok h.toAb _) (by rw[K];exact if_pos rfl) λx hx=>by rw[K];exact if_neg hx
 have hi:(M.begin fl).runs[M.runs.length]?=some r:=by rw[hB];simp
 have d6:r.NN.length=fl.NO.length:=by rw[E];simp
 obtain⟨h1,_⟩:=hS.wake hi (by rw[d6,E]);have hk:Ke (M.begin fl):=by
  unfold Ke at *
  have:(M.begin fl).ids=M.ids++[(M.NL+1,0)]:=by rw[hB];unfold En.ids;simp[E]
  rw[this,List.pairwise_append];refine⟨k,by simp,λa J b hb=>?_⟩;obtain⟨u,O,rfl⟩:=List.mem_map.1 J;rw[List.mem_singleton.1 hb];have:=I u O;exact⟨by show u.id<M.NL+1;omega,λh e=>by have h:0<u.ended:=h;have e:u.ended=0:=e;omega⟩
 refine⟨?_,?_⟩
 ·unfold FK.En.submit En.submit
  have e:r.id=S.NL+1:=by rw[E,h.lr]
  rw[d6,e]at h1;exact h1
 ·unfold Ke En.submit at *
  rw[qZ];exact hk
open FK (Pl KD)
structure Ac where
 run:Nat
 node:Int
 sign:Bool
 due:Nat
 seq:Nat
def Ac.what(a:Ac):Int:=if a.node=-1 then 0 else if a.sign then 2 else 1
def St.acts(i k:Nat)(s:St):List Ac:=(if s.state=3\/s.state=4 then[⟨i,(k:Int),false,s.fin,s.finAt⟩] else[])++if s.state=3/\0<s.sign then[⟨i,(k:Int),true,s.sign,s.signAt⟩] else[]
def ll(i:Nat)(l:List St)(n:Nat):List Ac:=(List.range n).flatMap λk=>match l[k]? with|some s=>s.acts i k|none=>[]
def Rn.acts(i:Nat)(r:Rn):List Ac:=if r.state=1 then⟨i,-1,false,r.till,r.tillAt⟩::ll i r.NN r.NN.length else[]
def En.actsN(M:En)(n:Nat):List Ac:=(List.range n).flatMap λi=>match M.runs[i]? with|some r=>r.acts i|none=>[]
def En.acts(M:En):List Ac:=M.actsN M.runs.length
def Ac.lt(a b:Ac):Prop:=a.due<b.due\/a.due=b.due/\a.seq<b.seq
instance (a b:Ac):Decidable (a.lt b):=by unfold Ac.lt;infer_instance
def pick(o:Option Ac)(a:Ac):Option Ac:=match o with|none=>some a|some b=>if a.lt b then some a else some b
def En.first(M:En):Option Ac:=M.acts.foldl pick none
def mC:∀(l:List Ac) (o:Option Ac),(l.foldl pick o=none<->o=none/\l=[])/\∀b,l.foldl pick o=some b->(o=some b\/b∈l)/\(∀a∈l,¬a.lt b)/\∀c,o=some c->¬c.lt b
 | [],o=>⟨by simp,λb h=>⟨.inl h,by simp,λc hc=>by
  have:o=some b:=h;rw[hc]at this;injection this with this;subst this;unfold Ac.lt;omega⟩⟩
 |a::l,o=>by
  rw[List.foldl_cons];obtain⟨h1,h2⟩:=mC l (pick o a);have hp:pick o a≠none:=by
   unfold pick
   split
   ·simp
   ·split<;>simp
  refine⟨⟨λh=>absurd (h1.1 h).1 hp,λh=>by simp at h⟩,λb hb=>?_⟩;obtain⟨E,T,O⟩:=h2 b hb;have Y:∀x y:Ac,¬y.lt b->¬x.lt y->¬x.lt b:=λx y h h'=>by unfold Ac.lt at *;omega
  cases o with
  |none=>
   have J:pick none a=some a:=rfl;rw[J]at E O;refine⟨.inr ?_,λx I=>?_,λc hc=>by cases hc⟩
   ·rcases E with E|E
    ·injection E with E
     rw[E];exact List.mem_cons_self
    ·exact List.mem_cons_of_mem _ E
   ·rcases List.mem_cons.1 I with rfl|I
    ·exact O _ rfl
    ·exact T x I
  |some c=>
   by_cases hc:a.lt c
   ·have J:pick (some c) a=some a:=if_pos hc
    rw[J]at E O;have ka:=O a rfl;refine⟨.inr ?_,λx I=>?_,λd K=>?_⟩
    ·rcases E with E|E
     ·injection E with E
      rw[E];exact List.mem_cons_self
     ·exact List.mem_cons_of_mem _ E
    ·rcases List.mem_cons.1 I with rfl|I
     ·exact ka
     ·exact T x I
    ·injection K with K
     subst K;exact Y c a ka (by unfold Ac.lt at *;omega)
   ·have J:pick (some c) a=some c:=if_neg hc
    rw[J]at E O;have kc:=O c rfl;refine⟨?_,λx I=>?_,λd K=>?_⟩
    ·rcases E with E|E
     ·exact .inl E
     ·exact .inr (List.mem_cons_of_mem _ E)
    ·rcases List.mem_cons.1 I with rfl|I
     ·exact Y x c kc hc
     ·exact T x I
    ·injection K with K
     subst K;exact kc
def Is(M:En)(a:Ac):Prop:=∃r,M.runs[a.run]?=some r/\(a.node=-1->a.sign=false)/\-1<=a.node/\r.act ⟨r.id,a.node,a.what⟩=some (a.due,a.seq)
def st_acts{s:St}{a:Ac}:a∈s.acts i k<->a.run=i/\a.node=k/\s.act a.what=some (a.due,a.seq):=by
 obtain⟨u,v,w,x,y⟩:=a;unfold St.acts St.act Ac.what;simp only[List.mem_append];constructor
 ·rintro(h|h)
  ·split at h
   ·rename_i E
    simp only[List.mem_singleton,Ac.mk.injEq]at h;obtain⟨rfl,rfl,rfl,rfl,rfl⟩:=h;have:¬((k:Int)=-1):=am;simp[this,E]
   ·cases h
  ·split at h
   ·rename_i E
    simp only[List.mem_singleton,Ac.mk.injEq]at h;obtain⟨rfl,rfl,rfl,rfl,rfl⟩:=h;have:¬((k:Int)=-1):=am;simp[this,E]
   ·cases h
 ·rintro⟨rfl,rfl,h⟩
  have:¬((k:Int)=-1):=am;rw[if_neg this]at h;cases w with
  |false=>
   by_cases E:s.state=3\/s.state=4
   ·rw[if_pos ⟨rfl,E⟩]at h
    injection h with h;injection h with I J;subst I;subst J;exact .inl (by rw[if_pos E];simp)
   ·rw[if_neg λh=>E h.2,if_neg λh=>absurd h.1 di]at h
    cases h
  |true=>
   rw[if_neg λh=>absurd h.1 di]at h
   by_cases E:s.state=3/\0<s.sign
   ·rw[if_pos ⟨rfl,E⟩]at h
    injection h with h;injection h with I J;subst I;subst J;exact .inr (by rw[if_pos E];simp)
   ·rw[if_neg λh=>E h.2]at h
    cases h
def acts_is{M:En}{a:Ac}:a∈M.acts<->Is M a:=by
 unfold En.acts En.actsN Is;rw[List.mem_flatMap];constructor
 ·rintro⟨i,hi,h⟩
  rw[List.mem_range]at hi;rw[List.getElem?_eq_getElem hi]at h;obtain⟨r,E⟩:∃r,r=M.runs[i]:=⟨_,rfl⟩;have I:M.runs[i]?=some r:=by rw[E];exact List.getElem?_eq_getElem hi
  rw[<-E]at h;simp only at h;unfold Rn.acts at h
  split at h
  ·rename_i K
   rcases List.mem_cons.1 h with rfl|h
   ·refine⟨r,I,λ_=>rfl,by simp,?_⟩
    unfold Rn.act Ac.what;simp[K]
   ·unfold ll at h
    rw[List.mem_flatMap]at h;obtain⟨k,hk,h⟩:=h;cases hs:r.NN[k]? with
    |none=>rw[hs]at h;cases h
    |some s=>
     rw[hs]at h;obtain⟨rfl,e2,e3⟩:=st_acts.1 h;refine⟨r,I,λe=>by omega,am,?_⟩;have J:¬((k:Int)=-1):=am;unfold Rn.act;simp only[K,e2,J,if_true,if_false,Int.toNat_natCast,hs];rw[if_pos am];exact e3
  ·cases h
 ·rintro⟨r,E,K,T,h3⟩
  have hi:=(gfGet.1 E).1;refine⟨a.run,List.mem_range.2 hi,?_⟩;rw[E];simp only;unfold Rn.act at h3;unfold Rn.acts;simp only at h3
  split at h3
  ·rename_i O
   rw[if_pos O]
   by_cases J:a.node=-1
   ·rw[if_pos J]at h3
    split at h3
    ·injection h3 with h3
     injection h3 with e1 e2;obtain⟨u,v,w,x,y⟩:=a;subst J;have:=K rfl;subst this;subst e1;subst e2;exact List.mem_cons_self
    ·cases h3
   ·rw[if_neg J,if_pos am]at h3
    refine List.mem_cons_of_mem _ ?_;unfold ll;rw[List.mem_flatMap];cases hs:r.NN[a.node.toNat]? with
    |none=>rw[hs]at h3;cases h3
    |some s=>
     rw[hs]at h3;refine⟨a.node.toNat,List.mem_range.2 (gfGet.1 hs).1,?_⟩;rw[hs];exact st_acts.2 ⟨rfl,am,h3⟩
  ·cases h3
section
variable{M:En}
def Is.tm(h:Sim S M){a:Ac}(I:Is M a):∃r,M.runs[a.run]?=some r/\M.act ⟨r.id,a.node,a.what⟩=some (a.due,a.seq)/\((⟨r.id,a.node,a.what⟩,a.due):KD)∈S.tms:=by
 obtain⟨r,E,_,_,h3⟩:=I;have:M.act ⟨r.id,a.node,a.what⟩=some (a.due,a.seq):=by rw[qI h.nd E rfl];exact h3
 exact⟨r,E,this,(h.tm.mem _ _).2 ⟨_,this⟩⟩
def Hu(h:Sim S M)(Y:x∈S.tms):∃a,Is M a/\a.due=x.2/\M.act x.1=some (a.due,a.seq)/\∃r,M.runs[a.run]?=some r/\x.1=⟨r.id,a.node,a.what⟩:=by
 obtain⟨⟨id,nd,wh⟩,d⟩:=x;obtain⟨s,E⟩:=(h.tm.mem _ _).1 Y;have O:=E;unfold En.act at E;cases hg:M.getR id with
 |none=>rw[hg]at E;cases E
 |some r=>
  simp only[hg]at E;obtain⟨T,i,hi⟩:=oA hg;have I:-1<=nd/\(nd=-1->wh=0)/\(nd≠-1->wh=1\/wh=2):=by
   unfold Rn.act at E;simp only at E
   split at E
   ·by_cases J:nd=-1
    ·rw[if_pos J]at E
     split at E
     ·rename_i hw
      exact⟨am,λ_=>hw,λh=>absurd J h⟩
     ·cases E
    ·rw[if_neg J]at E
     split at E
     ·refine⟨am,λh=>absurd h J,λ_=>?_⟩
      cases hk:r.NN[nd.toNat]? with
      |none=>rw[hk]at E;cases E
      |some u=>
       rw[hk]at E;have E:u.act wh=_:=E;refine Classical.byContradiction λhw=>?_;rw[ld (λe=>hw (.inl e)) λe=>hw (.inr e)]at E;cases E
     ·cases E
   ·cases E
  have K:(⟨i,nd,wh==2,d,s⟩:Ac).what=wh:=by
   unfold Ac.what;simp only
   by_cases J:nd=-1
   ·rw[if_pos J];exact(I.2.1 J).symm
   ·rw[if_neg J]
    rcases I.2.2 J with e|e<;>rw[e]<;>rfl
  refine⟨⟨i,nd,wh==2,d,s⟩,⟨r,hi,λe=>by simp only at e;rw[I.2.1 e];rfl,I.1,?_⟩,rfl,O,r,hi,?_⟩
  ·rw[K,T];exact E
  ·rw[K,T]
theorem D9(h:Sim S M):M.first=none<->S.tms=[]:=by
 unfold En.first
 rw[(mC _ _).1];constructor
 ·rintro⟨_,I⟩
  refine List.eq_nil_iff_forall_not_mem.2 λx K=>?_;obtain⟨a,E,_⟩:=Hu h K;have:=acts_is.2 E;rw[I]at this;cases this
 ·intro I
  refine⟨rfl,List.eq_nil_iff_forall_not_mem.2 λa E=>?_⟩;obtain⟨r,_,_,J⟩:=(acts_is.1 E).tm h;rw[I]at J;cases J
def xb(h:Sim S M){b:Ac}(K:M.first=some b):∃r I,M.runs[b.run]?=some r/\FK.IsMin S.tms (⟨r.id,b.node,b.what⟩,b.due) I:=by
 obtain⟨h1,h2,_⟩:=(mC _ _).2 b K;have K:=acts_is.1 (h1.resolve_left λe=>by cases e);obtain⟨r,hr,ha,hm⟩:=K.tm h;obtain⟨l,m,e⟩:=List.append_of_mem hm;have Y:=h.tm.ord;rw[e,List.pairwise_append]at Y;have key:∀y∈S.tms,∃c:Ac,c.due=y.2/\M.act y.1=some (c.due,c.seq)/\¬c.lt b:=λy E=>by
  obtain⟨c,hc,O,J,_⟩:=Hu h E;exact⟨c,O,J,h2 c (acts_is.2 hc)⟩
 refine⟨r,l++m,hr,l,m,e,rfl,λy E=>?_,λy E=>?_⟩
 ·obtain⟨c,O,J,T⟩:=key y (by rw[e];exact List.mem_append_left _ E)
  have:=Y.2.2 y E _ List.mem_cons_self _ _ J ha;unfold Ac.lt at T;omega
 ·obtain⟨c,O,J,T⟩:=key y (by rw[e];exact List.mem_append_right _ (List.mem_cons_of_mem _ E))
  unfold Ac.lt at T;simp only;omega
def zU(ok:FK.Ok S)(h:Ab S M)(k:Ke M){r:Rn}{s:St}(hi:M.runs[i]?=some r){nd:FK.Node}:Ke (M.fails i n r s nd):=by
 unfold En.fails
 split
 ·unfold Ke at *
  exact(mM (r':=r.setS n {s with state:=4,fin:=M.later (FK.gE nd.base nd.cap nd.NS s.NM M.seed).toNat,finAt:=M.timers+1}) hi rfl rfl).symm▸k
 ·have hk:Ke (M.setR i {r with NN:=gF r.fl.NO r.NN.length r.NN.length (r.NN.set n {s with state:=6})}):=by
   unfold Ke at *
   exact(mM (r':={r with NN:=gF r.fl.NO r.NN.length r.NN.length (r.NN.set n {s with state:=6})}) hi rfl rfl).symm▸k
  have J:∀u∈(M.setR i {r with NN:=gF r.fl.NO r.NN.length r.NN.length (r.NN.set n {s with state:=6})}).runs,u.ended<=M.ends:=λu E=>by
   have:=List.mem_or_eq_of_mem_set E;rcases this with I|I
   ·exact h.endle ok u I
   ·rw[I]
    exact h.endle ok r (cg hi)
  unfold En.settle
  split
  ·rename_i u E
   split
   ·exact hk.endr E J _
   ·exact hk
  ·exact hk
def En.due(M:En)(b:Ac):En:=match M.runs[b.run]? with
 |some r=>if b.node<0 then M.endr b.run r 5 else match r.NN[b.node.toNat]?,r.fl.NO[b.node.toNat]? with
  |some s,some n=>if s.state=4 then M.ready b.run b.node.toNat r s else M.fails b.run b.node.toNat r s n
  |_,_=>M
 |none=>M
def Sim.due(ok:FK.Ok S)(h:Sim S M){b:Ac}(hb:M.first=some b){r:Rn}(hr:M.runs[b.run]?=some r){E:List KD}(hm:FK.IsMin S.tms (⟨r.id,b.node,b.what⟩,b.due) E)(k:Ke M):Sim ({S with now:=b.due,tms:=E}.due ⟨r.id,b.node,b.what⟩) ({M with time:=b.due}.due b)/\Ke ({M with time:=b.due}.due b)/\M.time<=b.due:=by
 have wf:=acts_is.1 (((mC _ _).2 b hb).1.resolve_left λe=>by cases e);obtain⟨Y,hno,R,hR,f9⟩:=ok.pop hm;have d6:S.getR r.id=some R:=hR;rw[h.get hr]at d6;injection d6 with d6;subst d6;have mt:M.time<=b.due:=h.tm.lo _ hm.mem;have hA:Ab {S with now:=b.due,tms:=E} {M with time:=b.due}:=⟨rfl,h.seed,h.lr,h.lt,h.ends,h.runs,h.NP,h.nd⟩;have K:E.Sublist S.tms:=by
  obtain⟨l,m,e1,e2,_⟩:=hm;rw[e1,e2];exact List.Sublist.append (List.Sublist.refl _) (List.sublist_cons_self _ _)
 have O:∀y∈S.tms,y.1≠⟨r.id,b.node,b.what⟩->y∈E:=λy J d8=>by
  rcases List.mem_cons.1 (hm.perm.mem_iff.1 J)with e|e
  ·exact absurd (by rw[e]) d8
  ·exact e
 have d9:Tm S.tms (En.act {M with time:=b.due}) M.timers b.due:=⟨λy J=>by
  obtain⟨l,m,e1,_,h3,h4⟩:=hm;rw[e1]at J;rcases List.mem_append.1 J with J|J
  ·exact Nat.le_of_lt (h3 y J)
  ·rcases List.mem_cons.1 J with rfl|J
   ·exact cx _
   ·exact h4 y J,h.tm.nd,h.tm.mem,h.tm.ord,h.tm.le⟩
 have f7:Ke {M with time:=b.due}:=k;have I:({M with time:=b.due}:En).runs[b.run]?=some r:=hr
 suffices T:Sim ({S with now:=b.due,tms:=E}.due ⟨r.id,b.node,b.what⟩) ({M with time:=b.due}.due b)/\Ke ({M with time:=b.due}.due b) from⟨T.1,T.2,mt⟩
 unfold En.due;rw[I];simp only;rcases FK.jP (S:={S with now:=b.due,tms:=E}) hR f9 with⟨e,e2⟩|⟨n,s,hs,hc⟩
 ·rw[e2]
  have hn:b.node=-1:=congrArg Pl.node e;rw[if_pos am];refine⟨Sim.endr Y hA d9 K (λy J d8=>O y J λe=>d8 (by rw[e])) I fh,f7.endr I (hA.endle Y) _⟩
 ·obtain⟨u,hu,rfl⟩:=EJ hs
  have t6:b.node=(n:Int):=by
   rcases hc with⟨e,_⟩|⟨e|e,_⟩<;>exact congrArg Pl.node e
  have f8:b.node.toNat=n:=am;obtain⟨nd,hnd,t8⟩:=ok.node (h.get hr) hs;have d7:r.fl.NO[n]?=some nd:=hnd;rw[if_neg am,f8,hu,d7];simp only;rcases hc with⟨e,h4,e2⟩|⟨e,h3,e2⟩
  ·have h4:u.state=4:=h4
   have e2:FK.En.due {S with now:=b.due,tms:=E} ⟨r.id,b.node,b.what⟩=FK.En.ready {S with now:=b.due,tms:=E} r.id n:=e2;rw[e2,if_pos h4];have t7:=hA.ready I hu am;refine⟨⟨t7,?_⟩,?_⟩
   ·rw[FK.kg (hA.get I) (gg hu)]
    refine d9.sub K (λp=>p≠⟨r.id,(n:Int),1⟩) (λy J=>⟨λh1=>?_,λh1=>O y J ?_⟩) (λp hp=>?_) (λp hp=>?_) (cx _)
    ·have:=hno y h1
     rwa [e]at this
    ·have e:(⟨r.id,b.node,b.what⟩:Pl)=_:=e
     rw[e];exact h1
    ·rw[rq hA I hu]
     split
     ·rename_i hq
      rw[qb hA I hu hq.1 hq.2]
      split
      ·by_cases h2:p.what=2
       ·unfold St.act
        simp[h2,h4]
       ·exact(ld (λe=>hp (Kv hq.1 hq.2 e)) h2).symm
      ·rfl
     ·rfl
    ·rw[rq hA I hu,if_pos]
     rw[Decidable.not_not.1 hp];exact⟨rfl,rfl⟩
   ·unfold Ke at *
    have:(En.ready {M with time:=b.due} b.run n r u).ids=En.ids {M with time:=b.due}:=mM (r':=r.setS n {u with state:=2}) I rfl rfl;rw[this];exact f7
  ·have h3:u.state=3:=h3
   have e2:FK.En.due {S with now:=b.due,tms:=E} ⟨r.id,b.node,b.what⟩=FK.En.failed {S with now:=b.due,tms:=E} r.id n:=e2;rw[e2,if_neg am];have hs:=Sim.fails Y hA I hu h3 d9 K (λy J hg=>O y J (by
    rcases e with e|e
    ·have e:(⟨r.id,b.node,b.what⟩:Pl)=_:=e
     rw[e];exact hg.1
    ·have e:(⟨r.id,b.node,b.what⟩:Pl)=_:=e
     rw[e];exact hg.2)) d7
   exact⟨hs,zU Y hA f7 I⟩
end
open FK (Pl KD)
structure Fine(M:En):Prop where
 runs:M.runs.length<=100
 fit:∀u∈M.runs,FK.Fit u.fl/\u.NN.length=u.fl.NO.length
 NM:∀u∈M.runs,∀s∈u.NN,0<=s.NM/\s.NM<=5
 NP:M.NP.length<=500
 seed:M.seed<18446744073709551616
 time:M.time<=4611686018427387904
 timers:M.timers<4611686018427387904
 ends:M.ends<4611686018427387904
def Sim.fine{M:En}(ok:FK.Ok S)(h:Sim S M)(O:M.timers<4611686018427387904)(T:S.ends<4611686018427387904):Fine M:=by
 have I:∀u∈M.runs,FK.RnOk S.ends u.ab:=λu E=>by
  obtain⟨i,hi⟩:=List.getElem?_of_mem E;exact ok.run _ _ (h.get hi)
 refine⟨?_,λu E=>⟨(I u E).fl,?_⟩,λu E s Y=>?_,?_,by rw[<-h.seed];exact ok.seed,by rw[<-h.now];exact ok.now,O,by rw[<-h.ends];exact T⟩
 ·have:=ok.six
  rw[h.runs,List.length_map]at this;omega
 ·have:=(I u E).len
  simpa[Rn.ab]using this
 ·obtain⟨k,hk⟩:=List.getElem?_of_mem Y
  have J:=gg hk;have hl:=(I u E).len;obtain⟨nd,hnd⟩:∃nd,u.ab.fl.NO[k]?=some nd:=⟨u.ab.fl.NO[k]'(by rw[<-hl];exact(gfGet.1 J).1),by simp⟩;have K:=(I u E).sp k _ nd J hnd;have h3:=(I u E).fl.NO k nd (gfGet.1 hnd).1 hnd;have h4:s.NM<=nd.NR:=K.trb;have h5:0<=s.NM:=K.tr0;have h6:=h3.1.2.1;omega
 ·have:=ok.queueLe
  rw[h.NP,List.length_map]at this;omega
inductive Ticks(up:Nat):Nat->En->En->Prop where
 |done {M:En}:Fine M->(∀b,M.first=some b->up<b.due)->Ticks up 0 M {M with time:=up}
 |step {n:Nat} {M U:En} {b:Ac}:Fine M->M.first=some b->b.due<=up->M.time<=b.due->b.run<M.runs.length->Ticks up n ({M with time:=b.due}.due b) U->Ticks up (n+1) M U
def JS{M:En}{b:Ac}(E:M.first=some b):∃r,M.runs[b.run]?=some r/\(b.node<0\/∃s,r.NN[b.node.toNat]?=some s):=by
 obtain⟨r,I,_,K,h3⟩:=acts_is.1 (((mC _ _).2 b E).1.resolve_left λe=>by cases e);refine⟨r,I,?_⟩
 by_cases J:b.node<0
 ·exact .inl J
 ·refine .inr ?_
  unfold Rn.act at h3;simp only at h3
  split at h3
  ·rw[if_neg am,if_pos am]at h3
   cases hs:r.NN[b.node.toNat]? with
   |none=>rw[hs]at h3;cases h3
   |some s=>exact⟨s,rfl⟩
  ·cases h3
def iA(M:En)(i:Nat):∀n,(M.wakeN i n).timers=M.timers
 |0=>rfl
 |n+1=>by
  rw[wakeN_succ];unfold En.wakeK
  split
  ·split
   ·split
    ·exact iA M i n
    ·exact iA M i n
   ·exact iA M i n
  ·exact iA M i n
def l5(M:En)(i:Nat):(M.settle i).timers=M.timers:=by
 unfold En.settle
 split
 ·split<;>rfl
 ·rfl
def vw(M:En)(b:Ac):(M.due b).timers<=M.timers+1:=by
 unfold En.due
 split
 ·split
  ·exact Nat.le_succ _
  ·split
   ·split
    ·exact Nat.le_succ _
    ·unfold En.fails
     split
     ·exact cx _
     ·rw[l5]
      exact Nat.le_succ _
   ·exact Nat.le_succ _
 ·exact Nat.le_succ _
def Sim.ticks(h:FK.Ticks i S U):∀{M:En},FK.Ok S->Sim S M->Ke M->M.timers+S.mass<4611686018427387904->S.ends+S.mass<4611686018427387904->∃n M',Ticks i n M M'/\Sim U M'/\Ke M'/\n<=S.mass:=by
 induction h with
 |@done S hd=>
  intro M ok h k ht he;refine⟨0,_,.done (h.fine ok am am) λb J=>?_,⟨⟨rfl,h.seed,h.lr,h.lt,h.ends,h.runs,h.NP,h.nd⟩,⟨λx hx=>Nat.le_of_lt (hd x hx),h.tm.nd,h.tm.mem,h.tm.ord,h.tm.le⟩⟩,k,Nat.zero_le _⟩;obtain⟨r,K,hr,I⟩:=xb h J;exact hd _ I.mem
 |@step S U x K I hx _ ih=>
  intro M ok h k ht he;obtain⟨b,J⟩:∃b,M.first=some b:=by
   cases hf:M.first with
   |some b=>exact⟨b,rfl⟩
   |none=>
    have:=(D9 h).1 hf;have Y:=I.mem;rw[this]at Y;cases Y
  obtain⟨r,d8,hr,d6⟩:=xb h J;obtain⟨e1,e2⟩:=I.unique d6;subst e1;subst e2;obtain⟨h1,Y,h3⟩:=h.due ok J hr I k;obtain⟨O,hno,R,hR,T⟩:=ok.pop I;have hl:=O.due_less hR T;have E:_<S.mass:=hl.mass;have d7:_<=S.ends+1:=hl.ends;have f7:=vw {M with time:=b.due} b;have d9:({M with time:=b.due}:En).timers=M.timers:=rfl;obtain⟨n,M',k1,k2,k3,k4⟩:=ih (O.due hR T hno) h1 Y (Nat.lt_of_le_of_lt (Nat.add_le_add_left (Nat.le_sub_one_of_lt E) _) am) (Nat.lt_of_le_of_lt (Nat.add_le_add d7 (Nat.le_sub_one_of_lt E)) am);exact⟨n+1,M',.step (h.fine ok am am) J hx h3 (gfGet.1 hr).1 k1,k2,k3,Nat.lt_of_le_of_lt k4 E⟩
def Ticks.timers{up n:Nat}{M U:En}(h:Ticks up n M U):U.timers<=M.timers+n:=by
 induction h with
 |done _ _=>exact cx _
 |@step n M U b _ _ _ _ _ _ E=>
  have:(En.due {M with time:=b.due} b).timers<=M.timers+1:=vw {M with time:=b.due} b;omega
structure Tmd where
 run:Nat
 node:Int
 due:Nat
 seq:Nat
def Ac.tmd(id:Nat)(a:Ac):Tmd:=⟨id,a.node,a.due,a.seq⟩
def Tmd.lt(a b:Tmd):Prop:=a.due<b.due\/a.due=b.due/\a.seq<b.seq
instance (a b:Tmd):Decidable (a.lt b):=by unfold Tmd.lt;infer_instance
def En.tmlN(M:En)(n:Nat):List Tmd:=(List.range n).flatMap λi=>match M.runs[i]? with|some r=>(r.acts i).map (Ac.tmd r.id)|none=>[]
def En.tml(M:En):List Tmd:=M.tmlN M.runs.length
def FV{M:En}{r:Rn}(hi:M.runs[i]?=some r):M.tmlN (i+1)=M.tmlN i++(r.acts i).map (Ac.tmd r.id):=by
 unfold En.tmlN;rw[List.range_succ,List.flatMap_append];simp[hi]
def eQ(l:List Tmd):Nat->Nat
 |0=>0
 |n+1=>match l[n]?,l[eQ l n]? with
  |some a,some b=>if a.lt b then n else eQ l n
  |_,_=>eQ l n
def oT(l:List Tmd):∀n,n<=l.length->0<l.length->eQ l n<l.length
 |0,_,h=>h
 |n+1,hn,h=>by
  unfold eQ
  split
  ·split
   ·omega
   ·exact oT l n am h
  ·exact oT l n am h
def Er(l:List Tmd):eQ l 1=0:=by
 unfold eQ
 split
 ·split
  ·rfl
  ·rfl
 ·rfl
def sg{l:List Tmd}{a b:Tmd}(E:l[n]?=some a)(I:l[eQ l n]?=some b):eQ l (n+1)=if a.lt b then n else eQ l n:=by
 rw[eQ,E,I]
def sel(l:List Tmd):Nat->List Tmd
 |0=>[]
 |n+1=>match l[eQ l l.length]? with
  |some t=>t::sel (l.eraseIdx (eQ l l.length)) n
  |none=>[]
def En.tms(M:En):List Tmd:=sel M.tml M.tml.length
def zA{l:List Tmd}{t:Tmd}(h:l[eQ l l.length]?=some t):sel l l.length=t::sel (l.eraseIdx (eQ l l.length)) (l.eraseIdx (eQ l l.length)).length:=by
 have I:=(gfGet.1 h).1;obtain⟨n,E⟩:∃n,l.length=n+1:=⟨l.length-1,am⟩;have J:(l.eraseIdx (eQ l l.length)).length=n:=by rw[List.length_eraseIdx_of_lt I];omega
 rw[J];rw[show sel l l.length=sel l (n+1) by rw[E]];simp only[sel,h]
open FK (Pl KD)
def j9(a:Tmd):¬a.lt a:=by unfold Tmd.lt;omega
def kR{a b c:Tmd}(h:a.lt b)(k:b.lt c):a.lt c:=by unfold Tmd.lt at *;omega
def vy{l:List Tmd}(K:0<l.length):∀n,n<=l.length->∀(j:Nat) (a b:Tmd),j<n->l[j]?=some a->l[eQ l n]?=some b->¬a.lt b
 |0,_,j,_,_,hj,_,_=>absurd hj (Nat.not_lt_zero _)
 |n+1,hn,j,a,b,hj,ha,hb=>by
  obtain⟨x,I⟩:∃x,l[n]?=some x:=⟨l[n],by simp⟩;obtain⟨y,J⟩:∃y,l[eQ l n]?=some y:=⟨l[eQ l n]'(oT l n am K),by simp⟩;have O:=λj a hj ha=>vy K n am j a y hj ha J;rw[sg I J]at hb
  split at hb
  ·rename_i E
   rw[I]at hb;injection hb with hb;subst hb;rcases Nat.lt_succ_iff_lt_or_eq.1 hj with hj|rfl
   ·exact λh=>O j a hj ha (kR h E)
   ·rw[I]at ha
    injection ha with ha;subst ha;exact j9 _
  ·rename_i E
   rw[J]at hb;injection hb with hb;subst hb;rcases Nat.lt_succ_iff_lt_or_eq.1 hj with hj|rfl
   ·exact O j a hj ha
   ·rw[I]at ha
    injection ha with ha;subst ha;exact E
def uh:∀(n:Nat) (l:List Tmd),l.length=n->(∀x,x∈sel l n<->x∈l)/\(l.Pairwise (λa b=>a.seq≠b.seq)->(sel l n).Pairwise Tmd.lt)
 |0,l,h=>by
  have:l=[]:=List.eq_nil_of_length_eq_zero h;subst this;exact⟨λx=>by simp[sel],λ_=>List.Pairwise.nil⟩
 |n+1,l,h=>by
  have hl:0<l.length:=am;have hb:=oT l l.length (cx _) hl;obtain⟨t,O⟩:∃t,l[eQ l l.length]?=some t:=⟨l[eQ l l.length],by simp⟩;have he:(l.eraseIdx (eQ l l.length)).length=n:=by rw[List.length_eraseIdx_of_lt hb];omega
  obtain⟨i1,i2⟩:=uh n _ he;have hs:=zA O;rw[he,h]at hs;rw[h]at O hb he i1 i2;have E:(l.eraseIdx (eQ l (n+1))).Sublist l:=List.eraseIdx_sublist _ _;refine⟨λx=>?_,λT=>?_⟩
  ·rw[hs,List.mem_cons,i1]
   constructor
   ·rintro(rfl|K)
    ·exact cg O
    ·exact E.subset K
   ·intro K
    exact FK.jO O K
  ·rw[hs,List.pairwise_cons]
   refine⟨λx K=>?_,i2 (T.sublist E)⟩;rw[i1]at K;obtain⟨j,Y⟩:=List.getElem?_of_mem K;rw[List.getElem?_eraseIdx]at Y;obtain⟨m,hm,d6⟩:∃m:Nat,l[m]?=some x/\m≠eQ l (n+1):=by
    split at Y
    ·exact⟨j,Y,am⟩
    ·exact⟨j+1,Y,am⟩
   have J:=(gfGet.1 hm).1;have h1:=vy hl l.length (cx _) m x t J hm (by rw[h];exact O);have h2:x.seq≠t.seq:=by
    rw[List.pairwise_iff_getElem]at T;have e1:=(gfGet.1 hm).2;have e2:=(gfGet.1 O).2;rcases Nat.lt_or_gt_of_ne d6 with I|I
    ·have:=T m _ J am I
     rw[e1,e2]at this;exact this
    ·have:=T _ m am J I
     rw[e1,e2]at this;exact this.symm
   unfold Tmd.lt at h1 ⊢;omega
def uW:∀{l m:List Tmd},l.Pairwise Tmd.lt->m.Pairwise Tmd.lt->(∀x,x∈l<->x∈m)->l=m
 | [],[],_,_,_=>rfl
 | [],b::m,_,_,h=>by have:=(h b).2 List.mem_cons_self;cases this
 |a::l,[],_,_,h=>by have:=(h a).1 List.mem_cons_self;cases this
 |a::l,b::m,hl,hm,h=>by
  rw[List.pairwise_cons]at hl hm;have K:a=b:=by
   rcases List.mem_cons.1 ((h a).1 List.mem_cons_self)with E|E
   ·exact E
   ·rcases List.mem_cons.1 ((h b).2 List.mem_cons_self)with J|J
    ·exact J.symm
    ·exact absurd (kR (hl.1 b J) (hm.1 a E)) (j9 a)
  subst K
  congr 1
  refine uW hl.2 hm.2 λx=>⟨λI=>?_,λI=>?_⟩
  ·rcases List.mem_cons.1 ((h x).1 (List.mem_cons_of_mem _ I))with E|E
   ·subst E;exact absurd (hl.1 _ I) (j9 _)
   ·exact E
  ·rcases List.mem_cons.1 ((h x).2 (List.mem_cons_of_mem _ I))with E|E
   ·subst E;exact absurd (hm.1 _ I) (j9 _)
   ·exact E
def zq(a b:Ac):Prop:=a.run≠b.run\/a.node≠b.node\/a.sign≠b.sign
def LZ(i:Nat)(l:List St)(n:Nat):(ll i l n).Pairwise zq:=by
 unfold ll;rw[List.pairwise_flatMap];refine⟨λk _=>?_,List.pairwise_lt_range.imp λ{k J} K x E y I=>?_⟩
 ·cases l[k]? with
  |none=>exact List.Pairwise.nil
  |some s=>
   show(St.acts i k s).Pairwise zq;unfold St.acts
   split<;>split<;>simp[zq]
 ·have O:x.node=(k:Int):=by
   cases hs:l[k]? with
   |none=>rw[hs]at E;cases E
   |some s=>rw[hs]at E;exact(st_acts.1 E).2.1
  have T:y.node=(J:Int):=by
   cases hs:l[J]? with
   |none=>rw[hs]at I;cases I
   |some s=>rw[hs]at I;exact(st_acts.1 I).2.1
  exact .inr (.inl am)
def nT{r:Rn}{a:Ac}(h:a∈r.acts i):a.run=i:=by
 unfold Rn.acts at h
 split at h
 ·rcases List.mem_cons.1 h with rfl|h
  ·rfl
  ·unfold ll at h
   rw[List.mem_flatMap]at h;obtain⟨k,_,hk⟩:=h;cases hs:r.NN[k]? with
   |none=>rw[hs]at hk;cases hk
   |some s=>rw[hs]at hk;exact(st_acts.1 hk).1
 ·cases h
def L3(i:Nat)(r:Rn):(r.acts i).Pairwise zq:=by
 unfold Rn.acts
 split
 ·rw[List.pairwise_cons]
  refine⟨λx E=>?_,LZ _ _ _⟩;unfold ll at E;rw[List.mem_flatMap]at E;obtain⟨k,_,hk⟩:=E;cases hs:r.NN[k]? with
  |none=>rw[hs]at hk;cases hk
  |some s=>
   rw[hs]at hk;have:=(st_acts.1 hk).2.1;exact .inr (.inl (by simp only;omega))
 ·exact List.Pairwise.nil
def Hr(M:En)(x:KD):Tmd:=⟨x.1.run,x.1.node,x.2,((M.act x.1).map (·.2)).getD 0⟩
section
variable{M:En}
def Ln{t:Tmd}:t∈M.tml<->∃a r,Is M a/\M.runs[a.run]?=some r/\t=a.tmd r.id:=by
 unfold En.tml En.tmlN;rw[List.mem_flatMap];constructor
 ·rintro⟨i,hi,h⟩
  rw[List.mem_range]at hi;obtain⟨r,I⟩:∃r,M.runs[i]?=some r:=⟨M.runs[i],by simp[hi]⟩;rw[I]at h;obtain⟨a,J,rfl⟩:=List.mem_map.1 h;have E:=nT J;refine⟨a,r,acts_is.1 ?_,by rw[E];exact I,rfl⟩;unfold En.acts En.actsN;rw[List.mem_flatMap];exact⟨i,List.mem_range.2 hi,by rw[I];exact J⟩
 ·rintro⟨a,r,J,I,rfl⟩
  have:=acts_is.2 J;unfold En.acts En.actsN at this;rw[List.mem_flatMap]at this;obtain⟨i,hi,h⟩:=this;cases hs:M.runs[i]? with
  |none=>rw[hs]at h;cases h
  |some u=>
   rw[hs]at h;have E:=nT h;subst E;rw[I]at hs;injection hs with hs;subst hs;exact⟨a.run,hi,by rw[I];exact List.mem_map_of_mem h⟩
def KM(h:Sim S M){t:Tmd}:t∈M.tml<->t∈S.tms.map (Hr M):=by
 rw[Ln,List.mem_map];constructor
 ·rintro⟨a,r,I,J,rfl⟩
  obtain⟨r',E,K,h3⟩:=I.tm h;rw[J]at E;injection E with E;subst E;refine⟨_,h3,?_⟩;unfold Hr Ac.tmd;simp[K]
 ·rintro⟨x,hx,rfl⟩
  obtain⟨a,I,O,T,r,J,Y⟩:=Hu h hx;refine⟨a,r,I,J,?_⟩;unfold Hr Ac.tmd;rw[T,Y,O]
  rfl
def MZ(h:Sim S M){y:KD}(hx:x∈S.tms)(hy:y∈S.tms)(K:x.1≠y.1):(Hr M x).seq≠(Hr M y).seq:=by
 obtain⟨i,hi⟩:=List.getElem?_of_mem hx;obtain⟨j,hj⟩:=List.getElem?_of_mem hy;obtain⟨I,e1⟩:=gfGet.1 hi;obtain⟨J,e2⟩:=gfGet.1 hj;obtain⟨s1,O⟩:=(h.tm.mem x.1 x.2).1 hx;obtain⟨T,Y⟩:=(h.tm.mem y.1 y.2).1 hy;have d6:i≠j:=λe=>by subst e;rw[e1]at e2;exact K (by rw[e2])
 have ho:=List.pairwise_iff_getElem.1 h.tm.ord;unfold Hr;rw[O,Y];show s1≠T;rcases Nat.lt_or_gt_of_ne d6 with E|E
 ·have:=ho i j I J E (x.2,s1) (y.2,T) (by rw[e1];exact O) (by rw[e2];exact Y)
  omega
 ·have:=ho j i J I E (y.2,T) (x.2,s1) (by rw[e2];exact Y) (by rw[e1];exact O)
  omega
def FU(h:Sim S M):M.tml.Pairwise λa b=>a.seq≠b.seq:=by
 have key:∀a b r u,Is M a->Is M b->M.runs[a.run]?=some r->M.runs[b.run]?=some u->zq a b->a.seq≠b.seq:=λa b r u I Y E hu d6=>by
  have d8:=I;have d9:=Y;obtain⟨r',K,h2,h3⟩:=I.tm h;obtain⟨u',O,k2,k3⟩:=Y.tm h;rw[E]at K;injection K with K;subst K;rw[hu]at O;injection O with O;subst O;have f7:(⟨r.id,a.node,a.what⟩:Pl)≠⟨u.id,b.node,b.what⟩:=λe=>by
   injection e with e1 e2 e3;have d7:=zf h.nd E hu e1;rcases d6 with J|J|J
   ·exact J d7
   ·exact J e2
   ·obtain⟨_,_,n1,_,_⟩:=d8
    obtain⟨_,_,n2,_,_⟩:=d9;unfold Ac.what at e3
    by_cases hn:a.node=-1
    ·exact J (by rw[n1 hn,n2 (by rw[<-e2];exact hn)])
    ·have f8:¬b.node=-1:=by rw[<-e2];exact hn
     rw[if_neg hn,if_neg f8]at e3;refine J ?_;cases ha1:a.sign<;>cases hb1:b.sign<;>rw[ha1,hb1]at e3<;>simp at e3 ⊢
  have:=MZ h h3 k3 f7;unfold Hr at this;rw[h2,k2]at this;exact this
 have T:∀i r a,M.runs[i]?=some r->a∈r.acts i->Is M a/\M.runs[a.run]?=some r:=λi r a E I=>by
  have f9:=nT I;refine⟨acts_is.1 ?_,by rw[f9];exact E⟩;unfold En.acts En.actsN;rw[List.mem_flatMap];exact⟨i,List.mem_range.2 (gfGet.1 E).1,by rw[E];exact I⟩
 unfold En.tml En.tmlN;rw[List.pairwise_flatMap];refine⟨λi _=>?_,List.pairwise_lt_range.imp λ{i j} mt x hx y hy=>?_⟩
 ·cases E:M.runs[i]? with
  |none=>exact List.Pairwise.nil
  |some r=>
   rw[List.pairwise_map];refine(L3 i r).imp_of_mem λ{a b} I Y d6=>?_;obtain⟨h1,h2⟩:=T i r a E I;obtain⟨h3,J⟩:=T i r b E Y;exact key a b r r h1 h3 h2 J d6
 ·cases E:M.runs[i]? with
  |none=>rw[E]at hx;cases hx
  |some r=>
   cases hu:M.runs[j]? with
   |none=>rw[hu]at hy;cases hy
   |some u=>
    rw[E]at hx;rw[hu]at hy;obtain⟨a,I,rfl⟩:=List.mem_map.1 hx;obtain⟨b,Y,rfl⟩:=List.mem_map.1 hy;obtain⟨h1,h2⟩:=T i r a E I;obtain⟨h3,J⟩:=T j u b hu Y;exact key a b r u h1 h3 h2 J (.inl (by rw[nT I,nT Y];omega))
end
structure Srt(X Y:List Tmd):Prop where
 perm:Y.Perm X
 srt:Y.Pairwise Tmd.lt
section
variable{A B l:List Tmd}
def zT(h:l.Pairwise Tmd.lt){z:Tmd}(J:∀x∈l.getLast?,x.lt z):∀x∈l,x.lt z:=λx E=>by
 rcases List.eq_nil_or_concat l with rfl|⟨m,y,rfl⟩
 ·cases E
 ·have I:y.lt z:=J y di
  rw[List.concat_eq_append]at h E;rw[List.pairwise_append]at h;rcases List.mem_append.1 E with E|E
  ·exact kR (h.2.2 x E y di) I
  ·rw[List.mem_singleton.1 E];exact I
def zX(h:l.Pairwise Tmd.lt){z:Tmd}(J:∀x∈l.head?,z.lt x):∀x∈l,z.lt x:=λx E=>by
 cases l with
 |nil=>cases E
 |cons y l=>
  have I:z.lt y:=J y di;rw[List.pairwise_cons]at h;rcases List.mem_cons.1 E with rfl|E
  ·exact I
  ·exact kR I (h.1 x E)
def xm{m:List Tmd}(E:l.Pairwise Tmd.lt)(I:m.Pairwise Tmd.lt)(h:∀x∈l.getLast?,∀y∈m.head?,x.lt y):∀x∈l,∀y∈m,x.lt y:=λx J y K=>by
 refine zX I (λz O=>?_) y K;exact zT E (λw hw=>h w hw z O) x J
def FW{J K O T Y1 Y2:List Tmd}(Y:(J++K).Pairwise Tmd.lt)(hR:(O++T).Pairwise Tmd.lt)(h1:∀x∈J.getLast?,∀y∈T.head?,x.lt y)(h2:∀x∈O.getLast?,∀y∈K.head?,x.lt y)(k1:Srt (J++O) Y1)(k2:Srt (K++T) Y2):Srt ((J++K)++(O++T)) (Y1++Y2):=by
 rw[List.pairwise_append]at Y hR;refine⟨?_,?_⟩
 ·refine(k1.perm.append k2.perm).trans ?_
  rw[List.append_assoc,List.append_assoc];refine List.Perm.append_left _ ?_;rw[<-List.append_assoc,<-List.append_assoc];exact List.Perm.append_right _ List.perm_append_comm
 ·rw[List.pairwise_append]
  refine⟨k1.srt,k2.srt,λx E y I=>?_⟩;rcases List.mem_append.1 (k1.perm.mem_iff.1 E)with E|E<;>rcases List.mem_append.1 (k2.perm.mem_iff.1 I)with I|I
  ·exact Y.2.2 x E y I
  ·exact xm Y.1 hR.2.1 h1 x E y I
  ·exact xm hR.1 Y.2.1 h2 x E y I
  ·exact hR.2.2 x E y I
def rP{x:Tmd}(J:A.Pairwise Tmd.lt)(K:B.Pairwise Tmd.lt)(E:∀a∈A,∀b∈B,a.lt b)(T:∀a∈A.getLast?,a.lt x)(Y:∀b∈B.head?,x.lt b):(A++x::B).Pairwise Tmd.lt:=by
 rw[List.pairwise_append,List.pairwise_cons];exact⟨J,⟨zX K Y,K⟩,λa O b I=>by
  rcases List.mem_cons.1 I with rfl|I
  ·exact zT J T a O
  ·exact E a O b I⟩
def Srt.refl{X:List Tmd}(h:X.Pairwise Tmd.lt):Srt X X:=⟨List.Perm.refl _,h⟩
def Srt.left{x:Tmd}(h:(A++B).Pairwise Tmd.lt)(E:∀a∈A.getLast?,a.lt x)(I:∀b∈B.head?,x.lt b):Srt (x::(A++B)) (A++x::B):=by
 rw[List.pairwise_append]at h;exact⟨List.perm_middle,rP h.1 h.2.1 h.2.2 E I⟩
def Srt.right{x:Tmd}(h:(A++B).Pairwise Tmd.lt)(E:∀a∈A.getLast?,a.lt x)(I:∀b∈B.head?,x.lt b):Srt ((A++B)++[x]) (A++x::B):=by
 rw[List.pairwise_append]at h;refine⟨?_,rP h.1 h.2.1 h.2.2 E I⟩;refine List.perm_middle.trans<|List.perm_append_comm (l₁:=[x])
end
section
variable{A B M P Q l:List Tmd}{m:Nat}{y:Tmd}
def xG{U V W:List Tmd}{x:Tmd}{p q:Nat}(E:U.length=p)(I:p+1+V.length=q):(U++x::(V++y::W))[p]?=some x/\(U++x::(V++y::W))[q]?=some y/\((U++x::(V++y::W)).set p y).set q x=U++y::(V++x::W):=by
 subst E;subst I;refine⟨by simp,?_,?_⟩
 ·rw[List.getElem?_append_right am,show U.length+1+V.length-U.length=V.length+1 by omega]
  simp
 ·rw[List.set_append_right _ _ (cx _),Nat.sub_self,List.set_cons_zero,List.set_append_right _ _ am,show U.length+1+V.length-U.length=V.length+1 by omega,List.set_cons_succ,List.set_append_right _ _ (cx _),Nat.sub_self,List.set_cons_zero]
def gK(P A M B Q:List Tmd)(i:Nat):List Tmd:=P++(B.take i++(A.drop i++(M++(A.take i++(B.drop i++Q)))))
def ym(P A M B Q:List Tmd):gK P A M B Q 0=P++(A++(M++(B++Q))):=by simp[gK]
theorem AR(h:A.length=B.length):gK P A M B Q A.length=P++(B++(M++(A++Q))):=by
 unfold gK;rw[List.drop_of_length_le (cx _),List.take_of_length_le (cx A.length),List.take_of_length_le (by omega:B.length<=A.length),List.drop_of_length_le (by omega:B.length<=A.length)];simp
def AQ(hi:i<=A.length)(h:A.length=B.length):(gK P A M B Q i).length=(P++(A++(M++(B++Q)))).length:=by
 simp only[gK,List.length_append,List.length_take,List.length_drop];omega
def yn{p q:Nat}{x:Tmd}(h:A.length=B.length)(E:A[i]?=some x)(I:B[i]?=some y)(hp:P.length+i=p)(hq:P.length+A.length+M.length+i=q) :
 (gK P A M B Q i)[p]?=some x/\(gK P A M B Q i)[q]?=some y/\((gK P A M B Q i).set p y).set q x=gK P A M B Q (i+1):=by
 obtain⟨hi,e1⟩:=gfGet.1 E;obtain⟨J,e2⟩:=gfGet.1 I;have K:A.drop i=x::A.drop (i+1):=by rw[List.drop_eq_getElem_cons hi,e1]
 have O:B.drop i=y::B.drop (i+1):=by rw[List.drop_eq_getElem_cons J,e2]
 have T:A.take (i+1)=A.take i++[x]:=by rw[List.take_add_one,E];rfl
 have Y:B.take (i+1)=B.take i++[y]:=by rw[List.take_add_one,I];rfl
 have k:=xG (U:=P++B.take i) (V:=A.drop (i+1)++(M++A.take i)) (W:=B.drop (i+1)++Q) (x:=x) (y:=y) (p:=p) (q:=q) (by rw[List.length_append,List.length_take];omega) (by simp only[List.length_append,List.length_take,List.length_drop];omega);have e3:gK P A M B Q i=(P++B.take i)++x::((A.drop (i+1)++(M++A.take i))++y::(B.drop (i+1)++Q)):=by
  unfold gK;rw[K,O];simp
 have e4:gK P A M B Q (i+1)=(P++B.take i)++y::((A.drop (i+1)++(M++A.take i))++x::(B.drop (i+1)++Q)):=by
  unfold gK;rw[T,Y];simp
 rw[e3,e4];exact k
def part_at(h:l.length=n)(hk:k<=n):∃A B,l=A++B/\A.length=k/\B.length=n-k:=
 ⟨l.take k,l.drop k,(List.take_append_drop k l).symm,by rw[List.length_take];omega,by rw[List.length_drop];omega⟩
def Rot(l:List Tmd)(m i j:Nat)(fin:List Tmd):Prop:=∃P X Y Q,l=P++(X++(Y++Q))/\P.length+i=m/\X.length=i/\Y.length=j/\fin=P++(Y++(X++Q))
def Rot.right{fin:List Tmd}(h:Rot l m i j fin)(E:j<i):∃P A M B Q,l=P++(A++(M++(B++Q)))/\P.length+i=m/\A.length=j/\B.length=j/\M.length+j=i/\Rot (P++(B++(M++(A++Q)))) m (i-j) j fin:=by
 obtain⟨P,X,Y,Q,e1,e2,e3,e4,K⟩:=h;obtain⟨A,M,I,J,O⟩:=part_at e3 (Nat.le_of_lt E);refine⟨P,A,M,Y,Q,by rw[e1,I];simp,e2,J,e4,am,P++Y,M,A,Q,by simp,by simp;omega,O,J,by rw[K,I];simp⟩
def Rot.left{fin:List Tmd}(h:Rot l m i j fin)(I:i<j):∃P A M B Q,l=P++(A++(M++(B++Q)))/\P.length+i=m/\A.length=i/\B.length=i/\M.length+i=j/\Rot (P++(B++(M++(A++Q)))) m i (j-i) fin:=by
 obtain⟨P,X,Y,Q,e1,e2,e3,e4,J⟩:=h;obtain⟨M,B,E,K,O⟩:=part_at e4 (Nat.sub_le j i);refine⟨P,X,M,B,Q,by rw[e1,E];simp,e2,e3,am,am,P,B,M,X++Q,by simp,e2,am,am,by rw[J,E];simp⟩
def Rot.same{fin:List Tmd}(h:Rot l m i i fin):∃P A B Q,l=P++(A++(B++Q))/\P.length+i=m/\A.length=i/\B.length=i/\fin=P++(B++(A++Q)):=h
def Rot.len{fin:List Tmd}(h:Rot l m i j fin):m+j<=l.length/\fin.length=l.length:=by
 obtain⟨P,X,Y,Q,e1,e2,e3,e4,E⟩:=h;rw[e1,E];simp only[List.length_append];omega
def xS(X Y:List Tmd):Prop:=∀x∈X,∀y∈Y,x.seq<y.seq
def kP{x:Tmd}(h:x.seq<y.seq)(k:x.due<=y.due):x.lt y:=by unfold Tmd.lt;omega
end
structure InsI(P X Q:List Tmd)(k:Nat)(l:List Tmd):Prop where
 ex:∃Y,l=P++(Y++(X.drop k++Q))/\Srt (X.take k) Y
def InsI.first(P X Q:List Tmd):InsI P X Q 1 (P++(X++Q)):=⟨X.take 1,by rw[<-List.append_assoc (X.take 1),List.take_append_drop],Srt.refl (by cases X<;>simp)⟩
def InsI.fin{P X Q l:List Tmd}(h:InsI P X Q k l)(hk:X.length<=k):∃Y,l=P++(Y++Q)/\Srt X Y:=by
 obtain⟨Y,e,s⟩:=h.ex;rw[List.drop_of_length_le hk,List.nil_append]at e;rw[List.take_of_length_le hk]at s;exact⟨Y,e,s⟩
structure InsJ(P X Q:List Tmd)(k j:Nat)(x:Tmd)(l:List Tmd):Prop where
 ex:∃A B,l=P++(A++x::(B++(X.drop (k+1)++Q)))/\Srt (X.take k) (A++B)/\P.length+A.length=j/\∀b∈B.head?,x.lt b
section
variable{P Q X l:List Tmd}
def InsI.start{x:Tmd}(h:InsI P X Q k l)(E:X[k]?=some x):InsJ P X Q k (P.length+k) x l:=by
 obtain⟨Y,e,s⟩:=h.ex;obtain⟨hk,e1⟩:=gfGet.1 E;refine⟨Y,[],?_,by simpa using s,?_,by simp⟩
 ·rw[e,List.drop_eq_getElem_cons hk,e1];simp
 ·have:=s.perm.length_eq
  rw[List.length_take]at this;omega
def InsJ.len{x:Tmd}(h:InsJ P X Q k j x l)(E:X[k]?=some x):l.length=(P++(X++Q)).length/\P.length<=j/\j<=P.length+k:=by
 obtain⟨A,B,e,s,I,J⟩:=h.ex;have hk:=(gfGet.1 E).1;have:=s.perm.length_eq;rw[e];simp only[List.length_append,List.length_cons,List.length_take,List.length_drop]at this ⊢;omega
def InsJ.at{P X Q l:List Tmd}{k j:Nat}{x:Tmd}(h:InsJ P X Q k j x l):l[j]?=some x/\(P.length<j->∃z,l[j-1]?=some z/\z∈X.take k/\(x.due<z.due->InsJ P X Q k (j-1) x ((l.set j z).set (j-1) x))):=by
 obtain⟨A,B,e,s,I,E⟩:=h.ex;refine⟨?_,λO=>?_⟩
 ·rw[e,<-List.append_assoc,List.getElem?_append_right (by simp;omega)]
  simp[I]
 ·rcases List.eq_nil_or_concat A with rfl|⟨A',z,rfl⟩
  ·simp at I;omega
  ·rw[List.concat_eq_append]at *
   have hl:P.length+A'.length+1=j:=by simp at I;omega
   have e2:l=(P++A')++z::([]++x::(B++(X.drop (k+1)++Q))):=by rw[e];simp
   obtain⟨J,Y,K⟩:=xG (U:=P++A') (V:=[]) (W:=B++(X.drop (k+1)++Q)) (x:=z) (y:=x) (p:=j-1) (q:=j) (by simp;omega) (by simp;omega);rw[<-e2]at J Y K;refine⟨z,J,s.perm.mem_iff.1 di,λT=>⟨A',z::B,?_,by simpa using s,am,λb E=>?_⟩⟩
   ·rw[List.set_comm _ _ am,K];simp
   ·simp at E;subst E;exact .inl T
def InsJ.fin{x:Tmd}(h:InsJ P X Q k j x l)(K:X[k]?=some x)(O:X.Pairwise λa b=>a.seq<b.seq)(T:P.length<j->∀z,l[j-1]?=some z->¬x.due<z.due):InsI P X Q (k+1) l:=by
 obtain⟨A,B,e,s,I,Y⟩:=h.ex;refine⟨A++x::B,by rw[e];simp,?_⟩;rw[List.take_add_one,K];have hA:∀a∈A.getLast?,a.lt x:=λa E=>by
  rcases List.eq_nil_or_concat A with rfl|⟨A',z,rfl⟩
  ·cases E
  ·rw[List.concat_eq_append]at *
   simp at E;subst E;have hm:z∈X.take k:=s.perm.mem_iff.1 di;have e2:l=(P++A')++z::(x::(B++(X.drop (k+1)++Q))):=by rw[e];simp
   have:=T (by simp at I;omega) z (by rw[e2,List.getElem?_append_right (by simp at I ⊢;omega)];simp at I;simp[show j-1-(P.length+A'.length)=0 by omega]);obtain⟨i,hi⟩:=List.getElem?_of_mem hm;rw[List.getElem?_take]at hi
   split at hi
   ·rename_i J
    obtain⟨h1,h2⟩:=gfGet.1 hi;obtain⟨h3,h4⟩:=gfGet.1 K;have:=List.pairwise_iff_getElem.1 O i k h1 h3 J;rw[h2,h4]at this;exact kP this am
   ·cases hi
 have r:=Srt.right s.srt hA Y;exact⟨r.perm.trans (List.Perm.append_right _ s.perm),r.srt⟩
end
structure Mrg(P L R Q l:List Tmd)(a m b:Nat):Prop where
 is:l=P++(L++(R++Q))
 hP:P.length=a
 hL:a+L.length=m
 hR:m+R.length=b
 sL:L.Pairwise Tmd.lt
 sR:R.Pairwise Tmd.lt
 bf:xS L R
section
variable{L P Q R l:List Tmd}{b m:Nat}{y:Tmd}
def Mrg.len(h:Mrg P L R Q l a m b):b<=l.length:=by
 obtain⟨e,E,I,h3,_⟩:=h;rw[e];simp only[List.length_append];omega
def Mrg.left(h:Mrg P L R Q l a m b)(I:a<=i)(J:i<m):∃x,l[i]?=some x/\L[i-a]?=some x:=by
 obtain⟨e,E,K,O,_⟩:=h;refine⟨L[i-a]'am,?_,by simp⟩;rw[e,List.getElem?_append_right am,List.getElem?_append_left am,E];simp
def Mrg.right(h:Mrg P L R Q l a m b)(I:m<=i)(J:i<b):∃x,l[i]?=some x/\R[i-m]?=some x:=by
 obtain⟨e,E,K,O,_⟩:=h;refine⟨R[i-m]'am,?_,by simp⟩;rw[e,List.getElem?_append_right am,List.getElem?_append_right am,List.getElem?_append_left am,E,show i-a-L.length=i-m by omega];simp
def pY{x:Tmd}(h:x∈l.head?):l[0]?=some x:=by cases l<;>simp_all
def pX{x:Tmd}(h:x∈l.getLast?):l[l.length-1]?=some x:=by rw[<-List.getLast?_eq_getElem?];exact h
def It{x:Tmd}(h:x.lt y):x.due<=y.due:=by unfold Tmd.lt at h;omega
def Cx(h:xS L R){x:Tmd}(E:L[i]?=some x)(I:R[j]?=some y):x.seq<y.seq:=h x (cg E) y (cg I)
def im(h:L.Pairwise Tmd.lt){x:Tmd}(K:L[i]?=some x)(E:L[j]?=some y)(I:i<=j):x.due<=y.due:=by
 obtain⟨O,e1⟩:=gfGet.1 K;obtain⟨T,e2⟩:=gfGet.1 E;rcases Nat.lt_or_eq_of_le I with J|rfl
 ·have:=List.pairwise_iff_getElem.1 h i j O T J
  rw[e1,e2]at this;exact It this
 ·rw[K]at E
  injection E with E;rw[E];exact cx _
end
structure Put1(P R Q l:List Tmd)(x:Tmd)(a b i j:Nat):Prop where
 i1:a+1<=i
 i2:i<=j
 i3:j<=b
 lo:∀k y,a+1<=k->k<i->l[k]?=some y->y.due<x.due
 hi:∀k y,j<=k->k<b->l[k]?=some y->x.due<=y.due
section
variable{P Q R l:List Tmd}{b:Nat}
def Put1.init{x:Tmd}(h:a+1<=b):Put1 P R Q l x a b (a+1) b:=⟨cx _,h,cx _,λk y E I=>by omega,λk y E I=>by omega⟩
def Put1.up{x:Tmd}{h:Nat}(m:Mrg P [x] R Q l a (a+1) b)(p:Put1 P R Q l x a b i j)(T:i<=h)(E:h<j){y:Tmd}(I:l[h]?=some y)(Y:y.due<x.due):Put1 P R Q l x a b (h+1) j:=by
 obtain⟨p1,p2,p3,p4,O⟩:=p;refine⟨am,E,p3,λk z J k2 K=>?_,O⟩;obtain⟨z',e1,e2⟩:=m.right J (by omega:k<b);obtain⟨y',e3,e4⟩:=m.right (by omega:a+1<=h) (by omega:h<b);rw[K]at e1;injection e1 with e1;subst e1;rw[I]at e3;injection e3 with e3;subst e3;have:=im m.sR e2 e4 am;omega
def Put1.down{x:Tmd}{h:Nat}(m:Mrg P [x] R Q l a (a+1) b)(p:Put1 P R Q l x a b i j)(E:i<=h)(T:h<j){y:Tmd}(I:l[h]?=some y)(Y:¬y.due<x.due):Put1 P R Q l x a b i h:=by
 obtain⟨p1,p2,p3,O,p5⟩:=p;refine⟨p1,E,am,O,λk z k1 J K=>?_⟩;obtain⟨z',e1,e2⟩:=m.right (by omega:a+1<=k) J;obtain⟨y',e3,e4⟩:=m.right (by omega:a+1<=h) (by omega:h<b);rw[K]at e1;injection e1 with e1;subst e1;rw[I]at e3;injection e3 with e3;subst e3;have:=im m.sR e4 e2 am;omega
def Put1.fin{x:Tmd}(m:Mrg P [x] R Q l a (a+1) b)(p:Put1 P R Q l x a b i i):∃A B,R=A++B/\a+1+A.length=i/\Srt ([x]++R) (A++x::B):=by
 obtain⟨p1,p2,p3,K,O⟩:=p;have hR:=m.hR;obtain⟨A,B,e,Y,h2⟩:=part_at (l:=R) (k:=i-(a+1)) rfl am;refine⟨A,B,e,am,?_⟩;have I:=m.sR;rw[e]at I ⊢;refine Srt.left I (λz E=>?_) λz E=>?_
 ·have g:=pX E
  have T:A≠[]:=λh=>by rw[h]at E;cases E
  have J:0<A.length:=List.length_pos_iff.2 T;obtain⟨y,e1,e2⟩:=m.right (i:=i-1) am am;have:R[i-1-(a+1)]?=some z:=by rw[e,List.getElem?_append_left am,show i-1-(a+1)=A.length-1 by omega];exact g
  rw[e2]at this;injection this with this;subst this;exact .inl (K _ _ am am e1)
 ·have g:=pY E
  have hB:=(gfGet.1 g).1;obtain⟨y,e1,e2⟩:=m.right (i:=i) am am;have:R[i-(a+1)]?=some z:=by rw[e,List.getElem?_append_right am,show i-(a+1)-A.length=0 by omega];exact g
  rw[e2]at this;injection this with this;subst this;exact kP (Cx m.bf (i:=0) rfl e2) (O _ _ (cx _) am e1)
end
structure Put2(P L Q l:List Tmd)(x:Tmd)(a m i j:Nat):Prop where
 i1:a<=i
 i2:i<=j
 i3:j<=m
 lo:∀k y,a<=k->k<i->l[k]?=some y->y.due<=x.due
 hi:∀k y,j<=k->k<m->l[k]?=some y->x.due<y.due
section
variable{L P Q l:List Tmd}{m:Nat}
def Put2.init{x:Tmd}(h:a<=m):Put2 P L Q l x a m a m:=⟨cx _,h,cx _,λk y E I=>by omega,λk y E I=>by omega⟩
def Put2.up{x:Tmd}{h:Nat}(mm:Mrg P L [x] Q l a m (m+1))(p:Put2 P L Q l x a m i j)(T:i<=h)(E:h<j){y:Tmd}(I:l[h]?=some y)(Y:¬x.due<y.due):Put2 P L Q l x a m (h+1) j:=by
 obtain⟨p1,p2,p3,p4,O⟩:=p;refine⟨am,E,p3,λk z J k2 K=>?_,O⟩;obtain⟨z',e1,e2⟩:=mm.left J (by omega:k<m);obtain⟨y',e3,e4⟩:=mm.left (by omega:a<=h) (by omega:h<m);rw[K]at e1;injection e1 with e1;subst e1;rw[I]at e3;injection e3 with e3;subst e3;have:=im mm.sL e2 e4 am;omega
def Put2.down{x:Tmd}{h:Nat}(mm:Mrg P L [x] Q l a m (m+1))(p:Put2 P L Q l x a m i j)(E:i<=h)(T:h<j){y:Tmd}(I:l[h]?=some y)(Y:x.due<y.due):Put2 P L Q l x a m i h:=by
 obtain⟨p1,p2,p3,O,p5⟩:=p;refine⟨p1,E,am,O,λk z k1 J K=>?_⟩;obtain⟨z',e1,e2⟩:=mm.left (by omega:a<=k) J;obtain⟨y',e3,e4⟩:=mm.left (by omega:a<=h) (by omega:h<m);rw[K]at e1;injection e1 with e1;subst e1;rw[I]at e3;injection e3 with e3;subst e3;have:=im mm.sL e4 e2 am;omega
def Put2.fin{x:Tmd}(mm:Mrg P L [x] Q l a m (m+1))(p:Put2 P L Q l x a m i i):∃A B,L=A++B/\a+A.length=i/\Srt (L++[x]) (A++x::B):=by
 obtain⟨p1,p2,p3,O,T⟩:=p;have hL:=mm.hL;obtain⟨A,B,e,h1,h2⟩:=part_at (l:=L) (k:=i-a) rfl am;refine⟨A,B,e,am,?_⟩;have J:=mm.sL;have I:=mm.bf;rw[e]at J ⊢;refine Srt.right J (λz E=>?_) λz E=>?_
 ·have g:=pX E
  have Y:A≠[]:=λh=>by rw[h]at E;cases E
  have K:0<A.length:=List.length_pos_iff.2 Y;obtain⟨y,e1,e2⟩:=mm.left (i:=i-1) am am;have:L[i-1-a]?=some z:=by rw[e,List.getElem?_append_left am,show i-1-a=A.length-1 by omega];exact g
  rw[e2]at this;injection this with this;subst this;exact kP (Cx I e2 (j:=0) rfl) (O _ _ am am e1)
 ·have g:=pY E
  have hB:=(gfGet.1 g).1;obtain⟨y,e1,e2⟩:=mm.left (i:=i) am am;have:L[i-a]?=some z:=by rw[e,List.getElem?_append_right am,show i-a-A.length=0 by omega];exact g
  rw[e2]at this;injection this with this;subst this;exact .inl (T _ _ (cx _) am e1)
end
structure Cut(l:List Tmd)(a m b d s r:Nat):Prop where
 s1:a<=s
 s2:d<=s+b
 s3:s<=r
 s4:r<=m
 s5:r+m<=d
 lo:∀k x y,a<=k->d<=k+b->k<s->l[k]?=some x->l[d-1-k]?=some y->x.due<=y.due
 hi:∀k x y,r<=k->k<m->k+m<d->l[k]?=some x->l[d-1-k]?=some y->y.due<x.due
section
variable{L P Q R l:List Tmd}{b d h m r s:Nat}
def Cut.init(E:a<=s)(I:d<=s+b)(h3:s<=r)(J:r<=m)(K:r+m<=d)(h6:s=a\/d=s+b)(h7:r=m\/r+m=d):Cut l a m b d s r:=
 ⟨E,I,h3,J,K,λk x y O T Y=>by omega,λk x y O T Y=>by omega⟩
def Cut.pair(mm:Mrg P L R Q l a m b)(c:Cut l a m b d s r)(E:s<=h)(I:h<r):∃x y,l[h]?=some x/\l[d-1-h]?=some y/\L[h-a]?=some x/\R[d-1-h-m]?=some y:=by
 obtain⟨J,K,O,T,Y,_,_⟩:=c;obtain⟨x,e1,e2⟩:=mm.left (i:=h) am am;obtain⟨y,e3,e4⟩:=mm.right (i:=d-1-h) am am;exact⟨x,y,e1,e3,e2,e4⟩
def Cut.up(mm:Mrg P L R Q l a m b)(c:Cut l a m b d s r)(K:s<=h)(J:h<r){x y:Tmd}(O:l[h]?=some x)(T:l[d-1-h]?=some y)(hd:¬y.due<x.due):Cut l a m b d (h+1) r:=by
 obtain⟨x',y',e1,e2,e3,e4⟩:=c.pair mm K J;obtain⟨c1,c2,c3,c4,c5,c6,c7⟩:=c;rw[O]at e1;injection e1 with e1;subst e1;rw[T]at e2;injection e2 with e2;subst e2;refine⟨am,am,J,c4,c5,λk u v Y k2 k3 hu hv=>?_,c7⟩;obtain⟨u',E,f2⟩:=mm.left Y (by omega:k<m);obtain⟨v',I,f4⟩:=mm.right (i:=d-1-k) am am;rw[hu]at E;injection E with E;subst E;rw[hv]at I;injection I with I;subst I;have g1:=im mm.sL f2 e3 am;have g2:=im mm.sR e4 f4 am;omega
def Cut.down(mm:Mrg P L R Q l a m b)(c:Cut l a m b d s r)(J:s<=h)(K:h<r){x y:Tmd}(O:l[h]?=some x)(T:l[d-1-h]?=some y)(hd:y.due<x.due):Cut l a m b d s h:=by
 obtain⟨x',y',e1,e2,e3,e4⟩:=c.pair mm J K;obtain⟨c1,c2,c3,c4,c5,c6,c7⟩:=c;rw[O]at e1;injection e1 with e1;subst e1;rw[T]at e2;injection e2 with e2;subst e2;refine⟨c1,c2,J,am,am,c6,λk u v k1 Y k3 hu hv=>?_⟩;obtain⟨u',E,f2⟩:=mm.left (i:=k) am Y;obtain⟨v',I,f4⟩:=mm.right (i:=d-1-k) am am;rw[hu]at E;injection E with E;subst E;rw[hv]at I;injection I with I;subst I;have g1:=im mm.sL e3 f2 am;have g2:=im mm.sR f4 e4 am;omega
end
structure Halves(P L R Q l:List Tmd)(a m b s e:Nat)(L1 L2 R1 R2:List Tmd):Prop where
 eL:L=L1++L2
 eR:R=R1++R2
 h1:a+L1.length=s
 h2:m+R1.length=e
 h3:s+L2.length=m
 h4:e+R2.length=b
 join:∀Y1 Y2,Srt (L1++R1) Y1->Srt (L2++R2) Y2->Srt (L++R) (Y1++Y2)
def Cut.fin{P L R Q l:List Tmd}{m b d s:Nat}(mm:Mrg P L R Q l a m b)(c:Cut l a m b d s s):∃J L2 K R2,Halves P L R Q l a m b s (d-s) J L2 K R2:=by
 obtain⟨c1,c2,c3,c4,c5,c6,c7⟩:=c;have hL:=mm.hL;have hR:=mm.hR;obtain⟨J,L2,O,l1,l2⟩:=part_at (l:=L) (k:=s-a) rfl am;obtain⟨K,R2,T,r1,r2⟩:=part_at (l:=R) (k:=d-s-m) rfl am;refine⟨J,L2,K,R2,O,T,am,am,am,am,λY1 Y2 k1 k2=>?_⟩;have sL:=mm.sL;have sR:=mm.sR;have bf:=mm.bf;have key:Srt ((J++L2)++(K++R2)) (Y1++Y2):=by
  refine FW (O▸sL) (T▸sR) (λx hx y hy=>?_) (λx hx y hy=>?_) k1 k2
  ·have Y:=pX hx
   have g2:=pY hy;have n1:=(gfGet.1 Y).1;have n2:=(gfGet.1 g2).1;obtain⟨x',e1,e2⟩:=mm.left (i:=s-1) am am;obtain⟨y',e3,e4⟩:=mm.right (i:=d-1-(s-1)) am am;have E:L[s-1-a]?=some x:=by rw[O,List.getElem?_append_left am,show s-1-a=J.length-1 by omega];exact Y
   have I:R[d-1-(s-1)-m]?=some y:=by rw[T,List.getElem?_append_right am,show d-1-(s-1)-m-K.length=0 by omega];exact g2
   rw[e2]at E;injection E with E;subst E;rw[e4]at I;injection I with I;subst I;exact kP (Cx bf e2 e4) (c6 _ _ _ am am am e1 e3)
  ·have Y:=pX hx
   have g2:=pY hy;have n1:=(gfGet.1 Y).1;have n2:=(gfGet.1 g2).1;obtain⟨y',e1,e2⟩:=mm.left (i:=s) am am;obtain⟨x',e3,e4⟩:=mm.right (i:=d-1-s) am am;have E:L[s-a]?=some y:=by rw[O,List.getElem?_append_right am,show s-a-J.length=0 by omega];exact g2
   have I:R[d-1-s-m]?=some x:=by rw[T,List.getElem?_append_left am,show d-1-s-m=K.length-1 by omega];exact Y
   rw[e2]at E;injection E with E;subst E;rw[e4]at I;injection I with I;subst I;exact .inl (c7 _ _ _ (cx _) am am e1 e3)
 rw[O,T];exact key
inductive Blk(n:Nat):List Tmd->List Tmd->Prop where
 |short {X Y:List Tmd}:X.length<=n->Srt X Y->Blk n X Y
 |more {X Y X' Y':List Tmd}:X.length=n->Srt X Y->Blk n X' Y'->Blk n (X++X') (Y++Y')
def Srt.len{X Y:List Tmd}(h:Srt X Y):Y.length=X.length:=h.perm.length_eq
def Srt.nil:Srt [] []:=⟨List.Perm.refl _,List.Pairwise.nil⟩
def Blk.perm{n:Nat}{X Y:List Tmd}(h:Blk n X Y):Y.Perm X:=by
 induction h with
 |short _ h=>exact h.perm
 |more _ h _ E=>exact h.perm.append E
def Blk.part{X Y:List Tmd}(h:Blk n X Y)(E:n<=X.length):∃A B C D,X=A++B/\Y=C++D/\A.length=n/\Srt A C/\Blk n B D:=by
 cases h with
 |short h k=>exact⟨X,[],Y,[],by simp,by simp,am,k,.short di Srt.nil⟩
 |@more A C B D h k b=>exact⟨A,B,C,D,rfl,rfl,h,k,b⟩
def Blk.all{X Y:List Tmd}(h:Blk n X Y)(E:X.length<=n):Srt X Y:=by
 cases h with
 |short h k=>exact k
 |@more A C B D h k b=>
  simp at E;obtain rfl:B=[]:=List.eq_nil_of_length_eq_zero am;obtain rfl:D=[]:=List.eq_nil_of_length_eq_zero (by have:=b.perm.length_eq;simpa using this);simpa using k
structure BlkTo(n:Nat)(X l:List Tmd)(a:Nat)(U V:List Tmd):Prop where
 ex:∃A Z,X=A++U/\l=Z++V/\A.length=a/\Z.length=a/\∀U' V',Blk n U' V'->Blk n (A++U') (Z++V')
def BlkTo.init(n:Nat)(X l:List Tmd):BlkTo n X l 0 X l:=⟨[],[],rfl,rfl,rfl,rfl,λ_ _ h=>h⟩
def BlkTo.fin{X l U V:List Tmd}(h:BlkTo n X l a U V)(k:Blk n U V):Blk n X l:=by
 obtain⟨A,Z,e1,e2,_,_,h⟩:=h.ex;rw[e1,e2];exact h _ _ k
def BlkTo.more{n a:Nat}{X l U V C D Y W:List Tmd}(h:BlkTo n X l a U V)(I:U=C++D)(J:C.length=n)(E:Srt C Y):BlkTo n X (l.take a++(Y++W)) (a+n) D W:=by
 obtain⟨A,Z,e1,e2,T,h2,h⟩:=h.ex;refine⟨A++C,Z++Y,by rw[e1,I];simp,?_,by simp;omega,by rw[List.length_append,E.len];omega,λK O k=>?_⟩
 ·rw[e2,List.take_append_of_le_length am,List.take_of_length_le am];simp
 ·rw[List.append_assoc,List.append_assoc]
  exact h _ _ (.more J E k)
abbrev Seqs(X:List Tmd):Prop:=X.Pairwise λx y=>x.seq<y.seq
section
variable{A B C D U V X Y l:List Tmd}
def Srt.before(h:Srt A C)(k:Srt B D)(E:xS A B):xS C D:=λx I y J=>E x (h.perm.mem_iff.1 I) y (k.perm.mem_iff.1 J)
def Srt.both(h:Srt A C)(k:Srt B D)(y:Srt (C++D) Y):Srt (A++B) Y:=⟨y.perm.trans (h.perm.append k.perm),y.srt⟩
def Blk.len(h:Blk n X Y):Y.length=X.length:=h.perm.length_eq
def BlkTo.ins(h:BlkTo n X l a U U)(E:Seqs X)(J:a+n<=l.length):∃P I Q,l=P++(I++Q)/\P.length=a/\a+I.length=a+n/\Seqs I/\∀Y,Srt I Y->BlkTo n X (P++(Y++Q)) (a+n) Q Q:=by
 obtain⟨A,Z,e1,e2,h1,O,k⟩:=h.ex;have T:n<=U.length:=by rw[e2,List.length_append]at J;omega
 obtain⟨I,Q,e3,e4,e5⟩:=part_at (l:=U) (k:=n) rfl T;refine⟨Z,I,Q,by rw[e2,e3],O,am,?_,λY K=>?_⟩
 ·rw[e1,e3]at E
  exact(List.pairwise_append.1 (List.pairwise_append.1 E).2.1).1
 ·have:=h.more (W:=Q) e3 e4 K
  rw[e2,List.take_append_of_le_length am,List.take_of_length_le am]at this;exact this
def BlkTo.insLast(h:BlkTo n X l a U U)(E:Seqs X)(J:l.length<a+n):∃P I,l=P++(I++[])/\P.length=a/\a+I.length=l.length/\Seqs I/\∀Y,Srt I Y->Blk n X (P++(Y++[])):=by
 obtain⟨A,Z,e1,e2,T,O,k⟩:=h.ex;rw[e2,List.length_append]at J;refine⟨Z,U,by rw[e2];simp,O,by rw[e2,List.length_append];omega,?_,λY K=>?_⟩
 ·rw[e1]at E
  exact(List.pairwise_append.1 E).2.1
 ·rw[e1,List.append_nil]
  exact k _ _ (.short am K)
def BlkTo.pair(h:BlkTo (2*n) X l a U V)(k:Blk n U V)(hs:Seqs X)(hl:a+2*n<=l.length):∃P L R Q U',Mrg P L R Q l a (a+n) (a+2*n)/\Blk n U' Q/\∀Y,Srt (L++R) Y->BlkTo (2*n) X (P++(Y++Q)) (a+2*n) U' Q:=by
 obtain⟨A,Z,e1,e2,h1,h2,_⟩:=h.ex;have hV:=k.len;have E:=hl;rw[e2,List.length_append]at E;obtain⟨A1,B1,C1,D1,K,O,f3,I,f5⟩:=k.part am;have d6:=I.len;rw[K,O,List.length_append,List.length_append]at hV;rw[O,List.length_append]at E;obtain⟨A2,B2,C2,D2,g1,g2,g3,J,g5⟩:=f5.part am;have d7:=J.len;rw[e1,K,g1]at hs;have T:=(List.pairwise_append.1 hs).2.1;refine⟨Z,C1,C2,D2,B2,⟨by rw[e2,O,g2],h2,am,am,I.srt,J.srt,I.before J λx hx y hy=>(List.pairwise_append.1 T).2.2 x hx y (List.mem_append_left _ hy)⟩,g5,λY hY=>?_⟩;have:=h.more (C:=A1++A2) (D:=B2) (W:=D2) (by rw[K,g1];simp) (by simp;omega) (I.both J hY);rw[e2,List.take_append_of_le_length am,List.take_of_length_le am]at this;exact this
def BlkTo.pairLast(h:BlkTo (2*n) X l a U V)(k:Blk n U V)(T:Seqs X)(h1:l.length<a+2*n)(h2:a+n<l.length):∃P L R,Mrg P L R [] l a (a+n) l.length/\∀Y,Srt (L++R) Y->Blk (2*n) X (P++(Y++[])):=by
 obtain⟨A,Z,e1,e2,h3,h4,kk⟩:=h.ex;have hV:=k.len;rw[e2,List.length_append]at h1 h2;obtain⟨A1,B1,C1,D1,I,J,f3,E,f5⟩:=k.part am;have d6:=E.len;have d7:=f5.len;rw[J,List.length_append]at h1 h2;have K:=f5.all am;rw[e1,I]at T;have O:=(List.pairwise_append.1 T).2.1;refine⟨Z,C1,D1,⟨by rw[e2,J];simp,h4,am,by rw[e2,J];simp;omega,E.srt,K.srt,E.before K λx hx y hy=>(List.pairwise_append.1 O).2.2 x hx y hy⟩,λY hY=>?_⟩;rw[e1,List.append_nil];exact kk _ _ (.short (by rw[I,List.length_append];omega) (by rw[I];exact E.both K hY))
def BlkTo.rest(h:BlkTo (2*n) X l a U V)(k:Blk n U V)(E:l.length<=a+n):Blk (2*n) X l:=by
 obtain⟨A,Z,e1,e2,h3,I,J⟩:=h.ex;have K:=k.len;rw[e2,List.length_append]at E;exact h.fin (.short am (k.all am))
def BlkTo.len(h:BlkTo n X l a U V):a<=l.length:=by
 obtain⟨A,Z,e1,e2,h3,E,I⟩:=h.ex;rw[e2,List.length_append];omega
end
open FK (Pl KD)
structure Pair(N:Nat)(S:FK.En)(M:En):Prop where
 ok:FK.Ok S
 sim:Sim S M
 ke:Ke M
 sets:S.sets<=400*N
 ends:S.ends<=400*N
 lr:S.NL<=N
 lt:S.NK<=N
 tms:M.timers<=400*N
section
variable{N:Nat}{M:En}
def Pair.fine(h:Pair N S M)(E:N<=1000000000000):Fine M:=h.sim.fine h.ok (by have:=h.tms;omega) (by have:=h.ends;omega)
def Pair.nd(h:Pair N S M):(M.runs.map (·.id)).Nodup:=h.sim.nd
def Ke.lt(h:Ke M):M.runs.Pairwise λa b=>a.id<b.id:=by
 unfold Ke En.ids at h;rw[List.pairwise_map]at h;exact h.imp λh=>h.1
def Pair.len(h:Pair N S M):S.runs.length=M.runs.length:=by rw[h.sim.runs,List.length_map]
theorem Pair.six(h:Pair N S M):M.runs.length<=6:=h.len▸h.ok.six
def Pair.none(h:Pair N S M):S.getR (M.NL+1)=none:=by
 cases hR:S.getR (M.NL+1)with
 |none=>rfl
 |some R=>
  have I:M.NL+1∈S.runs.map (·.1):=by
   unfold FK.En.getR at hR;rw[Option.map_eq_some_iff]at hR;obtain⟨x,E,_⟩:=hR;have J:=List.find?_some E;rw[<-(beq_iff_eq.1 J:x.1=_)];exact List.mem_map_of_mem (List.mem_of_find?_eq_some E)
  have:=(h.ok.low _ I).2;have:=h.sim.lr;omega
def Pair.NQ(h:Pair N S M){p:Nat×Int}(E:p∈M.NP):∃(i k:Nat) (u:Rn) (s:St),M.runs[i]?=some u/\u.id=p.1/\p.2=(k:Int)/\u.NN[k]?=some s/\s.state=2:=by
 have Y:zd p∈S.NP:=by rw[h.sim.NP];exact List.mem_map_of_mem E
 obtain⟨id,k,x,e,I,J⟩:=(h.ok.NP _).1 Y;obtain⟨R,K,O⟩:=FK.jX I;obtain⟨i,u,T,e1,rfl⟩:=h.sim.toAb.back K;obtain⟨s,hs1,rfl⟩:=EJ O;unfold zd at e;injection e with e2 e3;exact⟨i,k,u,s,T,e1.trans e2.symm,e3,hs1,J⟩
def Pair.seqs(h:Pair N S M):Seqs (S.tms.map (Hr M)):=by
 rw[Seqs,List.pairwise_map];refine List.Pairwise.imp_of_mem ?_ h.sim.tm.ord;intro x y K O E;obtain⟨s,I⟩:=(h.sim.tm.mem x.1 x.2).1 K;obtain⟨t,J⟩:=(h.sim.tm.mem y.1 y.2).1 O;have:=E _ _ I J;simpa[Hr,I,J]using this
def Pair.told(h:Pair N S M){Y:List Tmd}(k:Srt (S.tms.map (Hr M)) Y):Y=M.tms:=
 uW k.srt ((uh _ _ rfl).2 (FU h.sim)) λx=>by rw[k.perm.mem_iff,<-KM h.sim];exact((uh _ _ rfl).1 x).symm
end
end FR
namespace FK
def sn(R:Rn)(k:Nat):Prop:=∀u∈aft R.fl.NO k,cY R.NN u 5=true
def isAt_iff{l:List Sp}{x:Int}:cY l k x=true<->∃s,l[k]?=some s/\s.state=x:=by
 constructor
 ·exact pR
 ·rintro⟨s,E,I⟩
  rw[fO E];simpa using I
structure Hon0(R:Rn):Prop where
 up:∀(k:Nat) (s:Sp),R.NN[k]?=some s->(2<=s.state/\s.state<=6)->sn R k
 wt:R.state=1->∀(k:Nat) (s:Sp),R.NN[k]?=some s->s.state=1->¬sn R k
 sk:R.state=1->∀(k:Nat) (s:Sp),R.NN[k]?=some s->s.state=1->∀u∈aft R.fl.NO k,cY R.NN u 6=false/\cY R.NN u 7=false
structure Hon(R:Rn):Prop where
 h0:Hon0 R
 go:R.state=1->∃(k:Nat) (s:Sp),R.NN[k]?=some s/\over s=false
 all:R.state=2->∀(k:Nat) (s:Sp),R.NN[k]?=some s->s.state=5
 lost:R.state≠1->R.state≠2->∃(k:Nat) (s:Sp),R.NN[k]?=some s/\s.state≠5
def over_iff:over s=true<->s.state=5\/s.state=6\/s.state=7:=by
 unfold over;simp only[Bool.or_eq_true,beq_iff_eq];omega
def zM:over s=false<->s.state≠5/\s.state≠6/\s.state≠7:=by
 rw[<-Bool.not_eq_true,over_iff];omega
structure Nx(s s':Sp):Prop where
 NM:s'.NM=s.NM
 ov:over s=true->s'.state=s.state
 w3:s'.state=3->s'=s
 w4:s'.state=4->s.state=4
 w2:s'.state=2->s.state=2\/s.state=1
 w1:s'.state=1->s.state=1
def Nx.refl(s:Sp):Nx s s:=⟨rfl,λ_=>rfl,λ_=>rfl,λh=>h,λh=>.inl h,λh=>h⟩
def Nx.trans{a b c:Sp}(h:Nx a b)(k:Nx b c):Nx a c:=⟨k.NM.trans h.NM,λE=>(k.ov (by have:=h.ov E;rw[over_iff]at E ⊢;omega)).trans (h.ov E),λe=>by
 have e2:=k.w3 e;rw[e2];exact h.w3 (by rw[<-e2];exact e),λe=>h.w4 (k.w4 e),λe=>by
 rcases k.w2 e with e|e
 ·exact h.w2 e
 ·exact .inr (h.w1 e),λe=>h.w1 (k.w1 e)⟩
def Nx.skip(h:s.state=1):Nx s {s with state:=7}:=⟨rfl,λE=>by rw[over_iff]at E;omega,λe=>by replace e:(7:Int)=3:=e;omega,λe=>by replace e:(7:Int)=4:=e;omega,λe=>by replace e:(7:Int)=2:=e;omega,λe=>by replace e:(7:Int)=1:=e;omega⟩
def oP(h:over s=true):(endS {s with token:=0}).state=s.state:=by
 rw[over_iff]at h;unfold endS
 split
 ·rfl
 ·rename_i E
  have:¬(s.state=5\/s.state=6):=E;show(7:Int)=_;omega
def uC(h:s.state≠5):(endS {s with token:=0}).state≠5:=by
 unfold endS
 split
 ·exact h
 ·show(7:Int)≠5
  decide
def endS_five:(endS {s with token:=0}).state=5<->s.state=5:=by
 constructor
 ·intro h
  exact Classical.byContradiction λE=>uC E h
 ·intro h
  rw[oP (over_iff.2 (.inl h))];exact h
def Nx.ended(s:Sp):Nx s (endS {s with token:=0}):=by
 have h:=pC {s with token:=0};exact⟨vt _,oP,λe=>by omega,λe=>by omega,λe=>by omega,λe=>by omega⟩
structure Fr(id:Nat)(S U:En):Prop where
 others:∀a,a≠id->U.getR a=S.getR a
 keys:U.runs.map (·.1)=S.runs.map (·.1)
 now:U.now=S.now
 seed:U.seed=S.seed
 NL:U.NL=S.NL
 NK:U.NK=S.NK
def Fr.refl(id:Nat)(S:En):Fr id S S:=⟨λ_ _=>rfl,rfl,rfl,rfl,rfl,rfl⟩
def Fr.trans{id:Nat}{S T U:En}(h:Fr id S T)(k:Fr id T U):Fr id S U:=⟨λa E=>(k.others a E).trans (h.others a E),k.keys.trans h.keys,k.now.trans h.now,k.seed.trans h.seed,k.NL.trans h.NL,k.NK.trans h.NK⟩
structure Same(S U:En):Prop where
 tms:U.tms=S.tms
 NQ:U.NQ=S.NQ
 ends:U.ends=S.ends
 sets:U.sets=S.sets
def zE{id:Nat}(E:S.getR id=some R)(I:R.NN[k]?=some s):Fr id S (S.ready id k)/\Same S (S.ready id k):=by
 rw[kg E I];exact⟨⟨λa J=>gO J,setR_keys,rfl,rfl,rfl,rfl⟩,⟨rfl,rfl,rfl,rfl⟩⟩
structure Fin(id:Nat)(S U:En)(R R':Rn)(st:Int):Prop where
 get:U.getR id=some R'
 fr:Fr id S U
 fl:R'.fl=R.fl
 state:R'.state=st
 len:R'.NN.length=R.NN.length
 NN:∀(j:Nat) (s:Sp),R.NN[j]?=some s->R'.NN[j]?=some (endS {s with token:=0})
 tms:∀x∈U.tms,x∈S.tms
 ends:U.ends=S.ends+1
 sets:U.sets=S.sets
section
variable{id:Nat}{R':Rn}
def Ok.fin(h:Ok S)(I:S.getR id=some R)(st:Int):∃R',Fin id S (S.finish id st) R R' st:=by
 have E:=h.ended I st;obtain⟨R',K,O,T,g4,Y,g6⟩:=E.run;exact⟨R',K,⟨E.others,E.keys,E.now,E.seed,E.NL,E.NK⟩,O,T,Y,g6,λx J=>((E.tms x).1 J).1,E.ends,E.sets⟩
def Fin.back(h:Fin id S U R R' st){s':Sp}(J:R'.NN[k]?=some s'):∃s,R.NN[k]?=some s/\s'=endS {s with token:=0}:=by
 have I:k<R.NN.length:=by have:=(gfGet.1 J).1;rwa [h.len]at this
 have E:R.NN[k]?=some (R.NN[k]):=List.getElem?_eq_getElem I;have:=h.NN k _ E;rw[J]at this;injection this with this;exact⟨_,E,this⟩
def Fin.up(h:Fin id S U R R' st)(E:sn R k):sn R' k:=by
 unfold sn at E ⊢;rw[h.fl];intro u K;obtain⟨s,I,J⟩:=isAt_iff.1 (E u K);exact isAt_iff.2 ⟨_,h.NN u s I,endS_five.2 J⟩
def Fin.hon0(h:Fin id S U R R' st)(E:st≠1)(K:∀(k:Nat) (s:Sp),R.NN[k]?=some s->(2<=s.state/\s.state<=6)->sn R k):Hon0 R':=by
 refine⟨λk s' J I=>?_,λe=>absurd (h.state.symm.trans e) E,λe=>absurd (h.state.symm.trans e) E⟩;obtain⟨s,O,rfl⟩:=h.back J;refine h.up (K k s O ?_);unfold endS at I
 split at I
 ·exact I
 ·have:(2:Int)<=7/\(7:Int)<=6:=I
  omega
def Fin.hon(h:Fin id S U R R' st)(I:st≠1)(O:st≠2)(J:Hon R)(E:R.state=1):Hon R':=by
 refine⟨h.hon0 I J.h0.up,λe=>absurd (h.state.symm.trans e) I,λe=>absurd (h.state.symm.trans e) O,λ_ _=>?_⟩;obtain⟨k,s,T,K⟩:=J.go E;rw[zM]at K;exact⟨k,_,h.NN k s T,uC K.1⟩
end
structure Settled(id:Nat)(S U:En)(R R':Rn):Prop where
 get:U.getR id=some R'
 fr:Fr id S U
 fl:R'.fl=R.fl
 len:R'.NN.length=R.NN.length
 NN:∀(j:Nat) (s:Sp),R.NN[j]?=some s->∃s',R'.NN[j]?=some s'/\Nx s s'/\s'.state=s.state
 hon:Hon R'
 tms:∀x∈U.tms,x∈S.tms
 ends:U.ends<=S.ends+1
 sets:U.sets=S.sets
 stay:R'.state=1->U=S/\R'=R
def Ok.settled(h:Ok S){id:Nat}(hR:S.getR id=some R)(T:R.state=1)(h0:Hon0 R):∃R',Settled id S (S.settle id) R R':=by
 unfold En.settle;rw[hR];simp only
 by_cases Y:R.NN.all over=true
 ·rw[if_pos Y]
  rw[List.all_eq_true]at Y;have ho:∀(j:Nat) (s:Sp),R.NN[j]?=some s->over s=true:=λj s E=>Y s (cg E);obtain⟨st,O⟩:∃st:Int,st=if (R.NN.all λs=>s.state==5)=true then 2 else 3:=⟨_,rfl⟩
  have J:st≠1:=by rw[O];split<;>decide
  rw[<-O];obtain⟨R',I⟩:=h.fin hR st;refine⟨R',I.get,I.fr,I.fl,I.len,λj s E=>⟨_,I.NN j s E,Nx.ended s,oP (ho j s E)⟩,⟨I.hon0 J h0.up,λe=>absurd (I.state.symm.trans e) J,λe k s' d6=>?_,λ_ e=>?_⟩,I.tms,Nat.le_of_eq I.ends,I.sets,λe=>absurd (I.state.symm.trans e) J⟩
  ·obtain⟨s,E,rfl⟩:=I.back d6
   rw[oP (ho k s E)];have e2:st=2:=I.state.symm.trans e;rw[O]at e2
   split at e2
   ·rename_i K
    rw[List.all_eq_true]at K;simpa using K s (cg E)
   ·omega
  ·have e2:¬(R.NN.all λs=>s.state==5)=true:=λK=>e (by rw[I.state,O,if_pos K])
   rw[List.all_eq_true]at e2;have:∃s∈R.NN,s.state≠5:=Classical.byContradiction λhn=>e2 λs E=>by
    have:s.state=5:=Classical.byContradiction λK=>hn ⟨s,E,K⟩;simpa using this
   obtain⟨s,E,K⟩:=this;obtain⟨k,hk⟩:=List.getElem?_of_mem E;exact⟨k,_,I.NN k s hk,uC K⟩
 ·rw[if_neg Y]
  have:∃s∈R.NN,over s=false:=Classical.byContradiction λhn=>Y (List.all_eq_true.2 λs E=>by
   cases ho:over s with
   |true=>rfl
   |false=>exact absurd ⟨s,E,ho⟩ hn)
  obtain⟨s,E,K⟩:=this;obtain⟨k,hk⟩:=List.getElem?_of_mem E;exact⟨R,hR,Fr.refl _ _,rfl,rfl,λj s E=>⟨s,E,Nx.refl s,rfl⟩,⟨h0,λ_=>⟨k,s,hk,K⟩,λe=>by omega,λe=>absurd T e⟩,λ_ hx=>hx,Nat.le_succ _,rfl,λ_=>⟨rfl,rfl⟩⟩
end FK
