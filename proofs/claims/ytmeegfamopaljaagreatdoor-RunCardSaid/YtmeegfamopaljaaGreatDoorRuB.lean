/- The engine in plain data: tasks that fail; ticks. -/
import Derived.Test.YtmeegfamopaljaaGreatDoorRuA
variable {S U:FK.En} {a i id j k n:Nat} {R:FK.Rn} {s:FK.Sp} {st w:Int} {p:FK.Pl} {l':List FK.Sp} {f:FK.Flow} {x:FK.KD}
namespace FK
def fU (E I ji k seed:Int):Int:=(if k<=1 then E else if k<22 then min I (E*2 ^ (k.toNat-1)) else I)+seed%(ji+1)
noncomputable def En.failed (S:En) (id k:Nat):En:=match S.getR id with
 | some R=>match R.KV[k]?,R.fl.KW[k]? with
  | some s,some n=>if s.KU<n.KZ then S.rests id k R s (fU n.base n.cap n.K0 s.KU S.seed).toNat else S.dies id k R s (kQ R.fl.KW)
  | _,_=>S
 | none=>S
noncomputable def En.fail (S:En) (t:Nat):En:=match (S.KY.find? (·.1==t)).map (·.2) with
 | some p=>S.failed p.run p.node.toNat
 | none=>S
theorem kb {n:Node} (E:S.getR id=some R) (I:R.KV[k]?=some s) (J:R.fl.KW[k]?=some n):S.failed id k=if s.KU<n.KZ then S.rests id k R s (fU n.base n.cap n.K0 s.KU S.seed).toNat else S.dies id k R s (kQ R.fl.KW):=by
 unfold En.failed;rw[E];simp only[I,J]
theorem Ok.failed {S:En} (h:Ok S) {id k:Nat} {R:Rn} {s:Sp} (E:S.getR id=some R) (I:R.KV[k]?=some s) (h3:s.state=3):Ok (S.failed id k):=by
 obtain⟨n,J,K⟩:=h.node E I;rw[kb E I J]
 split
 · rename_i O
   exact h.rests E I J h3 O _
 · exact h.dies E I J h3 (by have:=K.trb;omega) _
theorem rk {t:Nat} (E:(S.KY.find? (·.1==t)).map (·.2)=some ⟨id,(k:Int),w⟩):S.fail t=S.failed id k:=by
 unfold En.fail;rw[E]
 rfl
theorem Ok.fail {S:En} (h:Ok S) (t:Nat):Ok (S.fail t):=by
 cases hf:(S.KY.find? (·.1==t)).map (·.2) with
 | none=>unfold En.fail;rw[hf];exact h
 | some p=>
  obtain⟨id,k,R,s,n,rfl,E,I,J,h3,_⟩:=h.find hf;rw[rk hf];exact h.failed E I h3
theorem Jc (h:Ok S) (I:S.getR id=some R) {left:Nat} {T:List Nat} (J:Ordering R.fl.KW left T) (K:∀i,left.testBit i=true->∃j∈aft R.fl.KW i,left.testBit j=true):S.dies id k R s T=S.dies id k R s (kQ R.fl.KW):=by
 have E:=h.run id R I;unfold En.dies Rn.skips;have:T.foldl (skipK (R.turned k s 6).fl.KW) (R.turned k s 6).KV=(kQ R.fl.KW).foldl (skipK (R.turned k s 6).fl.KW) (R.turned k s 6).KV:=Ie E.fl J K _ (by simpa[Rn.turned,Rn.setS] using E.len);rw[this]
noncomputable def En.due (S:En) (p:Pl):En:=if p.what=0 then S.finish p.run 5 else match S.stp p.run p.node.toNat with
 | some s=>if s.state=4 then S.ready p.run p.node.toNat else S.failed p.run p.node.toNat
 | none=>S
inductive Ticks (up:Nat):En->En->Prop where
 | done {S:En}:(∀y∈S.tms,up<y.2)->Ticks up S {S with now:=up}
 | step {S U:En} {x:KD} {tms':List KD}:IsMin S.tms x tms'->x.2<=up->Ticks up ({S with now:=x.2,tms:=tms'}.due x.1) U->Ticks up S U
section
variable {f g:Nat->Nat} {l:List Nat}
theorem Ok.pop (h:Ok S) {E:List KD} (K:IsMin S.tms x E):Ok {S with now:=x.2,tms:=E}/\(∀y∈E,y.1≠x.1)/\∃R,S.getR x.1.run=some R/\Ag R x.1:=by
 have O:=K.perm;have T:=h.tms x K.mem;have hk:=h.knd;have I:((x::E).map (·.1)).Nodup:=(O.map (·.1)).nodup_iff.1 hk;rw[List.map_cons,List.nodup_cons] at I;refine⟨h.times (sets:=S.sets) T.1 I.2 λy J=>h.tms y (O.mem_iff.2 (.tail _ J)),λy J e=>I.1 (by rw[<-e];exact List.mem_map_of_mem (f:=(·.1)) J),T.2⟩
theorem i8 (T:S.getR p.run=some R) (Y:Ag R p):(p=⟨p.run,-1,0⟩/\S.due p=S.finish p.run 5)\/∃(k:Nat) (s:Sp),R.KV[k]?=some s/\((p=⟨p.run,(k:Int),1⟩/\s.state=4/\S.due p=S.ready p.run k)\/((p=⟨p.run,(k:Int),1⟩\/p=⟨p.run,(k:Int),2⟩)/\s.state=3/\S.due p=S.failed p.run k)):=by
 obtain⟨id,nd,wh⟩:=p;obtain⟨_,⟨J,I⟩|⟨k,s,J,I,h3⟩⟩:=Y
 · simp only at J I
   subst J;subst I;exact .inl ⟨rfl,by unfold En.due;rfl⟩
 · simp only at J I h3 T
   subst J;have K:=iE T I;refine .inr ⟨k,s,I,?_⟩;have O:wh≠0->En.due S ⟨id,(k:Int),wh⟩=if s.state=4 then S.ready id k else S.failed id k:=λhw=>by
    unfold En.due;simp only[Int.toNat_natCast,K];rw[if_neg hw]
   rcases h3 with⟨rfl,E⟩|⟨rfl,E⟩
   · rcases E with E|E
     · exact .inr ⟨.inl rfl,E,by rw[O fi,if_neg am]⟩
     · exact .inl ⟨rfl,E,by rw[O fi,if_pos E]⟩
   · exact .inr ⟨.inr rfl,E,by rw[O fi,if_neg am]⟩
theorem Ok.due {S:En} (h:Ok S) {p:Pl} {R:Rn} (E:S.getR p.run=some R) (J:Ag R p) (hno:∀y∈S.tms,y.1≠p):Ok (S.due p):=by
 rcases i8 E J with⟨_,e⟩|⟨k,s,I,⟨e1,T,e⟩|⟨_,h3,e⟩⟩
 · rw[e]
   exact h.finish E fi
 · rw[e]
   exact h.ready E I (.inr ⟨T,λy K O=>hno y K (by rw[O,e1])⟩)
 · rw[e]
   exact h.failed E I h3
theorem Ticks.ok (h:Ticks k S U) (E:k<=4611686018427387904):Ok S->Ok U:=by
 induction h with
 | done _=>exact λh=>h.times (sets:=_) E h.knd h.tms
 | step T hx _ Y=>
  intro h;obtain⟨I,J,R,K,O⟩:=h.pop T;exact Y (I.due K O J)
def pP (s:Sp):Nat:=if s.state=3 then 2 else if s.state=4 then 1 else 0
def tT (R:Rn):Nat:=if R.state=1 then 1+(R.KV.map pP).sum else 0
def wor:Option Rn->Nat
 | some R=>tT R
 | none=>0
def En.mass (S:En):Nat:=((S.runs.map (·.1)).map λid=>wor (S.getR id)).sum
theorem J6 (h:∀a∈l,f a<=g a):(l.map f).sum<=(l.map g).sum:=by
 induction l with
 | nil=>exact cu _
 | cons x l I=>
  have J:=h x (.head _);have K:=I λa E=>h a (.tail _ E);simp only[List.map_cons,List.sum_cons];omega
theorem J5 (h:∀a∈l,f a<=g a) (hi:i∈l) (I:f i<g i):(l.map f).sum<(l.map g).sum:=by
 induction l with
 | nil=>cases hi
 | cons x l K=>
  have O:=h x (.head _);simp only[List.map_cons,List.sum_cons];rcases List.mem_cons.1 hi with rfl|hi
  · have J:=J6 λa E=>h a (.tail _ E)
    omega
  · have J:=K (λa E=>h a (.tail _ E)) hi
    omega
theorem rf (hk:U.runs.map (·.1)=S.runs.map (·.1)) {R':Rn} (J:S.getR id=some R) (E:U.getR id=some R') (O:∀a,a≠id->U.getR a=S.getR a) (I:tT R'<tT R):U.mass<S.mass:=by
 unfold En.mass;rw[hk];refine J5 (i:=id) (λa _=>?_) (List.mem_map_of_mem (f:=(·.1)) (j9 J)) ?_
 · by_cases K:a=id
   · subst K
     rw[J,E];exact Nat.le_of_lt I
   · rw[O a K]
     exact cu _
 · show wor (U.getR id)<wor (S.getR id)
   rw[J,E];exact I
theorem vR:∀{l:List Sp} {k:Nat} {s s':Sp},l[k]?=some s->((l.set k s').map pP).sum+pP s=(l.map pP).sum+pP s'
 | [],_,_,_,h=>by simp at h
 | x::l,0,s,s',h=>by
  simp at h;subst h;simp only[List.set_cons_zero,List.map_cons,List.sum_cons];omega
 | x::l,k+1,s,s',h=>by
  have:=vR (l:=l) (k:=k) (s:=s) (s':=s') (by simpa using h);simp only[List.set_cons_succ,List.map_cons,List.sum_cons];omega
theorem DB (ns:List Node) (l:List Sp) (k:Nat):((skipK ns l k).map pP).sum=(l.map pP).sum:=by
 unfold skipK
 split
 · rename_i s n E I
   split
   · rename_i hc
     have:=vR (s':={s with state:=7}) E;have J:pP s=0:=by unfold pP;rw[hc.1];rfl
     have K:pP {s with state:=7}=0:=rfl;omega
   · rfl
 · rfl
theorem uD (ns:List Node):∀(T:List Nat) (l:List Sp),((T.foldl (skipK ns) l).map pP).sum=(l.map pP).sum
 | [],_=>rfl
 | k::T,l=>by rw[List.foldl_cons,uD ns T,DB]
theorem JW (s:Sp):pP s<=2:=by unfold pP;split<;>(try split)<;>omega
theorem vS {α:Type} {f:α->Nat} {n:Nat} (h:∀a,f a<=n):∀l:List α,(l.map f).sum<=l.length*n
 | []=>by simp
 | x::l=>by
  have:=vS h l;have:=h x;simp only[List.map_cons,List.sum_cons,List.length_cons,Nat.succ_mul];omega
theorem Ok.massLe (h:Ok S):S.mass<=150:=by
 have hw:∀a,wor (S.getR a)<=25:=λa=>by
  cases hR:S.getR a with
  | none=>exact Nat.zero_le _
  | some R=>
   show tT R<=25;have E:=h.run a R hR;have:=vS JW R.KV;have:=E.len;have:=E.fl.head.2.2;unfold tT
   split<;>omega
 have:=vS hw (S.runs.map (·.1));have I:=h.six;rw[List.length_map] at this;unfold En.mass;omega
theorem oN (E:S.getR id=some R):S.settle id=S\/∃st,(st=2\/st=3)/\S.settle id=S.finish id st:=by
 unfold En.settle;rw[E];simp only
 split
 · refine .inr ⟨_,?_,rfl⟩
   split
   · exact .inl rfl
   · exact .inr rfl
 · exact .inl rfl
end
structure Less (S U:En):Prop where
 mass:U.mass<S.mass
 sets:U.sets<=S.sets+1
 ends:U.ends<=S.ends+1
 KT:U.KT=S.KT
 KS:U.KS=S.KS
 now:U.now=S.now
 seed:U.seed=S.seed
theorem Ok.finish_less (h:Ok S) (J:S.getR id=some R) (K:R.state=1) (I:st≠1):Less S (S.finish id st):=by
 have E:=h.ended J st;obtain⟨R',O,Y,T,g4,g5,g6⟩:=E.run;refine⟨rf E.keys J O E.others ?_,by rw[E.sets];omega,by rw[E.ends];exact cu _,E.KT,E.KS,E.now,E.seed⟩;have h1:tT R'=0:=by unfold tT;rw[T,if_neg I]
 have h2:1<=tT R:=by unfold tT;rw[if_pos K];omega
 omega
theorem vP {s':Sp} (I:R.KV[k]?=some s) (E:R.state=1) (J:pP s'<pP s):tT (R.setS k s')<tT R:=by
 have:=vR (s':=s') I;have K:tT (R.setS k s')=1+((R.KV.set k s').map pP).sum:=by unfold tT;exact if_pos E
 have O:tT R=1+(R.KV.map pP).sum:=by unfold tT;rw[if_pos E]
 omega
theorem Ok.due_less (h:Ok S) (I:S.getR p.run=some R) (ht:Ag R p):Less S (S.due p):=by
 have E:=ht.1;rcases i8 I ht with⟨_,e⟩|⟨k,s,J,⟨e1,h4,e⟩|⟨_,h3,e⟩⟩
 · rw[e]
   exact h.finish_less I E fi
 · rw[e,jz I J]
   refine⟨rf (U:={S.setR p.run (R.setS k {s with state:=2}) with KX:=_}) setR_keys I (dO I) (λa ha=>gf ha) (vP J E ?_),Nat.le_succ _,Nat.le_succ _,rfl,rfl,rfl,rfl⟩;have h5:pP s=1:=by unfold pP;rw[h4];rfl
   rw[h5];show 0<1;decide
 · rw[e]
   obtain⟨n,hn,hp⟩:=h.node I J;rw[kb I J hn];obtain⟨id,K3⟩:∃id,id=p.run:=⟨_,rfl⟩;rw[<-K3] at I ⊢;have K:∀(st:Int),(S.leave id k).setR id (R.turned k s st)={S.setR id (R.setS k ⟨st,s.KU,0⟩) with KY:=S.KY.eraseP (·.1==s.token),tms:=(S.tms.filter λx=>x.1 !=⟨id,(k:Int),1⟩).filter λx=>x.1 !=⟨id,(k:Int),2⟩}:=λst=>ow I J
   split
   · have wf:=K 4
     have O:(S.leave id k).sets=S.sets/\(S.leave id k).ends=S.ends/\(S.leave id k).KT=S.KT/\(S.leave id k).KS=S.KS/\(S.leave id k).now=S.now/\(S.leave id k).seed=S.seed:=by
      rw[fe I J];exact⟨rfl,rfl,rfl,rfl,rfl,rfl⟩
     refine⟨?_,by show(S.leave id k).sets+1<=_;omega,by show(S.leave id k).ends<=_;omega,O.2.2.1,O.2.2.2.1,O.2.2.2.2.1,O.2.2.2.2.2⟩;refine rf (U:=S.rests id k R s _) (id:=id) (R:=R) (R':=R.setS k ⟨4,s.KU,0⟩) ?_ I ?_ (λa ha=>?_) (vP J E ?_)
     · show((S.leave id k).setR id (R.turned k s 4)).runs.map (·.1)=_
       rw[wf];exact setR_keys
     · show((S.leave id k).setR id (R.turned k s 4)).getR id=_
       rw[wf];exact dO I
     · show((S.leave id k).setR id (R.turned k s 4)).getR a=_
       rw[wf];exact gf ha
     · have h5:pP s=2:=by unfold pP;rw[h3];rfl
       rw[h5];show 1<2;decide
   · rename_i hb
     obtain⟨T,hT⟩:∃T,T=kQ R.fl.KW:=⟨_,rfl⟩;rw[<-hT];have BT:s.KU=n.KZ:=by have:=hp.trb;omega
     obtain⟨D,hD⟩:∃D,D=(S.leave id k).setR id ((R.turned k s 6).skips T):=⟨_,rfl⟩;have Fd:Ok D:=by
      have h1:=h.part I J hn h3 (st:=6) (.inr (.inr ⟨rfl,BT⟩));have h2:=Ok.skips (id:=id) T h1 (lz I J);rw[setR_setR] at h2;rw[hD];exact h2
     have Y:D={S.setR id ((R.turned k s 6).skips T) with KY:=S.KY.eraseP (·.1==s.token),tms:=(S.tms.filter λx=>x.1 !=⟨id,(k:Int),1⟩).filter λx=>x.1 !=⟨id,(k:Int),2⟩}:=by
      rw[hD,fe I J];show((({S with KY:=S.KY.eraseP (·.1==s.token)}.setR id (R.setS k {s with token:=0})).setR id _).unset _).unset _=_;rw[setR_setR]
      rfl
     have mt:D.getR id=some ((R.turned k s 6).skips T):=by rw[Y];exact dO I
     have hw:tT ((R.turned k s 6).skips T)<tT R:=by
      have h1:tT ((R.turned k s 6).skips T)=1+((R.turned k s 6).KV.map pP).sum:=by
       unfold tT Rn.skips;rw[uD];exact if_pos E
      have h2:tT (R.setS k ⟨6,s.KU,0⟩)=1+((R.setS k ⟨6,s.KU,0⟩).KV.map pP).sum:=by unfold tT;exact if_pos E
      have h5:R.turned k s 6=R.setS k ⟨6,s.KU,0⟩:=by unfold Rn.turned;rw[setS_setS]
      rw[h1,h5,<-h2];refine vP J E ?_;have h6:pP s=2:=by unfold pP;rw[h3];rfl
      rw[h6];show 0<2;decide
     have hm:D.mass<S.mass:=rf (by rw[Y];exact setR_keys) I mt (λa ha=>by rw[Y];exact gf ha) hw;have In:S.dies id k R s T=D.settle id:=by rw[hD];rfl
     rw[In];have hl:D.sets=S.sets/\D.ends=S.ends/\D.KT=S.KT/\D.KS=S.KS/\D.now=S.now/\D.seed=S.seed:=by rw[Y];exact⟨rfl,rfl,rfl,rfl,rfl,rfl⟩
     rcases oN mt with e|⟨st,K4,e⟩
     · rw[e]
       exact⟨hm,am,am,hl.2.2.1,hl.2.2.2.1,hl.2.2.2.2.1,hl.2.2.2.2.2⟩
     · rw[e]
       have:=Fd.finish_less mt E (st:=st) am;exact⟨Nat.lt_trans this.mass hm,by have:=(Fd.ended mt st).sets;omega,by have:=this.ends;omega,this.KT.trans hl.2.2.1,this.KS.trans hl.2.2.2.1,this.now.trans hl.2.2.2.2.1,this.seed.trans hl.2.2.2.2.2⟩
end FK
namespace FR
open FK (Pl KD)
structure St where
 state:Int
 KU:Int
 token:Nat
 fin:Nat
 sign:Nat
 finAt:Nat
 signAt:Nat
structure Rn where
 id:Nat
 fl:FK.Flow
 state:Int
 till:Nat
 tillAt:Nat
 KV:List St
 ended:Nat
structure En where
 time:Nat
 seed:Nat
 runs:List Rn
 KX:List (Nat×Int)
 KT:Nat
 KS:Nat
 timers:Nat
 ends:Nat
def St.ab (s:St):FK.Sp:=⟨s.state,s.KU,if s.state=3 then s.token else 0⟩
def Rn.ab (r:Rn):FK.Rn:=⟨r.fl,r.state,r.KV.map St.ab,r.ended⟩
def Rn.abI (r:Rn):Nat×FK.Rn:=(r.id,r.ab)
def xa (p:Nat×Int):Pl:=⟨p.1,p.2,0⟩
def Rn.setS (r:Rn) (k:Nat) (s:St):Rn:={r with KV:=r.KV.set k s}
def En.setR (M:En) (i:Nat) (r:Rn):En:={M with runs:=M.runs.set i r}
def En.later (M:En) (n:Nat):Nat:=min (M.time+n) 4611686018427387904
def En.ready (M:En) (i k:Nat) (r:Rn) (s:St):En:={M.setR i (r.setS k {s with state:=2}) with KX:=M.KX++[(r.id,(k:Int))]}
def En.wakeK (i:Nat) (M:En) (k:Nat):En:=match M.runs[i]? with
 | some r=>if FK.jO r.ab k then(match r.KV[k]? with|some s=>M.ready i k r s|none=>M) else M
 | none=>M
def En.wakeN (M:En) (i n:Nat):En:=(List.range n).foldl (En.wakeK i) M
def En.drop (M:En) (id:Nat):En:={M with KX:=M.KX.filter λp=>p.1 !=id}
def endS (s:St):St:=if s.state=5\/s.state=6 then s else {s with state:=7}
def Rn.fin (r:Rn) (st:Int) (e:Nat):Rn:={r with state:=st,ended:=e,KV:=r.KV.map endS}
def En.endr (M:En) (i:Nat) (r:Rn) (st:Int):En:=({M.setR i (r.fin st (M.ends+1)) with ends:=M.ends+1}).drop r.id
def En.settle (M:En) (i:Nat):En:=match M.runs[i]? with
 | some r=>if r.ab.KV.all FK.over then M.endr i r (if r.ab.KV.all λs=>s.state==5 then 2 else 3) else M
 | none=>M
def St.act (s:St) (w:Int):Option (Nat×Nat):=if w=1/\(s.state=3\/s.state=4) then some (s.fin,s.finAt) else if w=2/\s.state=3/\0<s.sign then some (s.sign,s.signAt) else none
def Rn.act (r:Rn) (p:Pl):Option (Nat×Nat):=if r.state=1 then(if p.node=-1 then(if p.what=0 then some (r.till,r.tillAt) else none) else if 0<=p.node then(r.KV[p.node.toNat]?.bind λs=>s.act p.what) else none) else none
def En.getR (M:En) (id:Nat):Option Rn:=M.runs.find? (·.id==id)
def En.act (M:En) (p:Pl):Option (Nat×Nat):=match M.getR p.run with|some r=>r.act p|none=>none
theorem fI {r:Rn} {s:St} (h:r.KV[k]?=some s):r.ab.KV[k]?=some s.ab:=by
 show(r.KV.map St.ab)[k]?=_;rw[List.getElem?_map,h]
 rfl
theorem Cr {r:Rn} {x:FK.Sp} (h:r.ab.KV[k]?=some x):∃s,r.KV[k]?=some s/\s.ab=x:=by
 have h:(r.KV.map St.ab)[k]?=_:=h;rw[List.getElem?_map] at h;cases hs:r.KV[k]? with
 | none=>rw[hs] at h;cases h
 | some s=>rw[hs] at h;exact⟨s,rfl,by injection h⟩
theorem vN (r:Rn) (k:Nat) (s:St):(r.setS k s).ab=r.ab.setS k s.ab:=by
 unfold Rn.ab Rn.setS FK.Rn.setS;simp only[List.map_set]
structure Ab (S:FK.En) (M:En):Prop where
 now:S.now=M.time
 seed:S.seed=M.seed
 lr:S.KT=M.KT
 lt:S.KS=M.KS
 ends:S.ends=M.ends
 runs:S.runs=M.runs.map Rn.abI
 KX:S.KX=M.KX.map xa
 nd:(M.runs.map (·.id)).Nodup
section
variable {M:En} {r:Rn}
theorem Ab.keys (h:Ab S M):S.runs.map (·.1)=M.runs.map (·.id):=by
 rw[h.runs,List.map_map]
 rfl
theorem Ab.snd (h:Ab S M):(S.runs.map (·.1)).Nodup:=by rw[h.keys];exact h.nd
theorem Ab.get (h:Ab S M) (hi:M.runs[i]?=some r):S.getR r.id=some r.ab:=
 FK.sa h.snd (by rw[h.runs];exact List.mem_map.2 ⟨r,bY hi,rfl⟩)
theorem Ab.back (h:Ab S M) (E:S.getR id=some R):∃(i:Nat) (r:Rn),M.runs[i]?=some r/\r.id=id/\r.ab=R:=by
 have:=FK.j9 E;rw[h.runs] at this;obtain⟨r,I,e⟩:=List.mem_map.1 this;obtain⟨i,hi⟩:=List.getElem?_of_mem I;injection e with e1 e2;exact⟨i,r,hi,e1,e2⟩
theorem xd {l:List Rn} (h:(l.map (·.id)).Nodup) {i:Nat} {r u:Rn} (hi:l[i]?=some r) (J:l[j]?=some u) (e:r.id=u.id):i=j:=by
 have E:(l.map (·.id))[i]?=some r.id:=by rw[List.getElem?_map,hi];rfl
 have I:(l.map (·.id))[j]?=some u.id:=by rw[List.getElem?_map,J];rfl
 rw[<-e] at I;have K:=(gfGet.1 E).1;exact(List.getElem?_inj K h).1 (E.trans I.symm)
theorem jY (h:(M.runs.map (·.id)).Nodup) (hi:M.runs[i]?=some r):M.getR r.id=some r:=by
 unfold En.getR;cases hf:M.runs.find? (·.id==r.id) with
 | none=>
  have:=List.find?_eq_none.1 hf r (bY hi);simp at this
 | some u=>
  have I:u.id=r.id:=by simpa using List.find?_some hf
  obtain⟨j,E⟩:=List.getElem?_of_mem (List.mem_of_find?_eq_some hf);have:=xd h hi E I.symm;subst this;rw[hi] at E;exact E.symm
theorem ne (h:M.getR id=some r):r.id=id/\∃i:Nat,M.runs[i]?=some r:=
 ⟨by simpa using List.find?_some h,List.getElem?_of_mem (List.mem_of_find?_eq_some h)⟩
theorem oD {r':Rn} (hi:M.runs[i]?=some r) (e:r'.id=r.id):(M.setR i r').runs.map (·.id)=M.runs.map (·.id):=by
 unfold En.setR;simp only[List.map_set,e];exact List.ext_getElem? λj=>by
  rw[List.getElem?_set]
  split
  · rename_i h
    subst h;have:=(gfGet.1 hi).1;rw[if_pos (by simpa using this),List.getElem?_map,hi]
    rfl
  · rfl
theorem getR_set {r':Rn} (h:(M.runs.map (·.id)).Nodup) (hi:M.runs[i]?=some r) (e:r'.id=r.id) (a:Nat):(M.setR i r').getR a=if a=r.id then some r' else M.getR a:=by
 have O:=(gfGet.1 hi).1;have hnd:((M.setR i r').runs.map (·.id)).Nodup:=by rw[oD hi e];exact h
 have T:(M.setR i r').runs[i]?=some r':=by unfold En.setR;simp[O]
 split
 · rename_i K
   rw[K,<-e];exact jY hnd T
 · rename_i K
   cases hf:M.getR a with
   | some u=>
    obtain⟨J,j,E⟩:=ne hf;have I:i≠j:=λI=>by
     subst I;rw[hi] at E;injection E with E;rw[<-E] at J;exact K J.symm
    rw[<-J];exact jY hnd (by unfold En.setR;rw[List.getElem?_set_ne I];exact E)
   | none=>
    cases hg:(M.setR i r').getR a with
    | none=>rfl
    | some u=>
     obtain⟨J,j,E⟩:=ne hg;unfold En.setR at E;rw[List.getElem?_set] at E
     split at E
     · injection E with E
       rw[<-E,e] at J;exact absurd J.symm K
     · rw[<-J,jY h E] at hf
       cases hf
theorem Ab.setR (h:Ab S M) {r':Rn} (hi:M.runs[i]?=some r) (e:r'.id=r.id):Ab (S.setR r.id r'.ab) (M.setR i r'):=by
 refine⟨h.now,h.seed,h.lr,h.lt,h.ends,?_,h.KX,by rw[oD hi e];exact h.nd⟩;have I:=(gfGet.1 hi).1;unfold FK.En.setR En.setR;simp only[h.runs];refine List.ext_getElem? λj=>?_;rw[List.getElem?_map,List.getElem?_map,List.getElem?_map,List.getElem?_set]
 split
 · rename_i E
   subst E;rw[hi];simp[Rn.abI,e]
 · rename_i E
   cases hj:M.runs[j]? with
   | none=>rfl
   | some u=>
    have:¬u.id=r.id:=λe=>E (xd h.nd hi hj e.symm);simp[Rn.abI,this]
theorem rA {r':Rn} (h:(M.runs.map (·.id)).Nodup) (hi:M.runs[i]?=some r) (e:r'.id=r.id) (p:Pl):(M.setR i r').act p=if p.run=r.id then r'.act p else M.act p:=by
 unfold En.act;rw[getR_set h hi e]
 by_cases E:p.run=r.id
 · rw[if_pos E,if_pos E]
 · rw[if_neg E,if_neg E]
theorem pg (h:(M.runs.map (·.id)).Nodup) (hi:M.runs[i]?=some r) (E:p.run=r.id):M.act p=r.act p:=by
 unfold En.act;rw[E,jY h hi]
theorem ym {s s':St} (K:r.KV[k]?=some s) (p:Pl):(r.setS k s').act p=if r.state=1/\p.node=k then s'.act p.what else r.act p:=by
 have hk:=(gfGet.1 K).1;unfold Rn.act Rn.setS;simp only
 by_cases E:r.state=1
 · rw[if_pos E,if_pos E]
   by_cases J:p.node=(k:Int)
   · rw[if_pos (show r.state=1/\p.node=k from⟨E,J⟩),J,if_neg am,if_pos am,Int.toNat_natCast,List.getElem?_set_self hk]
     rfl
   · rw[if_neg (show ¬(r.state=1/\p.node=k) from λh=>J h.2)]
     by_cases h3:p.node=-1
     · rw[if_pos h3,if_pos h3]
     · rw[if_neg h3,if_neg h3]
       by_cases I:0<=p.node
       · rw[if_pos I,if_pos I,List.getElem?_set_ne am]
       · rw[if_neg I,if_neg I]
 · rw[if_neg E,if_neg E,if_neg (show ¬(r.state=1/\p.node=k) from λh=>E h.1)]
end
structure Tm (tms:List KD) (A:Pl->Option (Nat×Nat)) (t n:Nat):Prop where
 lo:∀x∈tms,n<=x.2
 nd:(tms.map (·.1)).Nodup
 mem:∀p a,(p,a)∈tms<->∃s,A p=some (a,s)
 ord:tms.Pairwise λx y=>∀a b,A x.1=some a->A y.1=some b->a.2<b.2
 le:∀p a,A p=some a->a.2<=t
section
variable {A A':Pl->Option (Nat×Nat)} {t:Nat}
theorem Tm.sub {tms E:List KD} (h:Tm tms A t n) (O:E.Sublist tms) (q:Pl->Prop) (hm:∀x∈tms,x∈E<->q x.1) (hq:∀p,q p->A' p=A p) (hn:∀p,¬q p->A' p=none) (ht:t<=k):Tm E A' k n:=by
 have I:∀p a,A' p=some a->q p/\A p=some a:=λp a e=>by
  by_cases K:q p
  · exact⟨K,by rw[<-hq p K];exact e⟩
  · rw[hn p K] at e;cases e
 refine⟨λx hx=>h.lo x (O.subset hx),h.nd.sublist (O.map _),λp a=>⟨λJ=>?_,λ⟨s,e⟩=>?_⟩,(h.ord.sublist O).imp λT a b ha hb=>T a b (I _ _ ha).2 (I _ _ hb).2,λp a e=>Nat.le_trans (h.le p a (I _ _ e).2) ht⟩
 · have K:=(hm _ (O.subset J)).1 J
   obtain⟨s,e⟩:=(h.mem p a).1 (O.subset J);exact⟨s,by rw[hq p K];exact e⟩
 · obtain⟨K,e⟩:=I _ _ e
   exact(hm _ ((h.mem p a).2 ⟨s,e⟩)).2 K
theorem Tm.same {tms:List KD} (h:Tm tms A t n) (e:∀p,A' p=A p):Tm tms A' t n:=
 h.sub (List.Sublist.refl _) (λ_=>True) (λ_ E=>⟨λ_=>trivial,λ_=>E⟩) (λp _=>e p) (λ_ h=>absurd trivial h) (cu _)
theorem Tm.set {tms:List KD} (h:Tm tms A t n) (p:Pl) (a:Nat) (hn:n<=a) (Y:A' p=some (a,t+1)) (ho:∀x,x≠p->A' x=A x):Tm (tms.filter (λx=>x.1 !=p)++[(p,a)]) A' (t+1) n:=by
 obtain⟨B,T⟩:∃B:Pl->Option (Nat×Nat),B=λx=>if x=p then none else A x:=⟨_,rfl⟩
 have K:Tm (tms.filter (λx=>x.1 !=p)) B t n:=h.sub List.filter_sublist (λx=>x≠p) (λx E=>by rw[List.mem_filter];simp[E]) (λx E=>by rw[T];exact if_neg E) (λx E=>by rw[T];exact if_pos (Decidable.not_not.1 E)) (cu _);have wf:B p=none:=by rw[T];exact if_pos rfl
 have I:∀x,x≠p->A' x=B x:=λx E=>by rw[T,ho x E];exact(if_neg E).symm
 have hno:∀x∈tms.filter (λx=>x.1 !=p),x.1≠p:=λx E=>by simpa using(List.mem_filter.1 E).2
 refine⟨λx E=>?_,?_,λx b=>?_,?_,λx b e=>?_⟩
 · rcases List.mem_append.1 E with E|E
   · exact K.lo x E
   · rw[List.mem_singleton.1 E];exact hn
 · rw[List.map_append,List.nodup_append]
   refine⟨K.nd,by simp,λx E y J e=>?_⟩;obtain⟨z,hz,rfl⟩:=List.mem_map.1 E;simp at J;exact hno z hz (e.trans J)
 · rw[List.mem_append,K.mem,List.mem_singleton]
   by_cases E:x=p
   · subst E
     rw[wf,Y];constructor
     · rintro(⟨s,e⟩|e)
       · cases e
       · injection e with _ e
         exact⟨t+1,by rw[e]⟩
     · rintro⟨s,e⟩
       injection e with e;injection e with e _;exact .inr (by rw[e])
   · rw[I x E]
     exact⟨λh=>h.elim id λe=>absurd (by injection e) E,.inl⟩
 · rw[List.pairwise_append]
   refine⟨K.ord.imp_of_mem λE J mt a b ha hb=>mt a b (by rw[<-I _ (hno _ E)];exact ha) (by rw[<-I _ (hno _ J)];exact hb),by simp,λx E y J c d hc O=>?_⟩;simp at J;subst J;rw[Y] at O;injection O with O;subst O;rw[I _ (hno _ E)] at hc;exact Nat.lt_succ_of_le (K.le _ _ hc)
 · by_cases E:x=p
   · subst E
     rw[Y] at e;injection e with e;subst e;exact cu _
   · rw[I x E] at e
     exact Nat.le_succ_of_le (K.le _ _ e)
end
structure Sim (S:FK.En) (M:En):Prop extends Ab S M where
 tm:Tm S.tms M.act M.timers M.time
open FK (Pl KD)
section
variable {M:En} {r:Rn} {s:St}
theorem Hp (h:s.state≠3):({s with state:=2}:St).ab={s.ab with state:=2}:=by
 unfold St.ab;simp[h]
theorem Ab.ready (h:Ab S M) (hi:M.runs[i]?=some r) (I:r.KV[k]?=some s) (h3:s.state≠3):Ab (S.ready r.id k) (M.ready i k r s):=by
 rw[FK.jz (h.get hi) (fI I)];have E:=h.setR (r':=r.setS k {s with state:=2}) hi rfl;rw[vN,Hp h3] at E;refine⟨E.now,E.seed,E.lr,E.lt,E.ends,E.runs,?_,E.nd⟩;unfold En.ready;simp only[List.map_append,h.KX]
 rfl
theorem xz (hi:M.runs[i]?=some r):(M.ready i k r s).runs[i]?=some (r.setS k {s with state:=2}):=by
 have E:=(gfGet.1 hi).1;unfold En.ready En.setR;simp[E]
theorem pJ (h:Ab S M) (hi:M.runs[i]?=some r) (J:r.KV[k]?=some s) (p:Pl):(M.ready i k r s).act p=if p.run=r.id/\p.node=k then none else M.act p:=by
 have:(M.ready i k r s).act p=(M.setR i (r.setS k {s with state:=2})).act p:=rfl;rw[this,rA (r':=r.setS k {s with state:=2}) h.nd hi rfl,ym J];have K:({s with state:=2}:St).act p.what=none:=by unfold St.act;simp
 rw[K]
 by_cases I:p.run=r.id
 · rw[if_pos I]
   by_cases hk:p.node=(k:Int)
   · rw[if_pos (And.intro I hk)]
     by_cases E:r.state=1
     · exact if_pos ⟨E,hk⟩
     · rw[if_neg λh=>E h.1]
       unfold Rn.act;exact if_neg E
   · rw[if_neg λh=>hk h.2,if_neg λh=>hk h.2,pg h.nd hi I]
 · rw[if_neg I,if_neg λh=>I h.1]
theorem yn (h:Ab S M) (hi:M.runs[i]?=some r) (E:r.KV[k]?=some s) (h3:s.state≠3) (I:s.state≠4) (J:p.run=r.id) (hk:p.node=k):M.act p=none:=by
 rw[pg h.nd hi J];unfold Rn.act;have K:¬(k:Int)=-1:=am;have O:s.act p.what=none:=by unfold St.act;simp[h3,I]
 rw[hk];simp[K,E,O]
theorem Sim.ready (h:Sim S M) (hi:M.runs[i]?=some r) (E:r.KV[k]?=some s) (J:s.state=1):Sim (S.ready r.id k) (M.ready i k r s):=by
 refine⟨h.toAb.ready hi E am,?_⟩;rw[FK.jz (h.get hi) (fI E)];refine h.tm.same λp=>?_;rw[pJ h.toAb hi E]
 split
 · rename_i I
   exact(yn h.toAb hi E am am I.1 I.2).symm
 · rfl
theorem Sim.wakeK (h:Sim S M) (hi:M.runs[i]?=some r) (k:Nat):Sim (FK.En.wakeK r.id S k) (En.wakeK i M k)/\∃r',(En.wakeK i M k).runs[i]?=some r'/\r'.id=r.id/\r'.KV.length=r.KV.length/\r'.fl=r.fl:=by
 rw[FK.mC (h.get hi)];unfold En.wakeK;rw[hi];simp only
 by_cases E:FK.jO r.ab k=true
 · rw[if_pos E,if_pos E]
   have O:FK.cO r.ab.KV k 1=true:=by
    unfold FK.jO at E;rw[Bool.and_eq_true] at E;exact E.1
   obtain⟨x,K,I⟩:=FK.oy O;obtain⟨s,J,rfl⟩:=Cr K;rw[J];exact⟨h.ready hi J I,_,xz hi,rfl,by simp[Rn.setS],rfl⟩
 · rw[if_neg E,if_neg E]
   exact⟨h,r,hi,rfl,rfl,rfl⟩
theorem wakeN_succ (M:En) (i n:Nat):M.wakeN i (n+1)=En.wakeK i (M.wakeN i n) n:=by
 unfold En.wakeN;rw[List.range_succ,List.foldl_append]
 rfl
theorem Sim.wakeN (h:Sim S M) (hi:M.runs[i]?=some r):∀n,Sim (S.wakeN r.id n) (M.wakeN i n)/\∃r',(M.wakeN i n).runs[i]?=some r'/\r'.id=r.id/\r'.KV.length=r.KV.length/\r'.fl=r.fl
 | 0=>⟨h,r,hi,rfl,rfl,rfl⟩
 | n+1=>by
  obtain⟨J,r1,K,E,O,T⟩:=h.wakeN hi n;obtain⟨I,Y,m1,m2,m3,m4⟩:=J.wakeK K n;rw[E] at I;rw[FK.wakeN_succ,wakeN_succ];exact⟨I,Y,m1,m2.trans E,m3.trans O,m4.trans T⟩
theorem Sim.wake (h:Sim S M) (hi:M.runs[i]?=some r) (E:r.KV.length=r.fl.KW.length):Sim (S.wake r.id) (M.wakeN i r.KV.length)/\∃r',(M.wakeN i r.KV.length).runs[i]?=some r'/\r'.id=r.id:=by
 unfold FK.En.wake;rw[h.get hi];obtain⟨I,r',J,h3,_⟩:=h.wakeN hi r.KV.length;refine⟨?_,r',J,h3⟩;show Sim (S.wakeN r.id r.fl.KW.length) _;rw[<-E];exact I
theorem It {l:List Rn} (hk:U.runs.map (·.1)=l.map (·.id)) (J:(l.map (·.id)).Nodup) (K:∀r∈l,U.getR r.id=some r.ab):U.runs=l.map Rn.abI:=by
 refine List.ext_getElem? λj=>?_;have E:(U.runs.map (·.1))[j]?=(l.map (·.id))[j]?:=by rw[hk]
 rw[List.getElem?_map,List.getElem?_map] at E;rw[List.getElem?_map];cases hl:l[j]? with
 | none=>
  rw[hl] at E;cases hu:U.runs[j]? with
  | none=>rfl
  | some x=>rw[hu] at E;cases E
 | some r=>
  rw[hl] at E;cases hu:U.runs[j]? with
  | none=>rw[hu] at E;cases E
  | some x=>
   rw[hu] at E;injection E with E;have E:x.1=r.id:=E;have O:=K r (bY hl);have I:U.getR x.1=some x.2:=FK.sa (by rw[hk];exact J) (bY hu);rw[E,O] at I;injection I with I;show some x=some (r.id,r.ab);rw[I,<-E]
theorem KQ (s:St):(endS s).ab=FK.endS {s.ab with token:=0}:=by
 unfold endS FK.endS;show _=if s.state=5\/s.state=6 then _ else _
 split
 · rename_i h
   unfold St.ab;have:s.state≠3:=am;simp[this]
 · unfold St.ab
   simp
theorem yo (h:Ab S M) (hi:M.runs[i]?=some r) (E:st≠1) (p:Pl):(M.endr i r st).act p=if p.run=r.id then none else M.act p:=by
 have:(M.endr i r st).act p=(M.setR i (r.fin st (M.ends+1))).act p:=rfl;rw[this,rA (r':=r.fin st (M.ends+1)) h.nd hi rfl];have I:(r.fin st (M.ends+1)).act p=none:=by unfold Rn.act Rn.fin;exact if_neg E
 rw[I]
theorem Ab.endr (ok:FK.Ok S) (h:Ab S M) (hi:M.runs[i]?=some r) (st:Int):Ab (S.finish r.id st) (M.endr i r st):=by
 have E:=ok.ended (h.get hi) st;have hk:(S.finish r.id st).runs.map (·.1)=(M.setR i (r.fin st (M.ends+1))).runs.map (·.id):=by rw[E.keys,h.keys,oD (r':=r.fin st (M.ends+1)) hi rfl]
 have Y:((M.setR i (r.fin st (M.ends+1))).runs.map (·.id)).Nodup:=by rw[oD (r':=r.fin st (M.ends+1)) hi rfl];exact h.nd
 refine⟨E.now.trans h.now,E.seed.trans h.seed,E.KT.trans h.lr,E.KS.trans h.lt,by rw[E.ends,h.ends];rfl,It hk Y λu hu=>?_,?_,Y⟩
 · obtain⟨j,I⟩:=List.getElem?_of_mem hu
   have I:(M.runs.set i (r.fin st (M.ends+1)))[j]?=some u:=I;rw[List.getElem?_set] at I
   split at I
   · rename_i J
     split at I
     · injection I with I
       subst I;obtain⟨R',e1,e2,e3,e4,O,T⟩:=E.run;show(S.finish r.id st).getR r.id=some (r.fin st (M.ends+1)).ab;rw[e1]
       congr 1
       obtain⟨fl,mt,KV,en⟩:=R';simp only at e2 e3 e4 O T;subst e2;subst e3;subst e4;have:KV=(r.KV.map endS).map St.ab:=by
        refine List.ext_getElem? λm=>?_;rw[List.getElem?_map,List.getElem?_map];cases hm:r.KV[m]? with
        | none=>
         rw[List.getElem?_eq_none]
         · rfl
         · rw[O]
           show(r.KV.map St.ab).length<=m;rw[List.length_map];exact List.getElem?_eq_none_iff.1 hm
        | some s=>
         rw[T m _ (fI hm),<-KQ]
         rfl
       unfold Rn.ab Rn.fin;rw[this,h.ends]
     · cases I
   · rename_i J
     have K:u.id≠r.id:=λe=>J (xd h.nd hi I e.symm);rw[E.others _ K];exact h.get I
 · rw[E.KX,h.KX]
   unfold En.endr En.drop;simp only[List.filter_map]
   rfl
theorem Sim.endr (ok:FK.Ok S) (h:Ab S M) {tms:List KD} (K:Tm tms M.act M.timers M.time) (O:S.tms.Sublist tms) (T:∀x∈tms,x.1.run≠r.id->x∈S.tms) (hi:M.runs[i]?=some r) {st:Int} (I:st≠1):Sim (S.finish r.id st) (M.endr i r st):=by
 have E:=ok.ended (h.get hi) st;refine⟨h.endr ok hi st,K.sub (E.msub.trans O) (λp=>p.run≠r.id) (λx Y=>?_) (λp J=>?_) (λp J=>?_) (cu _)⟩
 · rw[E.tms]
   exact⟨λh=>h.2,λh=>⟨T x Y h,h⟩⟩
 · rw[yo h hi I,if_neg J]
 · rw[yo h hi I,if_pos (Decidable.not_not.1 J)]
theorem Sim.endr' (ok:FK.Ok S) (h:Sim S M) (hi:M.runs[i]?=some r) (E:st≠1):Sim (S.finish r.id st) (M.endr i r st):=
 Sim.endr ok h.toAb h.tm (List.Sublist.refl _) (λ_ I _=>I) hi E
theorem Sim.settle (ok:FK.Ok S) (h:Sim S M) (hi:M.runs[i]?=some r):Sim (S.settle r.id) (M.settle i):=by
 unfold FK.En.settle En.settle;rw[h.get hi,hi];simp only
 split
 · exact h.endr' ok hi (by split<;>decide)
 · exact h
end
open FK (Pl KD)
def skipK (ns:List FK.Node) (l:List St) (j:Nat):List St:=match l[j]?,ns[j]? with
 | some s,some n=>if s.state=1/\(n.after.any λu=>FK.cO (l.map St.ab) u.toNat 6||FK.cO (l.map St.ab) u.toNat 7) then l.set j {s with state:=7} else l
 | _,_=>l
def mi (ns:List FK.Node) (l:List St) (n:Nat):List St:=(List.range n).foldl (skipK ns) l
def fV (ns:List FK.Node) (n m:Nat) (l:List St):List St:=(List.range m).foldl (λl _=>mi ns l n) l
theorem skipK_len (ns:List FK.Node) (l:List St) (j:Nat):(skipK ns l j).length=l.length:=by
 unfold skipK
 split
 · split
   · simp
   · rfl
 · rfl
theorem lJ (ns:List FK.Node) (l:List St) (n:Nat):mi ns l (n+1)=skipK ns (mi ns l n) n:=by
 unfold mi;rw[List.range_succ,List.foldl_append]
 rfl
theorem pm (ns:List FK.Node) (l:List St):∀n,(mi ns l n).length=l.length
 | 0=>rfl
 | n+1=>by rw[lJ,skipK_len,pm ns l n]
theorem kL (ns:List FK.Node) (n m:Nat) (l:List St):fV ns n (m+1) l=mi ns (fV ns n m l) n:=by
 unfold fV;rw[List.range_succ,List.foldl_append]
 rfl
theorem ky (ns:List FK.Node) (n:Nat) (l:List St):∀m,(fV ns n m l).length=l.length
 | 0=>rfl
 | m+1=>by rw[kL,pm,ky ns n l m]
theorem FY (ns:List FK.Node) (l:List St) (j:Nat):(skipK ns l j).map St.ab=FK.skipK ns (l.map St.ab) j:=by
 unfold skipK FK.skipK;rw[List.getElem?_map];cases l[j]? with
 | none=>rfl
 | some s=>
  cases ns[j]? with
  | none=>rfl
  | some n=>
   simp only[Option.map_some]
   by_cases h:s.state=1/\(n.after.any λu=>FK.cO (l.map St.ab) u.toNat 6||FK.cO (l.map St.ab) u.toNat 7)=true
   · have h3:s.state≠3:=by have:=h.1;omega
     have e:({s with state:=7}:St).ab={s.ab with state:=7}:=by unfold St.ab;simp[h3]
     rw[if_pos h,List.map_set,e];exact(if_pos h).symm
   · rw[if_neg h]
     exact(if_neg h).symm
theorem uy {f:FK.Flow} (O:FK.Fit f):∀(m left:Nat) (T:List Nat),FK.Ordering f.KW left T->f.KW.length-T.length<=m->∃T,FK.Ordering f.KW 0 T
 | m,left,T,h,hm=>by
  by_cases Y:∀i,left.testBit i=true->∃k∈FK.aft f.KW i,left.testBit k=true
  · have:=h.zero O Y
    subst this;exact⟨T,h⟩
  · obtain⟨i,hi⟩:=Classical.not_forall.1 Y
    obtain⟨I,J⟩:=Classical.not_imp.1 hi;have J:∀k∈FK.aft f.KW i,left.testBit k=false:=λk hk=>by
     cases hb:left.testBit k with
     | false=>rfl
     | true=>exact absurd ⟨k,hk,hb⟩ J
    have ht:=h.tell I J (left':=left ^^^ 2 ^ i) λj=>by
     rw[Nat.testBit_xor,Nat.testBit_two_pow]
     by_cases K:i=j
     · subst K
       simp[I]
     · simp[K,Ne.symm K]
    have hi:=(h.bits i).1 I;have mt:T.length<f.KW.length:=by
     have hnd:(i::T).Nodup:=List.nodup_cons.2 ⟨hi.2,h.nodup⟩;have:=FK.ll (m:=List.range f.KW.length) hnd λx E=>by
      rw[List.mem_range];rcases List.mem_cons.1 E with rfl|E
      · exact hi.1
      · exact h.lt x E
     rw[List.length_range,List.length_cons] at this;exact this
    match m with
    | 0=>omega
    | m+1=>exact uy O m _ _ ht (by simp;omega)
theorem FI (E:FK.Fit f):FK.Ordering f.KW 0 (FK.kQ f.KW):=by
 have h:=uy E f.KW.length _ _ (FK.Ordering.start f.KW) cY;unfold FK.kQ;rw[dif_pos h];exact h.choose_spec
section
variable {ns:List FK.Node} {l F:List FK.Sp}
structure Btw (ns:List FK.Node) (l F l':List FK.Sp):Prop where
 at_:∀(j:Nat) (s:FK.Sp),l[j]?=some s->l'[j]?=some s\/l'[j]?=F[j]?
 len:l'.length=l.length
structure Skp (ns:List FK.Node) (l F:List FK.Sp):Prop where
 len:F.length=l.length
 yes:∀(j:Nat) (s:FK.Sp),l[j]?=some s->s.state=1->(∃u∈FK.aft ns j,FK.cO F u 6=true\/FK.cO F u 7=true)->F[j]?=some {s with state:=7}
 no:∀(j:Nat) (s:FK.Sp),l[j]?=some s->¬(s.state=1/\∃u∈FK.aft ns j,FK.cO F u 6=true\/FK.cO F u 7=true)->F[j]?=some s
theorem FC (O:Skp ns l F) (h:Btw ns l F l') {u:Nat} {x:Int} (Y:x=6\/x=7) (I:FK.cO l' u x=true):FK.cO F u x=true:=by
 obtain⟨s,J,e⟩:=FK.oy I;have K:u<l.length:=by rw[<-h.len];exact(gfGet.1 J).1
 rcases h.at_ u _ (List.getElem?_eq_getElem K) with E|E
 · rw[J] at E
   injection E with E;have T:=O.no u _ (List.getElem?_eq_getElem K) λh=>by have:=h.1;rw[<-E,e] at this;omega
   rw[FK.fk T,<-E,e];simp
 · rw[<-FK.jo E]
   exact I
theorem Hm (T:Skp ns l F) (h:Btw ns l F l') (k:Nat):Btw ns l F (FK.skipK ns l' k)/\(∀j:Nat,l'[j]?=F[j]?->(FK.skipK ns l' k)[j]?=F[j]?)/\(k<ns.length->(∀u∈FK.aft ns k,l'[u]?=F[u]?)->(FK.skipK ns l' k)[k]?=F[k]?):=by
 have key:∀(s:FK.Sp) (n:FK.Node),l'[k]?=some s->ns[k]?=some n->s.state=1->(n.after.any λu=>FK.cO l' u.toNat 6||FK.cO l' u.toNat 7)=true->F[k]?=some {s with state:=7}:=λs n I hn h1 ha=>by
  obtain⟨u,hu,mt⟩:=(FK.pI hn l').1 ha;have hl:k<l.length:=by rw[<-h.len];exact(gfGet.1 I).1
  have ex:∃u∈FK.aft ns k,FK.cO F u 6=true\/FK.cO F u 7=true:=⟨u,hu,mt.imp (FC T h (.inl rfl)) (FC T h (.inr rfl))⟩;obtain⟨o,O⟩:∃o,l[k]?=some o:=⟨_,List.getElem?_eq_getElem hl⟩;rcases h.at_ k o O with E|E
  · rw[I] at E
    injection E with E;subst E;exact T.yes k _ O h1 ex
  · rw[I] at E
    by_cases h3:o.state=1
    · have:=T.yes k o O h3 ex
      rw[this] at E;injection E with E;rw[E] at h1;exact absurd h1 cY
    · have:=T.no k o O λh=>h3 h.1
      rw[this] at E;injection E with E;rw[E] at h1;exact absurd h1 h3
 unfold FK.skipK
 split
 · rename_i s n I hn
   split
   · rename_i hc
     have hk:=key s n I hn hc.1 hc.2;have wf:=(gfGet.1 I).1;have J:∀j,(l'.set k {s with state:=7})[j]?=if j=k then F[k]? else l'[j]?:=λj=>by
      by_cases K:j=k
      · rw[if_pos K,K,List.getElem?_set_self wf,hk]
      · rw[if_neg K,List.getElem?_set_ne (Ne.symm K)]
     refine⟨⟨λj o O=>?_,by rw[List.length_set,h.len]⟩,λj K=>?_,λ_ _=>?_⟩
     · rw[J]
       by_cases K:j=k
       · rw[if_pos K,K];exact .inr rfl
       · rw[if_neg K];exact h.at_ j o O
     · rw[J]
       by_cases Y:j=k
       · rw[if_pos Y,Y]
       · rw[if_neg Y];exact K
     · rw[J,if_pos rfl]
   · rename_i hc
     refine⟨h,λ_ h=>h,λ_ hu=>?_⟩;have hl:k<l.length:=by rw[<-h.len];exact(gfGet.1 I).1
     obtain⟨o,O⟩:∃o,l[k]?=some o:=⟨_,List.getElem?_eq_getElem hl⟩;rcases h.at_ k o O with E|E
     · rw[I] at E
       injection E with E;subst E;rw[I];refine(T.no k _ O λhx=>hc ⟨hx.1,(FK.pI hn l').2 ?_⟩).symm;obtain⟨u,h3,h4⟩:=hx.2;rw[<-FK.jo (hu u h3),<-FK.jo (hu u h3)] at h4;exact⟨u,h3,h4⟩
     · exact E
 · rename_i hx
   refine⟨h,λ_ h=>h,λhk _=>?_⟩;cases I:l'[k]? with
   | none=>
    have:=List.getElem?_eq_none_iff.1 I;rw[h.len,<-T.len] at this;rw[List.getElem?_eq_none this]
   | some s=>exact absurd (List.getElem?_eq_getElem hk) (λhn=>hx _ _ I hn)
theorem vo {l':List FK.Sp} (I:Skp ns l F) (h:Btw ns l F l'):∀n,n<=ns.length->Btw ns l F ((List.range n).foldl (FK.skipK ns) l')/\(∀j:Nat,l'[j]?=F[j]?->((List.range n).foldl (FK.skipK ns) l')[j]?=F[j]?)/\∀k,k<n->(∀u∈FK.aft ns k,l'[u]?=F[u]?)->((List.range n).foldl (FK.skipK ns) l')[k]?=F[k]?
 | 0,_=>⟨h,λ_ h=>h,λ_ h=>absurd h (Nat.not_lt_zero _)⟩
 | n+1,hn=>by
  obtain⟨Y,K,h3⟩:=vo I h n am;rw[List.range_succ,List.foldl_append];obtain⟨k1,O,k3⟩:=Hm I Y n;refine⟨k1,λj T=>O j (K j T),λk hk J=>?_⟩;rcases Nat.lt_succ_iff_lt_or_eq.1 hk with hk|rfl
  · exact O k (h3 k hk J)
  · exact k3 am λu E=>K u (J u E)
end
theorem xr (ns:List FK.Node) (l:List St):∀n,(mi ns l n).map St.ab=(List.range n).foldl (FK.skipK ns) (l.map St.ab)
 | 0=>rfl
 | n+1=>by
  rw[lJ,FY,xr ns l n,List.range_succ,List.foldl_append]
  rfl
theorem DK (hf:FK.Fit f) {l:List St} (hl:l.length=f.KW.length):(fV f.KW l.length l.length l).map St.ab=(FK.kQ f.KW).foldl (FK.skipK f.KW) (l.map St.ab):=by
 obtain⟨T,hT⟩:∃T,T=FK.kQ f.KW:=⟨_,rfl⟩;have E:=FI hf;rw[<-hT] at E ⊢;obtain⟨F,I⟩:∃F,F=T.foldl (FK.skipK f.KW) (l.map St.ab):=⟨_,rfl⟩;have Y:(l.map St.ab).length=f.KW.length:=by rw[List.length_map,hl]
 have hF:Skp f.KW (l.map St.ab) F:=by
  have hs:=FK.mG Y T.length T rfl (E.beh hf);rw[<-I] at hs;refine⟨by rw[I,FK.lq],λj s h O hu=>(hs j s h).1 ⟨E.full j ?_,O,hu⟩,λj s h hn=>(hs j s h).2 λh=>hn h.2⟩;have:=(gfGet.1 h).1;omega
 rw[<-I];have mt:T.length<=l.length:=by
  have:=FK.ll (m:=List.range f.KW.length) E.nodup λx hx=>List.mem_range.2 (E.lt x hx);rw[hl];simpa using this
 have key:∀m,Btw f.KW (l.map St.ab) F ((fV f.KW l.length m l).map St.ab)/\∀k∈T.take m,((fV f.KW l.length m l).map St.ab)[k]?=F[k]?:=by
  intro m
  induction m with
  | zero=>exact⟨⟨λj s h=>.inl h,rfl⟩,λk hk=>by simp at hk⟩
  | succ m ih=>
   obtain⟨O,h2⟩:=ih;rw[kL,xr];obtain⟨k1,k2,k3⟩:=vo hF O l.length am;refine⟨k1,λk hk=>?_⟩
   by_cases J:k∈T.take m
   · exact k2 k (h2 k J)
   · have K:m<T.length:=by
      refine Classical.byContradiction λhm=>J ?_;rw[List.take_of_length_le am] at hk ⊢;exact hk
     rw[List.take_succ_eq_append_getElem K,List.mem_append,List.mem_singleton] at hk;rcases hk with hk|rfl
     · exact absurd hk J
     · refine k3 _ (by rw[hl];exact E.lt _ (List.getElem_mem K)) λu hu=>h2 u ?_
       have e:T=T.take m++T[m]::T.drop (m+1):=by
        rw[<-List.drop_eq_getElem_cons K,List.take_append_drop]
       exact(E.beh hf).2 _ _ _ e u hu
 obtain⟨O,h2⟩:=key l.length;refine List.ext_getElem? λj=>?_
 by_cases hj:j<f.KW.length
 · exact h2 j (by rw[List.take_of_length_le mt];exact E.full j hj)
 · rw[List.getElem?_eq_none (by rw[O.len];omega),List.getElem?_eq_none (by rw[hF.len];omega)]
open FK (Pl KD)
def En.fails (M:En) (i k:Nat) (r:Rn) (s:St) (n:FK.Node):En:=
 if s.KU<n.KZ then {M.setR i (r.setS k {s with state:=4,fin:=M.later (FK.fU n.base n.cap n.K0 s.KU M.seed).toNat,finAt:=M.timers+1}) with timers:=M.timers+1}
 else(M.setR i {r with KV:=fV r.fl.KW r.KV.length r.KV.length (r.KV.set k {s with state:=6})}).settle i
def En.complete (M:En) (i k:Nat) (r:Rn) (s:St):En:=((M.setR i (r.setS k {s with state:=5})).wakeN i r.KV.length).settle i
def En.handS (M:En) (s:St) (n:FK.Node):St:=⟨3,s.KU+1,M.KS+1,M.later n.close.toNat,if 0<n.beat then M.later n.beat.toNat else 0,M.timers+1,if 0<n.beat then M.timers+2 else s.signAt⟩
def En.hand (M:En) (q:List (Nat×Int)) (i k:Nat) (r:Rn) (s:St) (n:FK.Node):En:={M.setR i (r.setS k (M.handS s n)) with KX:=q,KS:=M.KS+1,timers:=if 0<n.beat then M.timers+2 else M.timers+1}
def En.beat (M:En) (i k:Nat) (r:Rn) (s:St) (n:FK.Node):En:=if 0<n.beat then {M.setR i (r.setS k {s with sign:=M.later n.beat.toNat,signAt:=M.timers+1}) with timers:=M.timers+1} else M
section
variable {M:En} {r:Rn} {s s':St}
theorem lm (h:Ab S M) (n:Nat):S.later n=M.later n:=by
 unfold FK.En.later En.later;rw[h.now]
theorem lB (h:Ab S M) (hi:M.runs[i]?=some r) (J:r.KV[k]?=some s) (p:Pl):(M.setR i (r.setS k s')).act p=if p.run=r.id/\p.node=k then(if r.state=1 then s'.act p.what else none) else M.act p:=by
 rw[rA (r':=r.setS k s') h.nd hi rfl,ym J]
 by_cases I:p.run=r.id
 · rw[if_pos I]
   by_cases hk:p.node=(k:Int)
   · rw[if_pos (And.intro I hk)]
     by_cases E:r.state=1
     · rw[if_pos (And.intro E hk),if_pos E]
     · rw[if_neg λh=>E h.1,if_neg E]
       unfold Rn.act;exact if_neg E
   · rw[if_neg λh=>hk h.2,if_neg λh=>hk h.2,pg h.nd hi I]
 · rw[if_neg I,if_neg λh=>I h.1]
theorem oK (h:Ab S M) (hi:M.runs[i]?=some r) (E:r.KV[k]?=some s) (I:p.run=r.id) (hk:p.node=k):M.act p=if r.state=1 then s.act p.what else none:=by
 rw[pg h.nd hi I];unfold Rn.act;have J:¬(k:Int)=-1:=am;rw[hk];simp[J,E]
theorem ki (E:w≠1) (I:w≠2):s.act w=none:=by
 unfold St.act;rw[if_neg λh=>E h.1,if_neg λh=>I h.1]
theorem Hw {b c:Int} (E:p.run=a) (I:p.node=b) (h3:p.what=c):p=⟨a,b,c⟩:=by
 obtain⟨_,_,_⟩:=p;simp only at E I h3;subst E;subst I;subst h3
 rfl
theorem Ab.part (h:Ab S M) (hi:M.runs[i]?=some r) (J:r.KV[k]?=some s) (I:s'.ab=⟨st,s.KU,0⟩):Ab ((S.leave r.id k).setR r.id (r.ab.turned k s.ab st)) (M.setR i (r.setS k s')):=by
 unfold FK.Rn.turned;rw[FK.ow (h.get hi) (fI J)];have E:=h.setR (r':=r.setS k s') hi rfl;rw[vN,I] at E;exact⟨E.now,E.seed,E.lr,E.lt,E.ends,E.runs,E.KX,E.nd⟩
def Gone (id k:Nat) (p:Pl):Prop:=p≠⟨id,(k:Int),1⟩/\p≠⟨id,(k:Int),2⟩
theorem xD (h:Ab S M) (hi:M.runs[i]?=some r) (E:r.KV[k]?=some s) {tms:List KD} (I:S.tms.Sublist tms) (J:∀x∈tms,Gone r.id k x.1->x∈S.tms):((S.leave r.id k).setR r.id (r.ab.turned k s.ab st)).tms.Sublist tms/\∀x∈tms,x∈((S.leave r.id k).setR r.id (r.ab.turned k s.ab st)).tms<->Gone r.id k x.1:=by
 unfold FK.Rn.turned;rw[FK.ow (h.get hi) (fI E)];refine⟨(List.filter_sublist.trans List.filter_sublist).trans I,λx K=>?_⟩;rw[List.mem_filter,List.mem_filter];simp only[bne_iff_ne,ne_eq];exact⟨λh=>⟨h.1.2,h.2⟩,λh=>⟨⟨J x K h,h.1⟩,h.2⟩⟩
theorem Sim.part (h:Ab S M) (hi:M.runs[i]?=some r) (I:r.KV[k]?=some s) {tms:List KD} (ht:Tm tms M.act M.timers M.time) (K:S.tms.Sublist tms) (T:∀x∈tms,Gone r.id k x.1->x∈S.tms) {st:Int} (J:s'.ab=⟨st,s.KU,0⟩) (h3:st≠3) (h4:st≠4):Sim ((S.leave r.id k).setR r.id (r.ab.turned k s.ab st)) (M.setR i (r.setS k s')):=by
 obtain⟨k1,k2⟩:=xD (st:=st) h hi I K T;have e:s'.state=st:=congrArg FK.Sp.state J;have Y:∀w,s'.act w=none:=λw=>by unfold St.act;rw[e];simp[h3,h4]
 refine⟨h.part hi I J,ht.sub k1 (Gone r.id k) k2 (λp O=>?_) (λp O=>?_) (cu _)⟩
 · rw[lB h hi I]
   split
   · rename_i E
     rw[oK h hi I E.1 E.2,Y,ki λe=>O.1 (Hw E.1 E.2 e)];exact λe=>O.2 (Hw E.1 E.2 e)
   · rfl
 · have E:p.run=r.id/\p.node=k:=by
    by_cases K:p=⟨r.id,(k:Int),1⟩
    · rw[K];exact⟨rfl,rfl⟩
    · have:p=⟨r.id,(k:Int),2⟩:=Classical.byContradiction λT=>O ⟨K,T⟩
      rw[this];exact⟨rfl,rfl⟩
   rw[lB h hi I,if_pos E,Y,ite_self]
theorem Sim.complete (ok:FK.Ok S) (h:Sim S M) (hi:M.runs[i]?=some r) (E:r.KV[k]?=some s) (h3:s.state=3) {t:Nat} (T:(S.KY.find? (·.1==t)).map (·.2)=some ⟨r.id,(k:Int),0⟩):Sim (S.complete t) (M.complete i k r s):=by
 have I:=h.get hi;obtain⟨n,hn,_⟩:=ok.node I (fI E);have hl:(r.setS k {s with state:=5}).KV.length=(r.setS k {s with state:=5}).fl.KW.length:=by
  have:=(ok.run _ _ I).len;simpa[Rn.setS,Rn.ab] using this
 rw[FK.mW T I (fI E)];have hp:=Sim.part (s':={s with state:=5}) (st:=5) h.toAb hi E h.tm (List.Sublist.refl _) (λ_ Y _=>Y) (by unfold St.ab;simp) fi fi;have J:=ok.part I (fI E) hn h3 (.inl rfl);have K:(M.setR i (r.setS k {s with state:=5})).runs[i]?=some (r.setS k {s with state:=5}):=by
  have:=(gfGet.1 hi).1;unfold En.setR;simp[this]
 obtain⟨h1,r',h2,h4⟩:=hp.wake K hl;have O:=h1.settle (J.wake _) h2;rw[h4] at O;have e:(r.setS k {s with state:=5}).KV.length=r.KV.length:=by simp[Rn.setS]
 rw[e] at O;exact O
theorem DC (ns:List FK.Node) (l:List St) (k j:Nat) (w:Int):((skipK ns l k)[j]?.bind λs=>s.act w)=l[j]?.bind λs=>s.act w:=by
 unfold skipK
 split
 · rename_i s n E K
   split
   · rename_i hc
     by_cases I:j=k
     · subst I
       rw[List.getElem?_set_self (gfGet.1 E).1,E];have J:=hc.1;show St.act _ w=s.act w;unfold St.act;simp[J]
     · rw[List.getElem?_set_ne (Ne.symm I)]
   · rfl
 · rfl
theorem uC (ns:List FK.Node) (l:List St) (j:Nat) (w:Int):∀n,((mi ns l n)[j]?.bind λs=>s.act w)=l[j]?.bind λs=>s.act w
 | 0=>rfl
 | n+1=>by rw[lJ,DC,uC ns l j w n]
theorem pZ (ns:List FK.Node) (n:Nat) (l:List St) (j:Nat) (w:Int):∀m,((fV ns n m l)[j]?.bind λs=>s.act w)=l[j]?.bind λs=>s.act w
 | 0=>rfl
 | m+1=>by rw[kL,uC,pZ ns n l j w m]
theorem Sim.fails (ok:FK.Ok S) (h:Ab S M) (hi:M.runs[i]?=some r) (I:r.KV[k]?=some s) (h3:s.state=3) {tms:List KD} (ht:Tm tms M.act M.timers M.time) (Y:S.tms.Sublist tms) (h2:∀x∈tms,Gone r.id k x.1->x∈S.tms) {n:FK.Node} (hn:r.fl.KW[k]?=some n):Sim (S.failed r.id k) (M.fails i k r s n):=by
 have hR:=h.get hi;have hk:=(gfGet.1 I).1;obtain⟨E,mt,Fd⟩:=ok.node hR (fI I);obtain rfl:E=n:=by
  have:r.fl.KW[k]?=some E:=mt;rw[hn] at this;injection this with this;exact this.symm
 have In:=(gfGet.1 hi).1;rw[FK.kb hR (fI I) mt];unfold En.fails;show Sim (if s.KU<E.KZ then _ else _) _
 split
 · rename_i hb
   unfold FK.En.rests;have K3:(S.leave r.id k).later (FK.fU E.base E.cap E.K0 s.KU S.seed).toNat=M.later (FK.fU E.base E.cap E.K0 s.KU M.seed).toNat:=by
    rw[FK.fe hR (fI I)];show S.later _=_;rw[lm h,h.seed]
   have K9:s.ab.KU=s.KU:=rfl;rw[K9,K3];obtain⟨a,ha⟩:∃a,a=M.later (FK.fU E.base E.cap E.K0 s.KU M.seed).toNat:=⟨_,rfl⟩;rw[<-ha];obtain⟨k1,k2⟩:=xD (st:=4) h hi I Y h2;have O:=h.part (s':={s with state:=4,fin:=a,finAt:=M.timers+1}) (st:=4) hi I (by unfold St.ab;simp);refine⟨⟨O.now,O.seed,O.lr,O.lt,O.ends,O.runs,O.KX,O.nd⟩,?_⟩;have K4:r.state=1:=by
    have:=Fd.over;refine Classical.byContradiction λK7=>?_;have h4:s.ab.state=3:=h3;rcases this K7 with h|h|h<;>rw[h4] at h<;>exact absurd h fi
   obtain⟨q,hq⟩:∃q,q=λp=>decide (p≠(⟨r.id,(k:Int),1⟩:Pl)/\p≠⟨r.id,(k:Int),2⟩):=⟨_,rfl⟩;have hT:Tm ((S.leave r.id k).setR r.id (r.ab.turned k s.ab 4)).tms (λp=>if q p then M.act p else none) M.timers M.time:=
    ht.sub k1 (Gone r.id k) k2 (λp J=>by simp only[hq];exact if_pos (vA (show p≠_/\p≠_ from J))) (λp J=>by simp only[hq];exact if_neg λe=>J (show p≠_/\p≠_ from of_decide_eq_true e)) (cu _)
   have T:∀p,(M.setR i (r.setS k {s with state:=4,fin:=a,finAt:=M.timers+1})).act p=_:=λp=>lB (s':={s with state:=4,fin:=a,finAt:=M.timers+1}) h hi I p;refine hT.set ⟨r.id,(k:Int),1⟩ a ?_ ?_ λp J=>?_
   · rw[ha,<-lm h]
     have:=ok.now;have e:=h.now;unfold FK.En.later;show M.time<=_;omega
   · refine(T _).trans ?_
     rw[if_pos ⟨rfl,rfl⟩,if_pos K4];unfold St.act;exact if_pos ⟨rfl,.inr rfl⟩
   · refine(T p).trans ?_
     simp only[hq]
     by_cases hc:p.run=r.id/\p.node=k
     · rw[if_pos hc,if_pos K4]
       have hw:p.what≠1:=λe=>J (Hw hc.1 hc.2 e);have e4:({s with state:=4,fin:=a,finAt:=M.timers+1}:St).act p.what=none:=by unfold St.act;simp[hw]
       rw[e4]
       by_cases K5:p.what=2
       · exact(if_neg (by simp[Hw hc.1 hc.2 K5])).symm
       · rw[oK h hi I hc.1 hc.2,ki hw K5,ite_self,ite_self]
     · rw[if_neg hc]
       refine(if_pos ?_).symm;simp only[decide_eq_true_eq];exact⟨J,λe=>hc (by rw[e];exact⟨rfl,rfl⟩)⟩
 · rename_i hb
   unfold FK.En.dies;have Lb:s.KU=E.KZ:=by have:=Fd.trb;have e:s.ab.KU=s.KU:=rfl;omega
   have J:=Sim.part (s':={s with state:=6}) (st:=6) h hi I ht Y h2 (by unfold St.ab;simp) fi fi;have Lc:=ok.part hR (fI I) mt h3 (.inr (.inr ⟨rfl,Lb⟩));have hl:(r.KV.set k {s with state:=6}).length=r.fl.KW.length:=by
    have:=(ok.run _ _ hR).len;simpa[Rn.ab] using this
   have Ld:r.KV.length=(r.KV.set k {s with state:=6}).length:=by simp
   obtain⟨rd,K⟩:∃rd,rd=fV r.fl.KW r.KV.length r.KV.length (r.KV.set k {s with state:=6}):=⟨_,rfl⟩;have Le:rd.map St.ab=(FK.kQ r.fl.KW).foldl (FK.skipK r.fl.KW) ((r.KV.set k {s with state:=6}).map St.ab):=by
    rw[K,Ld];exact DK (ok.run _ _ hR).fl hl
   have Li:rd.length=r.KV.length:=by rw[K,ky,List.length_set]
   rw[<-K];have wf:(M.setR i (r.setS k {s with state:=6})).runs[i]?=some (r.setS k {s with state:=6}):=by unfold En.setR;simp[In]
   have hS:=J.toAb.setR (r':={r with KV:=rd}) wf rfl;have e1:(M.setR i (r.setS k {s with state:=6})).setR i {r with KV:=rd}=M.setR i {r with KV:=rd}:=by unfold En.setR;simp
   have e2:({r with KV:=rd}:Rn).ab=(r.ab.turned k s.ab 6).skips (FK.kQ r.fl.KW):=by
    unfold FK.Rn.skips FK.Rn.turned;rw[FK.setS_setS];show(⟨r.fl,r.state,rd.map St.ab,r.ended⟩:FK.Rn)=⟨r.fl,r.state,_,r.ended⟩;rw[Le,List.map_set]
    rfl
   have e3:((S.leave r.id k).setR r.id (r.ab.turned k s.ab 6)).setR r.id ((r.ab.turned k s.ab 6).skips (FK.kQ r.fl.KW))=(S.leave r.id k).setR r.id ((r.ab.turned k s.ab 6).skips (FK.kQ r.fl.KW)):=FK.setR_setR;have e4:(r.setS k {s with state:=6}).id=r.id:=rfl;rw[e1,e2,e4,e3] at hS;have Lg:((S.leave r.id k).setR r.id (r.ab.turned k s.ab 6)).getR r.id=some (r.ab.turned k s.ab 6):=FK.lz hR (fI I);have BT:=FK.Ok.skips (FK.kQ r.fl.KW) Lc Lg;have BT:FK.Ok _:=e3▸BT;have K6:Sim ((S.leave r.id k).setR r.id ((r.ab.turned k s.ab 6).skips (FK.kQ r.fl.KW))) (M.setR i {r with KV:=rd}):=by
    refine⟨hS,?_⟩;refine J.tm.same λp=>?_;rw[<-e1,rA (r':={r with KV:=rd}) J.nd wf rfl]
    split
    · rename_i K8
      rw[pg J.nd wf K8];unfold Rn.act Rn.setS;simp only
      by_cases Y:r.state=1
      · rw[if_pos Y,if_pos Y]
        by_cases h2:p.node=-1
        · rw[if_pos h2,if_pos h2]
        · rw[if_neg h2,if_neg h2]
          by_cases h0:0<=p.node
          · rw[if_pos h0,if_pos h0,K]
            obtain⟨j,hj⟩:∃j,j=p.node.toNat:=⟨_,rfl⟩;rw[<-hj];exact pZ _ _ _ _ _ _
          · rw[if_neg h0,if_neg h0]
      · rw[if_neg Y,if_neg Y]
    · rfl
   have Lh:(M.setR i {r with KV:=rd}).runs[i]?=some {r with KV:=rd}:=by unfold En.setR;simp[In]
   exact Sim.settle (r:={r with KV:=rd}) BT K6 Lh
end
open FK (Pl KD)
section
variable {M:En} {r:Rn} {s:St}
theorem sc (ok:FK.Ok S) (h:Ab S M) (n:Nat):M.time<=M.later n:=by
 have:=ok.now;have:=h.now;unfold En.later;omega
theorem Sim.hand (ok:FK.Ok S) (h:Sim S M) {q:List (Nat×Int)} (hq:M.KX=(r.id,(k:Int))::q) (hi:M.runs[i]?=some r) (hs:r.KV[k]?=some s) {n:FK.Node} (hn:r.fl.KW[k]?=some n):Sim (S.hand ⟨r.id,(k:Int),0⟩ (q.map xa) r.ab s.ab n) (M.hand q i k r s n):=by
 have hR:=h.get hi;have mt:S.KX=⟨r.id,(k:Int),0⟩::q.map xa:=by rw[h.KX,hq];rfl
 obtain⟨h2,_⟩:=ok.handT mt hR (fI hs) hn;have h2:s.state=2:=h2;have wf:r.state=1:=((ok.run _ _ hR).sp k _ n (fI hs) hn).running (.inr (.inl h2));have E:=h.toAb.setR (r':=r.setS k (M.handS s n)) hi rfl;rw[vN] at E;have BT:(M.handS s n).ab=⟨3,s.ab.KU+1,S.KS+1⟩:=by
  unfold En.handS St.ab;rw[h.lt]
  rfl
 rw[BT] at E;have T:=sc ok h.toAb;have K:∀p,(M.hand q i k r s n).act p=if p.run=r.id/\p.node=k then(M.handS s n).act p.what else M.act p:=λp=>by
  refine(lB (s':=M.handS s n) h.toAb hi hs p).trans ?_;simp only[wf,if_true]
 have Fd:0<n.beat->0<M.later n.beat.toNat:=λI=>by unfold En.later;omega
 have e1:(M.handS s n).act 1=some (M.later n.close.toNat,M.timers+1):=by unfold En.handS St.act;exact if_pos ⟨rfl,.inl rfl⟩
 have e2:(M.handS s n).act 2=if 0<n.beat then some (M.later n.beat.toNat,M.timers+2) else none:=by
  unfold En.handS St.act
  by_cases I:0<n.beat
  · simp[I,Fd I]
  · simp[I]
 have O:∀p:Pl,p.run=r.id->p.node=k->M.act p=none:=λp J h3=>yn h.toAb hi hs am am J h3;obtain⟨B,hB⟩:∃B:Pl->Option (Nat×Nat),B=λp=>if p=⟨r.id,(k:Int),1⟩ then some (M.later n.close.toNat,M.timers+1) else M.act p:=⟨_,rfl⟩
 have hT:Tm (S.tms.filter (λx=>x.1 !=⟨r.id,(k:Int),1⟩)++[(⟨r.id,(k:Int),1⟩,M.later n.close.toNat)]) B (M.timers+1) M.time:=
  h.tm.set _ _ (T _) (by rw[hB];exact if_pos rfl) λx hx=>by rw[hB];exact if_neg hx
 have Y:Tm ((S.handT r.id k (q.map xa) r.ab s.ab).setT ⟨r.id,(k:Int),1⟩ (S.later n.close.toNat)).tms B (M.timers+1) M.time:=by
  rw[lm h.toAb];exact hT
 rw[FK.vY];unfold FK.En.life
 by_cases I:0<n.beat
 · rw[if_pos I]
   refine⟨⟨E.now,E.seed,E.lr,by show S.KS+1=M.KS+1;rw[h.lt],E.ends,E.runs,rfl,E.nd⟩,?_⟩;have e3:(M.hand q i k r s n).timers=M.timers+1+1:=by unfold En.hand;exact if_pos I
   rw[e3];have e4:FK.En.later ((S.handT r.id k (q.map xa) r.ab s.ab).setT ⟨r.id,(k:Int),1⟩ (S.later n.close.toNat)) n.beat.toNat=M.later n.beat.toNat:=lm h.toAb _;rw[e4];refine Y.set ⟨r.id,(k:Int),2⟩ _ (T _) ?_ λx hx=>?_
   · rw[K,if_pos ⟨rfl,rfl⟩]
     rw[e2,if_pos I]
   · rw[K,hB]
     by_cases hc:x.run=r.id/\x.node=k
     · rw[if_pos hc]
       by_cases J:x.what=1
       · rw[J,e1]
         exact(if_pos (Hw hc.1 hc.2 J)).symm
       · rw[ki J λe=>hx (Hw hc.1 hc.2 e)]
         simp only;rw[if_neg λe=>J (by rw[e]),O x hc.1 hc.2]
     · rw[if_neg hc]
       exact(if_neg λe=>hc (by rw[e];exact⟨rfl,rfl⟩)).symm
 · rw[if_neg I]
   refine⟨⟨E.now,E.seed,E.lr,by show S.KS+1=M.KS+1;rw[h.lt],E.ends,E.runs,rfl,E.nd⟩,?_⟩;have e3:(M.hand q i k r s n).timers=M.timers+1:=by unfold En.hand;exact if_neg I
   rw[e3];refine Y.same λx=>?_;rw[K,hB]
   by_cases hc:x.run=r.id/\x.node=k
   · rw[if_pos hc]
     by_cases J:x.what=1
     · rw[J,e1]
       exact(if_pos (Hw hc.1 hc.2 J)).symm
     · simp only
       rw[if_neg λe=>J (by rw[e]),O x hc.1 hc.2]
       by_cases h3:x.what=2
       · rw[h3,e2,if_neg I]
       · exact ki J h3
   · rw[if_neg hc]
     exact(if_neg λe=>hc (by rw[e];exact⟨rfl,rfl⟩)).symm
theorem Sim.beat (ok:FK.Ok S) (h:Sim S M) (hi:M.runs[i]?=some r) (K:r.KV[k]?=some s) (h3:s.state=3) {n:FK.Node} (hn:r.fl.KW[k]?=some n) (w:Int):Sim (S.life ⟨r.id,(k:Int),w⟩ n) (M.beat i k r s n):=by
 have Y:=h.get hi;have J:r.state=1:=((ok.run _ _ Y).sp k _ n (fI K) hn).running (.inr (.inr (.inl h3)));unfold FK.En.life En.beat
 by_cases O:0<n.beat
 · rw[if_pos O,if_pos O]
   have E:=h.toAb.setR (r':=r.setS k {s with sign:=M.later n.beat.toNat,signAt:=M.timers+1}) hi rfl;rw[vN] at E;have e:({s with sign:=M.later n.beat.toNat,signAt:=M.timers+1}:St).ab=s.ab:=rfl;have e0:S.setR r.id (r.ab.setS k s.ab)=S:=by
    have:r.ab.setS k s.ab=r.ab:=by
     unfold FK.Rn.setS;have hk:=(gfGet.1 (fI K));obtain⟨hk,T⟩:=hk;rw[<-T,List.set_getElem_self]
    rw[this];exact FK.nk ok Y
   rw[e,e0] at E;refine⟨⟨E.now,E.seed,E.lr,E.lt,E.ends,E.runs,E.KX,E.nd⟩,?_⟩;rw[lm h.toAb];have I:=lB (s':={s with sign:=M.later n.beat.toNat,signAt:=M.timers+1}) h.toAb hi K;refine h.tm.set ⟨r.id,(k:Int),2⟩ _ (sc ok h.toAb _) ((I _).trans ?_) λx hx=>(I _).trans ?_
   · rw[if_pos ⟨rfl,rfl⟩,if_pos J]
     have h0:0<M.later n.beat.toNat:=by unfold En.later;omega
     unfold St.act;simp[h3,h0]
   · by_cases hc:x.run=r.id/\x.node=k
     · rw[if_pos hc,if_pos J,oK h.toAb hi K hc.1 hc.2,if_pos J]
       have hw:x.what≠2:=λe=>hx (Hw hc.1 hc.2 e);unfold St.act;simp[hw]
     · rw[if_neg hc]
 · rw[if_neg O,if_neg O]
   exact h
end
def En.ids (M:En):List (Nat×Nat):=M.runs.map λr=>(r.id,r.ended)
def Ke (M:En):Prop:=M.ids.Pairwise λa b=>a.1<b.1/\(0<a.2->a.2≠b.2)
theorem lE {M:En} {r r':Rn} (hi:M.runs[i]?=some r) (e:r'.id=r.id) (E:r'.ended=r.ended):(M.setR i r').ids=M.ids:=by
 unfold En.ids En.setR;simp only[List.map_set,e,E];exact List.ext_getElem? λj=>by
  rw[List.getElem?_set]
  split
  · rename_i h
    subst h;have:=(gfGet.1 hi).1;rw[if_pos (by simpa using this),List.getElem?_map,hi]
    rfl
  · rfl
theorem Eg (M:En) (i k:Nat):(En.wakeK i M k).ids=M.ids:=by
 unfold En.wakeK
 split
 · rename_i r hi
   split
   · split
     · exact lE hi rfl rfl
     · rfl
   · rfl
 · rfl
theorem pz (M:En) (i:Nat):∀n,(M.wakeN i n).ids=M.ids
 | 0=>rfl
 | n+1=>by rw[wakeN_succ,Eg,pz M i n]
theorem kD (M:En) (i:Nat):∀n,(M.wakeN i n).ends=M.ends
 | 0=>rfl
 | n+1=>by
  rw[wakeN_succ];unfold En.wakeK
  split
  · split
    · split
      · exact kD M i n
      · exact kD M i n
    · exact kD M i n
  · exact kD M i n
theorem Ke.endr {M:En} {i:Nat} {r:Rn} (h:Ke M) (hi:M.runs[i]?=some r) (he:∀u∈M.runs,u.ended<=M.ends) (st:Int):Ke (M.endr i r st):=by
 unfold Ke at *
 have e:(M.endr i r st).ids=M.ids.set i (r.id,M.ends+1):=by
  unfold En.ids En.endr En.drop En.setR Rn.fin;simp only[List.map_set]
 rw[e];have E:M.ids[i]?=some (r.id,r.ended):=by unfold En.ids;rw[List.getElem?_map,hi];rfl
 have hl:=(gfGet.1 E).1;have I:∀x∈M.ids,x.2<=M.ends:=λx T=>by
  obtain⟨u,hu,rfl⟩:=List.mem_map.1 T;exact he u hu
 rw[List.pairwise_iff_getElem] at *
 intro a b Y hb mt;rw[List.length_set] at Y hb;have J:=h a b Y hb mt;have T:=gfGet.1 E;rw[List.getElem_set,List.getElem_set]
 by_cases K:i=a
 · subst K
   rw[if_pos rfl,if_neg am];rw[T.2] at J;exact⟨J.1,λ_=>by have:=I _ (List.getElem_mem hb);show M.ends+1≠_;omega⟩
 · rw[if_neg K]
   by_cases O:i=b
   · subst O
     rw[if_pos rfl];rw[T.2] at J;exact⟨J.1,λ_=>by have:=I _ (List.getElem_mem Y);show _≠M.ends+1;omega⟩
   · rw[if_neg O]
     exact J
theorem Ab.endle {M:En} (ok:FK.Ok S) (h:Ab S M):∀u∈M.runs,u.ended<=M.ends:=λu E=>by
 obtain⟨i,hi⟩:=List.getElem?_of_mem E;rw[<-h.ends];exact(ok.run _ _ (h.get hi)).ends
theorem Ke.settle {S:FK.En} {M:En} {i:Nat} (ok:FK.Ok S) (h:Ab S M) (k:Ke M):Ke (M.settle i):=by
 unfold En.settle
 split
 · rename_i r hi
   split
   · exact k.endr hi (h.endle ok) _
   · exact k
 · exact k
structure Old (M:En) (o:Option Nat):Prop where
 some:∀j,o=some j->∃r,M.runs[j]?=some r/\0<r.ended/\∀u∈M.runs,0<u.ended->r.ended<=u.ended
 none:o=none->∀u∈M.runs,u.ended=0
theorem vh {r:Rn}:∀{l:List Rn} {x:Nat},l[x]?=some r->(l.map (·.id)).Nodup->l.eraseP (·.id==r.id)=l.eraseIdx x
 | [],_,h,_=>by simp at h
 | a::l,0,h,_=>by
  have:a=r:=by simpa using h
  subst this;rw[List.eraseP_cons_of_pos cY]
  rfl
 | a::l,x+1,h,hn=>by
  rw[List.map_cons,List.nodup_cons] at hn;have h:l[x]?=some r:=by simpa using h
  have:¬a.id=r.id:=λe=>hn.1 (by rw[e];exact List.mem_map_of_mem (f:=(·.id)) (bY h));rw[List.eraseP_cons_of_neg (by simpa using this),List.eraseIdx_cons_succ,vh h hn.2]
def En.cut (M:En) (j:Nat):En:={M with runs:=M.runs.eraseIdx j}
theorem Sim.cut {S S0:FK.En} {M:En} (ok:FK.Ok S) (h:Sim S M) (k:Ke M) {j:Nat} (ho:Old M (some j)) (h6:S.runs.length=6) (hc:FK.Cut S S0):Sim S0 (M.cut j)/\Ke (M.cut j):=by
 obtain⟨r,K,wf,BT⟩:=ho.some j rfl;have O:=(gfGet.1 K).1;have hR:=h.get K;unfold FK.Cut at hc;rw[if_pos h6] at hc;obtain⟨o,Fd,rfl⟩:=hc;obtain⟨m,rfl,hm⟩:=Fd.2 _ (FK.j9 hR) wf;obtain⟨K5,In⟩:=Fd.1 m rfl;have Y:=K5;rw[h.runs] at Y;obtain⟨u,hu,rfl⟩:=List.mem_map.1 Y;obtain⟨x,hx⟩:=List.getElem?_of_mem hu;have K6:x=j:=by
  have he:r.ended=u.ended:=Nat.le_antisymm (BT u hu In) hm;have T:=(gfGet.1 hx).1;unfold Ke at k;rw[List.pairwise_iff_getElem] at k;refine Classical.byContradiction λK4=>?_;have E:M.ids.length=M.runs.length:=by unfold En.ids;rw[List.length_map]
  have ga:∀y (I:y<M.runs.length) v,M.runs[y]?=some v->M.ids[y]'(by rw[E];exact I)=(v.id,v.ended):=λy I v hv=>by
   unfold En.ids;rw[List.getElem_map];have:=(gfGet.1 hv).2;rw[this]
  rcases Nat.lt_or_gt_of_ne K4 with mt|mt
  · have:=(k x j (by rw[E];exact T) (by rw[E];exact O) mt).2
    rw[ga x T u hx,ga j O r K] at this;exact this In he.symm
  · have:=(k j x (by rw[E];exact O) (by rw[E];exact T) mt).2
    rw[ga x T u hx,ga j O r K] at this;exact this wf he
 subst K6;rw[K] at hx;injection hx with hx;subst hx;have J:(M.runs.eraseIdx x).Sublist M.runs:=List.eraseIdx_sublist _ _;have hnd:((M.runs.eraseIdx x).map (·.id)).Nodup:=h.nd.sublist (J.map _);have K3:∀a,(M.cut x).getR a=if a=r.id then none else M.getR a:=λa=>by
  split
  · rename_i ha
    subst ha;cases hf:(M.cut x).getR r.id with
    | none=>rfl
    | some v=>
     obtain⟨h1,y,I⟩:=ne hf;have I:(M.runs.eraseIdx x)[y]?=some v:=I;rw[List.getElem?_eraseIdx] at I
     split at I
     · have:=xd h.nd I K h1
       omega
     · have:=xd h.nd I K h1
       omega
  · rename_i ha
    cases hf:M.getR a with
    | some v=>
     obtain⟨h1,y,I⟩:=ne hf;have hm:v∈M.runs.eraseIdx x:=(FK.iZ K (bY I)).resolve_left λe=>ha (by rw[<-h1,e]);obtain⟨z,hz⟩:=List.getElem?_of_mem hm;rw[<-h1];exact jY (M:=M.cut x) hnd hz
    | none=>
     cases hg:(M.cut x).getR a with
     | none=>rfl
     | some v=>
      obtain⟨h1,y,I⟩:=ne hg;obtain⟨z,hz⟩:=List.getElem?_of_mem (J.subset (bY I));rw[<-h1,jY h.nd hz] at hf;cases hf
 refine⟨⟨⟨h.now,h.seed,h.lr,h.lt,h.ends,?_,h.KX,hnd⟩,h.tm.same λp=>?_⟩,?_⟩
 · show S.runs.eraseP (·.1==r.id)=(M.runs.eraseIdx x).map Rn.abI
   rw[<-vh K h.nd,h.runs,List.eraseP_map]
   rfl
 · unfold En.act
   rw[K3]
   by_cases hp:p.run=r.id
   · rw[if_pos hp,hp,jY h.nd K]
     have:r.state≠1:=λe=>by
      have:=(ok.run _ _ hR).ended.2 e;have e2:r.ab.ended=r.ended:=rfl;omega
     unfold Rn.act;exact(if_neg this).symm
   · rw[if_neg hp]
 · unfold Ke En.ids at *
   exact k.sublist (J.map _)
def En.begin (M:En) (fl:FK.Flow):En:={M with runs:=M.runs++[⟨M.KT+1,fl,1,M.later fl.deadline.toNat,M.timers+1,List.replicate fl.KW.length ⟨1,0,0,0,0,0,0⟩,0⟩],KT:=M.KT+1,timers:=M.timers+1}
def En.submit (M:En) (fl:FK.Flow):En:=(M.begin fl).wakeN M.runs.length fl.KW.length
theorem Sim.submit {S:FK.En} {M:En} (ok:FK.Ok S) (h:Sim S M) (k:Ke M) {fl:FK.Flow}:Sim (S.submit fl) (M.submit fl)/\Ke (M.submit fl):=by
 have I:∀u∈M.runs,u.id<=M.KT:=λu O=>by
  have:=ok.low u.id (by rw[h.keys];exact List.mem_map_of_mem (f:=(·.id)) O);rw[<-h.lr];exact this.2
 obtain⟨r,E⟩:∃r:Rn,r=⟨M.KT+1,fl,1,M.later fl.deadline.toNat,M.timers+1,List.replicate fl.KW.length ⟨1,0,0,0,0,0,0⟩,0⟩:=⟨_,rfl⟩;have hnd:((M.runs++[r]).map (·.id)).Nodup:=by
  rw[List.map_append,List.nodup_append];refine⟨h.nd,by simp,λa J b hb e=>?_⟩;obtain⟨u,O,rfl⟩:=List.mem_map.1 J;simp[E] at hb;have:=I u O;omega
 have wf:r.ab=FK.Rn.begun fl:=by
  rw[E];unfold Rn.ab FK.Rn.begun;simp[St.ab]
 have hB:M.begin fl={M with runs:=M.runs++[r],KT:=M.KT+1,timers:=M.timers+1}:=by rw[E];rfl
 have BT:Ab ((S.begin fl).setT ⟨S.KT+1,-1,0⟩ (S.later fl.deadline.toNat)) (M.begin fl):=by
  rw[hB];refine⟨h.now,h.seed,by show S.KT+1=M.KT+1;rw[h.lr],h.lt,h.ends,?_,h.KX,hnd⟩;show S.runs++[(S.KT+1,FK.Rn.begun fl)]=_;rw[List.map_append,<-h.runs,<-wf,h.lr];show _=S.runs++[(r.id,r.ab)];rw[E]
 have hno:M.getR (M.KT+1)=none:=by
  unfold En.getR;rw[List.find?_eq_none];intro u O;have:=I u O;simp;omega
 have T:∀a,(M.begin fl).getR a=if a=M.KT+1 then some r else M.getR a:=λa=>by
  rw[hB];show(M.runs++[r]).find? _=_;rw[List.find?_append];show(M.getR a).or _=_
  by_cases J:a=M.KT+1
  · rw[if_pos J,J,hno,E]
    simp
  · rw[if_neg J]
    have h2:[r].find? (·.id==a)=none:=by
     have:r.id=M.KT+1:=by rw[E]
     have h3:¬M.KT+1=a:=λe=>J e.symm;simp[this,h3]
    rw[h2,Option.or_none]
 have K:∀p,(M.begin fl).act p=if p=⟨M.KT+1,-1,0⟩ then some (M.later fl.deadline.toNat,M.timers+1) else M.act p:=λp=>by
  by_cases Y:p.run=M.KT+1
  · have e:(M.begin fl).act p=r.act p:=by unfold En.act;rw[T,if_pos Y]
    have hA:M.act p=none:=by unfold En.act;rw[Y,hno]
    rw[e,hA];unfold Rn.act;have h1:r.state=1:=by rw[E]
    rw[if_pos h1]
    by_cases hn:p.node=-1
    · rw[if_pos hn]
      by_cases hw:p.what=0
      · rw[if_pos hw,if_pos (Hw Y hn hw),E]
      · rw[if_neg hw,if_neg λe=>hw (by rw[e])]
    · have Fd:p≠⟨M.KT+1,-1,0⟩:=λe=>hn (by rw[e])
      rw[if_neg hn,if_neg Fd]
      by_cases h0:0<=p.node
      · rw[if_pos h0,E]
        show((List.replicate _ _)[_]?.bind _)=none;rw[List.getElem?_replicate]
        split
        · show St.act _ p.what=none
          unfold St.act;simp
        · rfl
      · rw[if_neg h0]
  · have e:(M.begin fl).act p=M.act p:=by unfold En.act;rw[T,if_neg Y]
    rw[e,if_neg λe=>Y (by rw[e])]
 have hS:Sim ((S.begin fl).setT ⟨S.KT+1,-1,0⟩ (S.later fl.deadline.toNat)) (M.begin fl):=by
  refine⟨BT,?_⟩;show Tm (S.tms.filter (λx=>x.1 !=⟨S.KT+1,-1,0⟩)++[(⟨S.KT+1,-1,0⟩,S.later fl.deadline.toNat)]) _ (M.timers+1) M.time;rw[h.lr,lm h.toAb];exact h.tm.set _ _ (sc ok h.toAb _) (by rw[K];exact if_pos rfl) λx hx=>by rw[K];exact if_neg hx
 have hi:(M.begin fl).runs[M.runs.length]?=some r:=by rw[hB];simp
 have mt:r.KV.length=fl.KW.length:=by rw[E];simp
 obtain⟨h1,_⟩:=hS.wake hi (by rw[mt,E]);have hk:Ke (M.begin fl):=by
  unfold Ke at *
  have:(M.begin fl).ids=M.ids++[(M.KT+1,0)]:=by rw[hB];unfold En.ids;simp[E]
  rw[this,List.pairwise_append];refine⟨k,by simp,λa J b hb=>?_⟩;obtain⟨u,O,rfl⟩:=List.mem_map.1 J;rw[List.mem_singleton.1 hb];have:=I u O;exact⟨by show u.id<M.KT+1;omega,λh e=>by have h:0<u.ended:=h;have e:u.ended=0:=e;omega⟩
 refine⟨?_,?_⟩
 · unfold FK.En.submit En.submit
   have e:r.id=S.KT+1:=by rw[E,h.lr]
   rw[mt,e] at h1;exact h1
 · unfold Ke En.submit at *
   rw[pz];exact hk
open FK (Pl KD)
structure Ac where
 run:Nat
 node:Int
 sign:Bool
 due:Nat
 seq:Nat
def Ac.what (a:Ac):Int:=if a.node=-1 then 0 else if a.sign then 2 else 1
def St.acts (i k:Nat) (s:St):List Ac:=(if s.state=3\/s.state=4 then[⟨i,(k:Int),false,s.fin,s.finAt⟩] else[])++if s.state=3/\0<s.sign then[⟨i,(k:Int),true,s.sign,s.signAt⟩] else[]
def kp (i:Nat) (l:List St) (n:Nat):List Ac:=(List.range n).flatMap λk=>match l[k]? with|some s=>s.acts i k|none=>[]
def Rn.acts (i:Nat) (r:Rn):List Ac:=if r.state=1 then⟨i,-1,false,r.till,r.tillAt⟩::kp i r.KV r.KV.length else[]
def En.actsN (M:En) (n:Nat):List Ac:=(List.range n).flatMap λi=>match M.runs[i]? with|some r=>r.acts i|none=>[]
def En.acts (M:En):List Ac:=M.actsN M.runs.length
def Ac.lt (a b:Ac):Prop:=a.due<b.due\/a.due=b.due/\a.seq<b.seq
instance (a b:Ac):Decidable (a.lt b):=by unfold Ac.lt;infer_instance
def pick (o:Option Ac) (a:Ac):Option Ac:=match o with|none=>some a|some b=>if a.lt b then some a else some b
def En.first (M:En):Option Ac:=M.acts.foldl pick none
theorem lw:∀(l:List Ac) (o:Option Ac),(l.foldl pick o=none<->o=none/\l=[])/\∀b,l.foldl pick o=some b->(o=some b\/b∈l)/\(∀a∈l,¬a.lt b)/\∀c,o=some c->¬c.lt b
 | [],o=>⟨by simp,λb h=>⟨.inl h,by simp,λc hc=>by
  have:o=some b:=h;rw[hc] at this;injection this with this;subst this;unfold Ac.lt;omega⟩⟩
 | a::l,o=>by
  rw[List.foldl_cons];obtain⟨h1,h2⟩:=lw l (pick o a);have hp:pick o a≠none:=by
   unfold pick
   split
   · simp
   · split<;>simp
  refine⟨⟨λh=>absurd (h1.1 h).1 hp,λh=>by simp at h⟩,λb hb=>?_⟩;obtain⟨E,T,O⟩:=h2 b hb;have Y:∀x y:Ac,¬y.lt b->¬x.lt y->¬x.lt b:=λx y h h'=>by unfold Ac.lt at *;omega
  cases o with
  | none=>
   have J:pick none a=some a:=rfl;rw[J] at E O;refine⟨.inr ?_,λx I=>?_,λc hc=>by cases hc⟩
   · rcases E with E|E
     · injection E with E
       rw[E];exact List.mem_cons_self
     · exact List.mem_cons_of_mem _ E
   · rcases List.mem_cons.1 I with rfl|I
     · exact O _ rfl
     · exact T x I
  | some c=>
   by_cases hc:a.lt c
   · have J:pick (some c) a=some a:=if_pos hc
     rw[J] at E O;have ka:=O a rfl;refine⟨.inr ?_,λx I=>?_,λd K=>?_⟩
     · rcases E with E|E
       · injection E with E
         rw[E];exact List.mem_cons_self
       · exact List.mem_cons_of_mem _ E
     · rcases List.mem_cons.1 I with rfl|I
       · exact ka
       · exact T x I
     · injection K with K
       subst K;exact Y c a ka (by unfold Ac.lt at *;omega)
   · have J:pick (some c) a=some c:=if_neg hc
     rw[J] at E O;have kc:=O c rfl;refine⟨?_,λx I=>?_,λd K=>?_⟩
     · rcases E with E|E
       · exact .inl E
       · exact .inr (List.mem_cons_of_mem _ E)
     · rcases List.mem_cons.1 I with rfl|I
       · exact Y x c kc hc
       · exact T x I
     · injection K with K
       subst K;exact kc
def Is (M:En) (a:Ac):Prop:=∃r,M.runs[a.run]?=some r/\(a.node=-1->a.sign=false)/\-1<=a.node/\r.act ⟨r.id,a.node,a.what⟩=some (a.due,a.seq)
theorem st_acts {s:St} {a:Ac}:a∈s.acts i k<->a.run=i/\a.node=k/\s.act a.what=some (a.due,a.seq):=by
 obtain⟨u,v,w,x,y⟩:=a;unfold St.acts St.act Ac.what;simp only[List.mem_append];constructor
 · rintro(h|h)
   · split at h
     · rename_i E
       simp only[List.mem_singleton,Ac.mk.injEq] at h;obtain⟨rfl,rfl,rfl,rfl,rfl⟩:=h;have:¬((k:Int)=-1):=am;simp[this,E]
     · cases h
   · split at h
     · rename_i E
       simp only[List.mem_singleton,Ac.mk.injEq] at h;obtain⟨rfl,rfl,rfl,rfl,rfl⟩:=h;have:¬((k:Int)=-1):=am;simp[this,E]
     · cases h
 · rintro⟨rfl,rfl,h⟩
   have:¬((k:Int)=-1):=am;rw[if_neg this] at h;cases w with
   | false=>
    by_cases E:s.state=3\/s.state=4
    · rw[if_pos ⟨rfl,E⟩] at h
      injection h with h;injection h with I J;subst I;subst J;exact .inl (by rw[if_pos E];simp)
    · rw[if_neg λh=>E h.2,if_neg λh=>absurd h.1 cY] at h
      cases h
   | true=>
    rw[if_neg λh=>absurd h.1 cY] at h
    by_cases E:s.state=3/\0<s.sign
    · rw[if_pos ⟨rfl,E⟩] at h
      injection h with h;injection h with I J;subst I;subst J;exact .inr (by rw[if_pos E];simp)
    · rw[if_neg λh=>E h.2] at h
      cases h
theorem acts_is {M:En} {a:Ac}:a∈M.acts<->Is M a:=by
 unfold En.acts En.actsN Is;rw[List.mem_flatMap];constructor
 · rintro⟨i,hi,h⟩
   rw[List.mem_range] at hi;rw[List.getElem?_eq_getElem hi] at h;obtain⟨r,I⟩:∃r,r=M.runs[i]:=⟨_,rfl⟩;have K:M.runs[i]?=some r:=by rw[I];exact List.getElem?_eq_getElem hi
   rw[<-I] at h;simp only at h;unfold Rn.acts at h
   split at h
   · rename_i J
     rcases List.mem_cons.1 h with rfl|h
     · refine⟨r,K,λ_=>rfl,by simp,?_⟩
       unfold Rn.act Ac.what;simp[J]
     · unfold kp at h
       rw[List.mem_flatMap] at h;obtain⟨k,hk,h⟩:=h;cases hs:r.KV[k]? with
       | none=>rw[hs] at h;cases h
       | some s=>
        rw[hs] at h;obtain⟨rfl,e2,e3⟩:=st_acts.1 h;refine⟨r,K,λe=>by omega,am,?_⟩;have E:¬((k:Int)=-1):=am;unfold Rn.act;simp only[J,e2,E,if_true,if_false,Int.toNat_natCast,hs];rw[if_pos am];exact e3
   · cases h
 · rintro⟨r,I,J,T,h3⟩
   have hi:=(gfGet.1 I).1;refine⟨a.run,List.mem_range.2 hi,?_⟩;rw[I];simp only;unfold Rn.act at h3;unfold Rn.acts;simp only at h3
   split at h3
   · rename_i O
     rw[if_pos O]
     by_cases E:a.node=-1
     · rw[if_pos E] at h3
       split at h3
       · injection h3 with h3
         injection h3 with e1 e2;obtain⟨u,v,w,x,y⟩:=a;simp only at E J e1 e2;subst E;have:=J rfl;subst this;subst e1;subst e2;exact List.mem_cons_self
       · cases h3
     · rw[if_neg E,if_pos am] at h3
       refine List.mem_cons_of_mem _ ?_;unfold kp;rw[List.mem_flatMap];cases hs:r.KV[a.node.toNat]? with
       | none=>rw[hs] at h3;cases h3
       | some s=>
        rw[hs] at h3;refine⟨a.node.toNat,List.mem_range.2 (gfGet.1 hs).1,?_⟩;rw[hs];exact st_acts.2 ⟨rfl,am,h3⟩
   · cases h3
section
variable {M:En}
theorem Is.tm (h:Sim S M) {a:Ac} (I:Is M a):∃r,M.runs[a.run]?=some r/\M.act ⟨r.id,a.node,a.what⟩=some (a.due,a.seq)/\((⟨r.id,a.node,a.what⟩,a.due):KD)∈S.tms:=by
 obtain⟨r,E,_,_,h3⟩:=I;have:M.act ⟨r.id,a.node,a.what⟩=some (a.due,a.seq):=by rw[pg h.nd E rfl];exact h3
 exact⟨r,E,this,(h.tm.mem _ _).2 ⟨_,this⟩⟩
theorem EW (h:Sim S M) (Y:x∈S.tms):∃a,Is M a/\a.due=x.2/\M.act x.1=some (a.due,a.seq)/\∃r,M.runs[a.run]?=some r/\x.1=⟨r.id,a.node,a.what⟩:=by
 obtain⟨⟨id,nd,wh⟩,d⟩:=x;obtain⟨s,E⟩:=(h.tm.mem _ _).1 Y;have O:=E;unfold En.act at E;cases hg:M.getR id with
 | none=>rw[hg] at E;cases E
 | some r=>
  simp only[hg] at E;obtain⟨T,i,hi⟩:=ne hg;have I:-1<=nd/\(nd=-1->wh=0)/\(nd≠-1->wh=1\/wh=2):=by
   unfold Rn.act at E;simp only at E
   split at E
   · by_cases J:nd=-1
     · rw[if_pos J] at E
       split at E
       · rename_i hw
         exact⟨am,λ_=>hw,λh=>absurd J h⟩
       · cases E
     · rw[if_neg J] at E
       split at E
       · refine⟨am,λh=>absurd h J,λ_=>?_⟩
         cases hk:r.KV[nd.toNat]? with
         | none=>rw[hk] at E;cases E
         | some u=>
          rw[hk] at E;have E:u.act wh=_:=E;refine Classical.byContradiction λhw=>?_;rw[ki (λe=>hw (.inl e)) λe=>hw (.inr e)] at E;cases E
       · cases E
   · cases E
  have K:(⟨i,nd,wh==2,d,s⟩:Ac).what=wh:=by
   unfold Ac.what;simp only
   by_cases J:nd=-1
   · rw[if_pos J];exact(I.2.1 J).symm
   · rw[if_neg J]
     rcases I.2.2 J with e|e<;>rw[e]<;>rfl
  refine⟨⟨i,nd,wh==2,d,s⟩,⟨r,hi,λe=>by simp only at e;rw[I.2.1 e];rfl,I.1,?_⟩,rfl,O,r,hi,?_⟩
  · rw[K,T];exact E
  · rw[K,T]
theorem BW (h:Sim S M):M.first=none<->S.tms=[]:=by
 unfold En.first
 rw[(lw _ _).1];constructor
 · rintro⟨_,I⟩
   refine List.eq_nil_iff_forall_not_mem.2 λx K=>?_;obtain⟨a,E,_⟩:=EW h K;have:=acts_is.2 E;rw[I] at this;cases this
 · intro I
   refine⟨rfl,List.eq_nil_iff_forall_not_mem.2 λa E=>?_⟩;obtain⟨r,_,_,J⟩:=(acts_is.1 E).tm h;rw[I] at J;cases J
theorem uZ (h:Sim S M) {b:Ac} (K:M.first=some b):∃r I,M.runs[b.run]?=some r/\FK.IsMin S.tms (⟨r.id,b.node,b.what⟩,b.due) I:=by
 obtain⟨h1,h2,_⟩:=(lw _ _).2 b K;have K:=acts_is.1 (h1.resolve_left λe=>by cases e);obtain⟨r,hr,ha,hm⟩:=K.tm h;obtain⟨l,m,e⟩:=List.append_of_mem hm;have Y:=h.tm.ord;rw[e,List.pairwise_append] at Y;have key:∀y∈S.tms,∃c:Ac,c.due=y.2/\M.act y.1=some (c.due,c.seq)/\¬c.lt b:=λy E=>by
  obtain⟨c,hc,O,J,_⟩:=EW h E;exact⟨c,O,J,h2 c (acts_is.2 hc)⟩
 refine⟨r,l++m,hr,l,m,e,rfl,λy E=>?_,λy E=>?_⟩
 · obtain⟨c,O,J,T⟩:=key y (by rw[e];exact List.mem_append_left _ E)
   have:=Y.2.2 y E _ List.mem_cons_self _ _ J ha;unfold Ac.lt at T;simp only at this ⊢;omega
 · obtain⟨c,O,J,T⟩:=key y (by rw[e];exact List.mem_append_right _ (List.mem_cons_of_mem _ E))
   unfold Ac.lt at T;simp only;omega
theorem xN (ok:FK.Ok S) (h:Ab S M) (k:Ke M) {r:Rn} {s:St} (hi:M.runs[i]?=some r) {nd:FK.Node}:Ke (M.fails i n r s nd):=by
 unfold En.fails
 split
 · unfold Ke at *
   exact(lE (r':=r.setS n {s with state:=4,fin:=M.later (FK.fU nd.base nd.cap nd.K0 s.KU M.seed).toNat,finAt:=M.timers+1}) hi rfl rfl).symm▸k
 · have hk:Ke (M.setR i {r with KV:=fV r.fl.KW r.KV.length r.KV.length (r.KV.set n {s with state:=6})}):=by
    unfold Ke at *
    exact(lE (r':={r with KV:=fV r.fl.KW r.KV.length r.KV.length (r.KV.set n {s with state:=6})}) hi rfl rfl).symm▸k
   have J:∀u∈(M.setR i {r with KV:=fV r.fl.KW r.KV.length r.KV.length (r.KV.set n {s with state:=6})}).runs,u.ended<=M.ends:=λu E=>by
    have:=List.mem_or_eq_of_mem_set E;rcases this with I|I
    · exact h.endle ok u I
    · rw[I]
      exact h.endle ok r (bY hi)
   unfold En.settle
   split
   · rename_i u E
     split
     · exact hk.endr E J _
     · exact hk
   · exact hk
def En.due (M:En) (b:Ac):En:=match M.runs[b.run]? with
 | some r=>if b.node<0 then M.endr b.run r 5 else match r.KV[b.node.toNat]?,r.fl.KW[b.node.toNat]? with
  | some s,some n=>if s.state=4 then M.ready b.run b.node.toNat r s else M.fails b.run b.node.toNat r s n
  | _,_=>M
 | none=>M
theorem Sim.due (ok:FK.Ok S) (h:Sim S M) {b:Ac} (hb:M.first=some b) {r:Rn} (hr:M.runs[b.run]?=some r) {E:List KD} (hm:FK.IsMin S.tms (⟨r.id,b.node,b.what⟩,b.due) E) (k:Ke M):Sim ({S with now:=b.due,tms:=E}.due ⟨r.id,b.node,b.what⟩) ({M with time:=b.due}.due b)/\Ke ({M with time:=b.due}.due b)/\M.time<=b.due:=by
 have K9:=acts_is.1 (((lw _ _).2 b hb).1.resolve_left λe=>by cases e);obtain⟨Y,hno,R,hR,K4⟩:=ok.pop hm;have mt:S.getR r.id=some R:=hR;rw[h.get hr] at mt;injection mt with mt;subst mt;have K5:M.time<=b.due:=h.tm.lo _ hm.mem;have hA:Ab {S with now:=b.due,tms:=E} {M with time:=b.due}:=⟨rfl,h.seed,h.lr,h.lt,h.ends,h.runs,h.KX,h.nd⟩;have K:E.Sublist S.tms:=by
  obtain⟨l,m,e1,e2,_⟩:=hm;rw[e1,e2];exact List.Sublist.append (List.Sublist.refl _) (List.sublist_cons_self _ _)
 have O:∀y∈S.tms,y.1≠⟨r.id,b.node,b.what⟩->y∈E:=λy J BT=>by
  rcases List.mem_cons.1 (hm.perm.mem_iff.1 J) with e|e
  · exact absurd (by rw[e]) BT
  · exact e
 have Fd:Tm S.tms (En.act {M with time:=b.due}) M.timers b.due:=⟨λy J=>by
  obtain⟨l,m,e1,_,h3,h4⟩:=hm;rw[e1] at J;rcases List.mem_append.1 J with J|J
  · exact Nat.le_of_lt (h3 y J)
  · rcases List.mem_cons.1 J with rfl|J
    · exact cu _
    · exact h4 y J,h.tm.nd,h.tm.mem,h.tm.ord,h.tm.le⟩
 have In:Ke {M with time:=b.due}:=k;have I:({M with time:=b.due}:En).runs[b.run]?=some r:=hr
 suffices T:Sim ({S with now:=b.due,tms:=E}.due ⟨r.id,b.node,b.what⟩) ({M with time:=b.due}.due b)/\Ke ({M with time:=b.due}.due b) from⟨T.1,T.2,K5⟩
 unfold En.due;rw[I];simp only;rcases FK.i8 (S:={S with now:=b.due,tms:=E}) hR K4 with⟨e,e2⟩|⟨n,s,hs,hc⟩
 · rw[e2]
   have hn:b.node=-1:=congrArg Pl.node e;rw[if_pos am];refine⟨Sim.endr Y hA Fd K (λy J BT=>O y J λe=>BT (by rw[e])) I fi,In.endr I (hA.endle Y) _⟩
 · obtain⟨u,hu,rfl⟩:=Cr hs
   have K6:b.node=(n:Int):=by
    rcases hc with⟨e,_⟩|⟨e|e,_⟩<;>exact congrArg Pl.node e
   have K3:b.node.toNat=n:=am;obtain⟨nd,hnd,K8⟩:=ok.node (h.get hr) hs;have wf:r.fl.KW[n]?=some nd:=hnd;rw[if_neg am,K3,hu,wf];simp only;rcases hc with⟨e,h4,e2⟩|⟨e,h3,e2⟩
   · have h4:u.state=4:=h4
     have e2:FK.En.due {S with now:=b.due,tms:=E} ⟨r.id,b.node,b.what⟩=FK.En.ready {S with now:=b.due,tms:=E} r.id n:=e2;rw[e2,if_pos h4];have K7:=hA.ready I hu am;refine⟨⟨K7,?_⟩,?_⟩
     · rw[FK.jz (hA.get I) (fI hu)]
       refine Fd.sub K (λp=>p≠⟨r.id,(n:Int),1⟩) (λy J=>⟨λh1=>?_,λh1=>O y J ?_⟩) (λp hp=>?_) (λp hp=>?_) (cu _)
       · have:=hno y h1
         rwa [e] at this
       · have e:(⟨r.id,b.node,b.what⟩:Pl)=_:=e
         rw[e];exact h1
       · rw[pJ hA I hu]
         split
         · rename_i hq
           rw[oK hA I hu hq.1 hq.2]
           split
           · by_cases h2:p.what=2
             · unfold St.act
               simp[h2,h4]
             · exact(ki (λe=>hp (Hw hq.1 hq.2 e)) h2).symm
           · rfl
         · rfl
       · rw[pJ hA I hu,if_pos]
         rw[Decidable.not_not.1 hp];exact⟨rfl,rfl⟩
     · unfold Ke at *
       have:(En.ready {M with time:=b.due} b.run n r u).ids=En.ids {M with time:=b.due}:=lE (r':=r.setS n {u with state:=2}) I rfl rfl;rw[this];exact In
   · have h3:u.state=3:=h3
     have e2:FK.En.due {S with now:=b.due,tms:=E} ⟨r.id,b.node,b.what⟩=FK.En.failed {S with now:=b.due,tms:=E} r.id n:=e2;rw[e2,if_neg am];have hs:=Sim.fails Y hA I hu h3 Fd K (λy J hg=>O y J (by
      rcases e with e|e
      · have e:(⟨r.id,b.node,b.what⟩:Pl)=_:=e
        rw[e];exact hg.1
      · have e:(⟨r.id,b.node,b.what⟩:Pl)=_:=e
        rw[e];exact hg.2)) wf
     exact⟨hs,xN Y hA In I⟩
end
open FK (Pl KD)
structure Fine (M:En):Prop where
 runs:M.runs.length<=100
 fit:∀u∈M.runs,FK.Fit u.fl/\u.KV.length=u.fl.KW.length
 KU:∀u∈M.runs,∀s∈u.KV,0<=s.KU/\s.KU<=5
 KX:M.KX.length<=500
 seed:M.seed<18446744073709551616
 time:M.time<=4611686018427387904
 timers:M.timers<4611686018427387904
 ends:M.ends<4611686018427387904
theorem Sim.fine {M:En} (ok:FK.Ok S) (h:Sim S M) (O:M.timers<4611686018427387904) (T:S.ends<4611686018427387904):Fine M:=by
 have I:∀u∈M.runs,FK.RnOk S.ends u.ab:=λu E=>by
  obtain⟨i,hi⟩:=List.getElem?_of_mem E;exact ok.run _ _ (h.get hi)
 refine⟨?_,λu E=>⟨(I u E).fl,?_⟩,λu E s Y=>?_,?_,by rw[<-h.seed];exact ok.seed,by rw[<-h.now];exact ok.now,O,by rw[<-h.ends];exact T⟩
 · have:=ok.six
   rw[h.runs,List.length_map] at this;omega
 · have:=(I u E).len
   simpa[Rn.ab] using this
 · obtain⟨k,hk⟩:=List.getElem?_of_mem Y
   have J:=fI hk;have hl:=(I u E).len;obtain⟨nd,hnd⟩:∃nd,u.ab.fl.KW[k]?=some nd:=⟨u.ab.fl.KW[k]'(by rw[<-hl];exact(gfGet.1 J).1),by simp⟩;have K:=(I u E).sp k _ nd J hnd;have h3:=(I u E).fl.KW k nd (gfGet.1 hnd).1 hnd;have h4:s.KU<=nd.KZ:=K.trb;have h5:0<=s.KU:=K.tr0;have h6:=h3.1.2.1;omega
 · have:=ok.queueLe
   rw[h.KX,List.length_map] at this;omega
inductive Ticks (up:Nat):Nat->En->En->Prop where
 | done {M:En}:Fine M->(∀b,M.first=some b->up<b.due)->Ticks up 0 M {M with time:=up}
 | step {n:Nat} {M U:En} {b:Ac}:Fine M->M.first=some b->b.due<=up->M.time<=b.due->b.run<M.runs.length->Ticks up n ({M with time:=b.due}.due b) U->Ticks up (n+1) M U
theorem GR {M:En} {b:Ac} (E:M.first=some b):∃r,M.runs[b.run]?=some r/\(b.node<0\/∃s,r.KV[b.node.toNat]?=some s):=by
 obtain⟨r,I,_,K,h3⟩:=acts_is.1 (((lw _ _).2 b E).1.resolve_left λe=>by cases e);refine⟨r,I,?_⟩
 by_cases J:b.node<0
 · exact .inl J
 · refine .inr ?_
   unfold Rn.act at h3;simp only at h3
   split at h3
   · rw[if_neg am,if_pos am] at h3
     cases hs:r.KV[b.node.toNat]? with
     | none=>rw[hs] at h3;cases h3
     | some s=>exact⟨s,rfl⟩
   · cases h3
theorem gQ (M:En) (i:Nat):∀n,(M.wakeN i n).timers=M.timers
 | 0=>rfl
 | n+1=>by
  rw[wakeN_succ];unfold En.wakeK
  split
  · split
    · split
      · exact gQ M i n
      · exact gQ M i n
    · exact gQ M i n
  · exact gQ M i n
theorem lb (M:En) (i:Nat):(M.settle i).timers=M.timers:=by
 unfold En.settle
 split
 · split<;>rfl
 · rfl
theorem tF (M:En) (b:Ac):(M.due b).timers<=M.timers+1:=by
 unfold En.due
 split
 · split
   · exact Nat.le_succ _
   · split
     · split
       · exact Nat.le_succ _
       · unfold En.fails
         split
         · exact cu _
         · rw[lb]
           exact Nat.le_succ _
     · exact Nat.le_succ _
 · exact Nat.le_succ _
theorem Sim.ticks (h:FK.Ticks id S U):∀{M:En},FK.Ok S->Sim S M->Ke M->M.timers+S.mass<4611686018427387904->S.ends+S.mass<4611686018427387904->∃n M',Ticks id n M M'/\Sim U M'/\Ke M'/\n<=S.mass:=by
 induction h with
 | @done S hd=>
  intro M ok h k ht he;refine⟨0,_,.done (h.fine ok am am) λb J=>?_,⟨⟨rfl,h.seed,h.lr,h.lt,h.ends,h.runs,h.KX,h.nd⟩,⟨λx hx=>Nat.le_of_lt (hd x hx),h.tm.nd,h.tm.mem,h.tm.ord,h.tm.le⟩⟩,k,Nat.zero_le _⟩;obtain⟨r,K,hr,I⟩:=uZ h J;exact hd _ I.mem
 | @step S U x K I hx _ ih=>
  intro M ok h k ht he;obtain⟨b,J⟩:∃b,M.first=some b:=by
   cases hf:M.first with
   | some b=>exact⟨b,rfl⟩
   | none=>
    have:=(BW h).1 hf;have Y:=I.mem;rw[this] at Y;cases Y
  obtain⟨r,BT,hr,mt⟩:=uZ h J;obtain⟨e1,e2⟩:=I.unique mt;subst e1;subst e2;obtain⟨h1,Y,h3⟩:=h.due ok J hr I k;obtain⟨O,hno,R,hR,T⟩:=ok.pop I;have hl:=O.due_less hR T;have E:_<S.mass:=hl.mass;have wf:_<=S.ends+1:=hl.ends;have In:=tF {M with time:=b.due} b;have Fd:({M with time:=b.due}:En).timers=M.timers:=rfl;obtain⟨n,M',k1,k2,k3,k4⟩:=ih (O.due hR T hno) h1 Y (Nat.lt_of_le_of_lt (Nat.add_le_add_left (Nat.le_sub_one_of_lt E) _) am) (Nat.lt_of_le_of_lt (Nat.add_le_add wf (Nat.le_sub_one_of_lt E)) am);exact⟨n+1,M',.step (h.fine ok am am) J hx h3 (gfGet.1 hr).1 k1,k2,k3,Nat.lt_of_le_of_lt k4 E⟩
theorem Ticks.timers {up n:Nat} {M U:En} (h:Ticks up n M U):U.timers<=M.timers+n:=by
 induction h with
 | done _ _=>exact cu _
 | @step n M U b _ _ _ _ _ _ E=>
  have:(En.due {M with time:=b.due} b).timers<=M.timers+1:=tF {M with time:=b.due} b;omega
structure Tmd where
 run:Nat
 node:Int
 due:Nat
 seq:Nat
def Ac.tmd (id:Nat) (a:Ac):Tmd:=⟨id,a.node,a.due,a.seq⟩
def Tmd.lt (a b:Tmd):Prop:=a.due<b.due\/a.due=b.due/\a.seq<b.seq
instance (a b:Tmd):Decidable (a.lt b):=by unfold Tmd.lt;infer_instance
def En.tmlN (M:En) (n:Nat):List Tmd:=(List.range n).flatMap λi=>match M.runs[i]? with|some r=>(r.acts i).map (Ac.tmd r.id)|none=>[]
def En.tml (M:En):List Tmd:=M.tmlN M.runs.length
theorem Du {M:En} {r:Rn} (hi:M.runs[i]?=some r):M.tmlN (i+1)=M.tmlN i++(r.acts i).map (Ac.tmd r.id):=by
 unfold En.tmlN;rw[List.range_succ,List.flatMap_append];simp[hi]
def ez (l:List Tmd):Nat->Nat
 | 0=>0
 | n+1=>match l[n]?,l[ez l n]? with
  | some a,some b=>if a.lt b then n else ez l n
  | _,_=>ez l n
theorem nB (l:List Tmd):∀n,n<=l.length->0<l.length->ez l n<l.length
 | 0,_,h=>h
 | n+1,hn,h=>by
  unfold ez
  split
  · split
    · omega
    · exact nB l n am h
  · exact nB l n am h
theorem Cd (l:List Tmd):ez l 1=0:=by
 unfold ez
 split
 · split
   · rfl
   · rfl
 · rfl
theorem qw {l:List Tmd} {a b:Tmd} (E:l[n]?=some a) (I:l[ez l n]?=some b):ez l (n+1)=if a.lt b then n else ez l n:=by
 rw[ez,E,I]
def sel (l:List Tmd):Nat->List Tmd
 | 0=>[]
 | n+1=>match l[ez l l.length]? with
  | some t=>t::sel (l.eraseIdx (ez l l.length)) n
  | none=>[]
def En.tms (M:En):List Tmd:=sel M.tml M.tml.length
theorem xv {l:List Tmd} {t:Tmd} (h:l[ez l l.length]?=some t):sel l l.length=t::sel (l.eraseIdx (ez l l.length)) (l.eraseIdx (ez l l.length)).length:=by
 have I:=(gfGet.1 h).1;obtain⟨n,E⟩:∃n,l.length=n+1:=⟨l.length-1,am⟩;have J:(l.eraseIdx (ez l l.length)).length=n:=by rw[List.length_eraseIdx_of_lt I];omega
 rw[J];rw[show sel l l.length=sel l (n+1) by rw[E]];simp only[sel,h]
open FK (Pl KD)
theorem jt (a:Tmd):¬a.lt a:=by unfold Tmd.lt;omega
theorem j3 {a b c:Tmd} (h:a.lt b) (k:b.lt c):a.lt c:=by unfold Tmd.lt at *;omega
theorem tH {l:List Tmd} (K:0<l.length):∀n,n<=l.length->∀(j:Nat) (a b:Tmd),j<n->l[j]?=some a->l[ez l n]?=some b->¬a.lt b
 | 0,_,j,_,_,hj,_,_=>absurd hj (Nat.not_lt_zero _)
 | n+1,hn,j,a,b,hj,ha,hb=>by
  obtain⟨x,I⟩:∃x,l[n]?=some x:=⟨l[n],by simp⟩;obtain⟨y,J⟩:∃y,l[ez l n]?=some y:=⟨l[ez l n]'(nB l n am K),by simp⟩;have O:=λj a hj ha=>tH K n am j a y hj ha J;rw[qw I J] at hb
  split at hb
  · rename_i E
    rw[I] at hb;injection hb with hb;subst hb;rcases Nat.lt_succ_iff_lt_or_eq.1 hj with hj|rfl
    · exact λh=>O j a hj ha (j3 h E)
    · rw[I] at ha
      injection ha with ha;subst ha;exact jt _
  · rename_i E
    rw[J] at hb;injection hb with hb;subst hb;rcases Nat.lt_succ_iff_lt_or_eq.1 hj with hj|rfl
    · exact O j a hj ha
    · rw[I] at ha
      injection ha with ha;subst ha;exact E
theorem r4:∀(n:Nat) (l:List Tmd),l.length=n->(∀x,x∈sel l n<->x∈l)/\(l.Pairwise (λa b=>a.seq≠b.seq)->(sel l n).Pairwise Tmd.lt)
 | 0,l,h=>by
  have:l=[]:=List.eq_nil_of_length_eq_zero h;subst this;exact⟨λx=>by simp[sel],λ_=>List.Pairwise.nil⟩
 | n+1,l,h=>by
  have hl:0<l.length:=am;have hb:=nB l l.length (cu _) hl;obtain⟨t,O⟩:∃t,l[ez l l.length]?=some t:=⟨l[ez l l.length],by simp⟩;have he:(l.eraseIdx (ez l l.length)).length=n:=by rw[List.length_eraseIdx_of_lt hb];omega
  obtain⟨i1,i2⟩:=r4 n _ he;have hs:=xv O;rw[he,h] at hs;rw[h] at O hb he i1 i2;have E:(l.eraseIdx (ez l (n+1))).Sublist l:=List.eraseIdx_sublist _ _;refine⟨λx=>?_,λT=>?_⟩
  · rw[hs,List.mem_cons,i1]
    constructor
    · rintro(rfl|K)
      · exact bY O
      · exact E.subset K
    · intro K
      exact FK.iZ O K
  · rw[hs,List.pairwise_cons]
    refine⟨λx K=>?_,i2 (T.sublist E)⟩;rw[i1] at K;obtain⟨j,Y⟩:=List.getElem?_of_mem K;rw[List.getElem?_eraseIdx] at Y;obtain⟨m,hm,mt⟩:∃m:Nat,l[m]?=some x/\m≠ez l (n+1):=by
     split at Y
     · exact⟨j,Y,am⟩
     · exact⟨j+1,Y,am⟩
    have J:=(gfGet.1 hm).1;have h1:=tH hl l.length (cu _) m x t J hm (by rw[h];exact O);have h2:x.seq≠t.seq:=by
     rw[List.pairwise_iff_getElem] at T;have e1:=(gfGet.1 hm).2;have e2:=(gfGet.1 O).2;rcases Nat.lt_or_gt_of_ne mt with I|I
     · have:=T m _ J am I
       rw[e1,e2] at this;exact this
     · have:=T _ m am J I
       rw[e1,e2] at this;exact this.symm
    unfold Tmd.lt at h1 ⊢;omega
theorem s8:∀{l m:List Tmd},l.Pairwise Tmd.lt->m.Pairwise Tmd.lt->(∀x,x∈l<->x∈m)->l=m
 | [],[],_,_,_=>rfl
 | [],b::m,_,_,h=>by have:=(h b).2 List.mem_cons_self;cases this
 | a::l,[],_,_,h=>by have:=(h a).1 List.mem_cons_self;cases this
 | a::l,b::m,hl,hm,h=>by
  rw[List.pairwise_cons] at hl hm;have K:a=b:=by
   rcases List.mem_cons.1 ((h a).1 List.mem_cons_self) with E|E
   · exact E
   · rcases List.mem_cons.1 ((h b).2 List.mem_cons_self) with J|J
     · exact J.symm
     · exact absurd (j3 (hl.1 b J) (hm.1 a E)) (jt a)
  subst K
  congr 1
  refine s8 hl.2 hm.2 λx=>⟨λI=>?_,λI=>?_⟩
  · rcases List.mem_cons.1 ((h x).1 (List.mem_cons_of_mem _ I)) with E|E
    · subst E;exact absurd (hl.1 _ I) (jt _)
    · exact E
  · rcases List.mem_cons.1 ((h x).2 (List.mem_cons_of_mem _ I)) with E|E
    · subst E;exact absurd (hm.1 _ I) (jt _)
    · exact E
def xl (a b:Ac):Prop:=a.run≠b.run\/a.node≠b.node\/a.sign≠b.sign
theorem Jk (i:Nat) (l:List St) (n:Nat):(kp i l n).Pairwise xl:=by
 unfold kp;rw[List.pairwise_flatMap];refine⟨λk _=>?_,List.pairwise_lt_range.imp λ{k J} K x E y I=>?_⟩
 · cases l[k]? with
   | none=>exact List.Pairwise.nil
   | some s=>
    show(St.acts i k s).Pairwise xl;unfold St.acts
    split<;>split<;>simp[xl]
 · have O:x.node=(k:Int):=by
    cases hs:l[k]? with
    | none=>rw[hs] at E;cases E
    | some s=>rw[hs] at E;exact(st_acts.1 E).2.1
   have T:y.node=(J:Int):=by
    cases hs:l[J]? with
    | none=>rw[hs] at I;cases I
    | some s=>rw[hs] at I;exact(st_acts.1 I).2.1
   exact .inr (.inl am)
theorem mM {r:Rn} {a:Ac} (h:a∈r.acts i):a.run=i:=by
 unfold Rn.acts at h
 split at h
 · rcases List.mem_cons.1 h with rfl|h
   · rfl
   · unfold kp at h
     rw[List.mem_flatMap] at h;obtain⟨k,_,hk⟩:=h;cases hs:r.KV[k]? with
     | none=>rw[hs] at hk;cases hk
     | some s=>rw[hs] at hk;exact(st_acts.1 hk).1
 · cases h
theorem Jl (i:Nat) (r:Rn):(r.acts i).Pairwise xl:=by
 unfold Rn.acts
 split
 · rw[List.pairwise_cons]
   refine⟨λx E=>?_,Jk _ _ _⟩;unfold kp at E;rw[List.mem_flatMap] at E;obtain⟨k,_,hk⟩:=E;cases hs:r.KV[k]? with
   | none=>rw[hs] at hk;cases hk
   | some s=>
    rw[hs] at hk;have:=(st_acts.1 hk).2.1;exact .inr (.inl (by simp only;omega))
 · exact List.Pairwise.nil
def ET (M:En) (x:KD):Tmd:=⟨x.1.run,x.1.node,x.2,((M.act x.1).map (·.2)).getD 0⟩
section
variable {M:En}
theorem IM {t:Tmd}:t∈M.tml<->∃a r,Is M a/\M.runs[a.run]?=some r/\t=a.tmd r.id:=by
 unfold En.tml En.tmlN;rw[List.mem_flatMap];constructor
 · rintro⟨i,hi,h⟩
   rw[List.mem_range] at hi;obtain⟨r,I⟩:∃r,M.runs[i]?=some r:=⟨M.runs[i],by simp[hi]⟩;rw[I] at h;obtain⟨a,J,rfl⟩:=List.mem_map.1 h;have E:=mM J;refine⟨a,r,acts_is.1 ?_,by rw[E];exact I,rfl⟩;unfold En.acts En.actsN;rw[List.mem_flatMap];exact⟨i,List.mem_range.2 hi,by rw[I];exact J⟩
 · rintro⟨a,r,J,I,rfl⟩
   have:=acts_is.2 J;unfold En.acts En.actsN at this;rw[List.mem_flatMap] at this;obtain⟨i,hi,h⟩:=this;cases hs:M.runs[i]? with
   | none=>rw[hs] at h;cases h
   | some u=>
    rw[hs] at h;have E:=mM h;subst E;rw[I] at hs;injection hs with hs;subst hs;exact⟨a.run,hi,by rw[I];exact List.mem_map_of_mem h⟩
theorem Ig (h:Sim S M) {t:Tmd}:t∈M.tml<->t∈S.tms.map (ET M):=by
 rw[IM,List.mem_map];constructor
 · rintro⟨a,r,I,J,rfl⟩
   obtain⟨r',E,K,h3⟩:=I.tm h;rw[J] at E;injection E with E;subst E;refine⟨_,h3,?_⟩;unfold ET Ac.tmd;simp[K]
 · rintro⟨x,hx,rfl⟩
   obtain⟨a,I,O,T,r,J,Y⟩:=EW h hx;refine⟨a,r,I,J,?_⟩;unfold ET Ac.tmd;rw[T,Y,O]
   rfl
theorem Kc (h:Sim S M) {y:KD} (hx:x∈S.tms) (hy:y∈S.tms) (K:x.1≠y.1):(ET M x).seq≠(ET M y).seq:=by
 obtain⟨i,hi⟩:=List.getElem?_of_mem hx;obtain⟨j,hj⟩:=List.getElem?_of_mem hy;obtain⟨I,e1⟩:=gfGet.1 hi;obtain⟨J,e2⟩:=gfGet.1 hj;obtain⟨s1,O⟩:=(h.tm.mem x.1 x.2).1 hx;obtain⟨T,Y⟩:=(h.tm.mem y.1 y.2).1 hy;have mt:i≠j:=λe=>by subst e;rw[e1] at e2;exact K (by rw[e2])
 have ho:=List.pairwise_iff_getElem.1 h.tm.ord;unfold ET;rw[O,Y];show s1≠T;rcases Nat.lt_or_gt_of_ne mt with E|E
 · have:=ho i j I J E (x.2,s1) (y.2,T) (by rw[e1];exact O) (by rw[e2];exact Y)
   simp only at this;omega
 · have:=ho j i J I E (y.2,T) (x.2,s1) (by rw[e2];exact Y) (by rw[e1];exact O)
   simp only at this;omega
theorem Dt (h:Sim S M):M.tml.Pairwise λa b=>a.seq≠b.seq:=by
 have key:∀a b r u,Is M a->Is M b->M.runs[a.run]?=some r->M.runs[b.run]?=some u->xl a b->a.seq≠b.seq:=λa b r u I Y E hu mt=>by
  have BT:=I;have Fd:=Y;obtain⟨r',K,h2,h3⟩:=I.tm h;obtain⟨u',O,k2,k3⟩:=Y.tm h;rw[E] at K;injection K with K;subst K;rw[hu] at O;injection O with O;subst O;have In:(⟨r.id,a.node,a.what⟩:Pl)≠⟨u.id,b.node,b.what⟩:=λe=>by
   injection e with e1 e2 e3;have wf:=xd h.nd E hu e1;rcases mt with J|J|J
   · exact J wf
   · exact J e2
   · obtain⟨_,_,n1,_,_⟩:=BT
     obtain⟨_,_,n2,_,_⟩:=Fd;unfold Ac.what at e3
     by_cases hn:a.node=-1
     · exact J (by rw[n1 hn,n2 (by rw[<-e2];exact hn)])
     · have K3:¬b.node=-1:=by rw[<-e2];exact hn
       rw[if_neg hn,if_neg K3] at e3;refine J ?_;cases ha1:a.sign<;>cases hb1:b.sign<;>rw[ha1,hb1] at e3<;>simp at e3 ⊢
  have:=Kc h h3 k3 In;unfold ET at this;rw[h2,k2] at this;exact this
 have T:∀i r a,M.runs[i]?=some r->a∈r.acts i->Is M a/\M.runs[a.run]?=some r:=λi r a E I=>by
  have K4:=mM I;refine⟨acts_is.1 ?_,by rw[K4];exact E⟩;unfold En.acts En.actsN;rw[List.mem_flatMap];exact⟨i,List.mem_range.2 (gfGet.1 E).1,by rw[E];exact I⟩
 unfold En.tml En.tmlN;rw[List.pairwise_flatMap];refine⟨λi _=>?_,List.pairwise_lt_range.imp λ{i j} K5 x hx y hy=>?_⟩
 · cases E:M.runs[i]? with
   | none=>exact List.Pairwise.nil
   | some r=>
    show((r.acts i).map _).Pairwise _;rw[List.pairwise_map];refine(Jl i r).imp_of_mem λ{a b} I Y mt=>?_;obtain⟨h1,h2⟩:=T i r a E I;obtain⟨h3,J⟩:=T i r b E Y;exact key a b r r h1 h3 h2 J mt
 · cases E:M.runs[i]? with
   | none=>rw[E] at hx;cases hx
   | some r=>
    cases hu:M.runs[j]? with
    | none=>rw[hu] at hy;cases hy
    | some u=>
     rw[E] at hx;rw[hu] at hy;obtain⟨a,I,rfl⟩:=List.mem_map.1 hx;obtain⟨b,Y,rfl⟩:=List.mem_map.1 hy;obtain⟨h1,h2⟩:=T i r a E I;obtain⟨h3,J⟩:=T j u b hu Y;exact key a b r u h1 h3 h2 J (.inl (by rw[mM I,mM Y];omega))
end
structure Srt (X Y:List Tmd):Prop where
 perm:Y.Perm X
 srt:Y.Pairwise Tmd.lt
section
variable {A B l:List Tmd}
theorem xM (h:l.Pairwise Tmd.lt) {z:Tmd} (J:∀x∈l.getLast?,x.lt z):∀x∈l,x.lt z:=λx E=>by
 rcases List.eq_nil_or_concat l with rfl|⟨m,y,rfl⟩
 · cases E
 · have I:y.lt z:=J y cY
   rw[List.concat_eq_append] at h E;rw[List.pairwise_append] at h;rcases List.mem_append.1 E with E|E
   · exact j3 (h.2.2 x E y cY) I
   · rw[List.mem_singleton.1 E];exact I
theorem xR (h:l.Pairwise Tmd.lt) {z:Tmd} (J:∀x∈l.head?,z.lt x):∀x∈l,z.lt x:=λx E=>by
 cases l with
 | nil=>cases E
 | cons y l=>
  have I:z.lt y:=J y cY;rw[List.pairwise_cons] at h;rcases List.mem_cons.1 E with rfl|E
  · exact I
  · exact j3 I (h.1 x E)
theorem vk {m:List Tmd} (E:l.Pairwise Tmd.lt) (I:m.Pairwise Tmd.lt) (h:∀x∈l.getLast?,∀y∈m.head?,x.lt y):∀x∈l,∀y∈m,x.lt y:=λx J y K=>by
 refine xR I (λz O=>?_) y K;exact xM E (λw hw=>h w hw z O) x J
theorem Dw {J K O T Y1 Y2:List Tmd} (Y:(J++K).Pairwise Tmd.lt) (hR:(O++T).Pairwise Tmd.lt) (h1:∀x∈J.getLast?,∀y∈T.head?,x.lt y) (h2:∀x∈O.getLast?,∀y∈K.head?,x.lt y) (k1:Srt (J++O) Y1) (k2:Srt (K++T) Y2):Srt ((J++K)++(O++T)) (Y1++Y2):=by
 rw[List.pairwise_append] at Y hR;refine⟨?_,?_⟩
 · refine(k1.perm.append k2.perm).trans ?_
   rw[List.append_assoc,List.append_assoc];refine List.Perm.append_left _ ?_;rw[<-List.append_assoc,<-List.append_assoc];exact List.Perm.append_right _ List.perm_append_comm
 · rw[List.pairwise_append]
   refine⟨k1.srt,k2.srt,λx E y I=>?_⟩;rcases List.mem_append.1 (k1.perm.mem_iff.1 E) with E|E<;>rcases List.mem_append.1 (k2.perm.mem_iff.1 I) with I|I
   · exact Y.2.2 x E y I
   · exact vk Y.1 hR.2.1 h1 x E y I
   · exact vk hR.1 Y.2.1 h2 x E y I
   · exact hR.2.2 x E y I
theorem qb {x:Tmd} (J:A.Pairwise Tmd.lt) (K:B.Pairwise Tmd.lt) (E:∀a∈A,∀b∈B,a.lt b) (T:∀a∈A.getLast?,a.lt x) (Y:∀b∈B.head?,x.lt b):(A++x::B).Pairwise Tmd.lt:=by
 rw[List.pairwise_append,List.pairwise_cons];exact⟨J,⟨xR K Y,K⟩,λa O b I=>by
  rcases List.mem_cons.1 I with rfl|I
  · exact xM J T a O
  · exact E a O b I⟩
theorem Srt.refl {X:List Tmd} (h:X.Pairwise Tmd.lt):Srt X X:=⟨List.Perm.refl _,h⟩
theorem Srt.left {x:Tmd} (h:(A++B).Pairwise Tmd.lt) (E:∀a∈A.getLast?,a.lt x) (I:∀b∈B.head?,x.lt b):Srt (x::(A++B)) (A++x::B):=by
 rw[List.pairwise_append] at h;exact⟨List.perm_middle,qb h.1 h.2.1 h.2.2 E I⟩
theorem Srt.right {x:Tmd} (h:(A++B).Pairwise Tmd.lt) (E:∀a∈A.getLast?,a.lt x) (I:∀b∈B.head?,x.lt b):Srt ((A++B)++[x]) (A++x::B):=by
 rw[List.pairwise_append] at h;refine⟨?_,qb h.1 h.2.1 h.2.2 E I⟩;refine List.perm_middle.trans ?_;exact List.perm_append_comm (l₁:=[x])
end
section
variable {A B M P Q l:List Tmd} {m:Nat} {y:Tmd}
theorem vD {U V W:List Tmd} {x:Tmd} {p q:Nat} (E:U.length=p) (I:p+1+V.length=q):(U++x::(V++y::W))[p]?=some x/\(U++x::(V++y::W))[q]?=some y/\((U++x::(V++y::W)).set p y).set q x=U++y::(V++x::W):=by
 subst E;subst I;refine⟨by simp,?_,?_⟩
 · rw[List.getElem?_append_right am,show U.length+1+V.length-U.length=V.length+1 by omega]
   simp
 · rw[List.set_append_right _ _ (cu _),Nat.sub_self,List.set_cons_zero,List.set_append_right _ _ am,show U.length+1+V.length-U.length=V.length+1 by omega,List.set_cons_succ,List.set_append_right _ _ (cu _),Nat.sub_self,List.set_cons_zero]
def fZ (P A M B Q:List Tmd) (i:Nat):List Tmd:=P++(B.take i++(A.drop i++(M++(A.take i++(B.drop i++Q)))))
theorem wl (P A M B Q:List Tmd):fZ P A M B Q 0=P++(A++(M++(B++Q))):=by simp[fZ]
theorem yy (h:A.length=B.length):fZ P A M B Q A.length=P++(B++(M++(A++Q))):=by
 unfold fZ;rw[List.drop_of_length_le (cu _),List.take_of_length_le (cu A.length),List.take_of_length_le (by omega:B.length<=A.length),List.drop_of_length_le (by omega:B.length<=A.length)];simp
theorem yx (hi:i<=A.length) (h:A.length=B.length):(fZ P A M B Q i).length=(P++(A++(M++(B++Q)))).length:=by
 simp only[fZ,List.length_append,List.length_take,List.length_drop];omega
theorem wm {p q:Nat} {x:Tmd} (h:A.length=B.length) (E:A[i]?=some x) (I:B[i]?=some y) (hp:P.length+i=p) (hq:P.length+A.length+M.length+i=q) :
 (fZ P A M B Q i)[p]?=some x/\(fZ P A M B Q i)[q]?=some y/\((fZ P A M B Q i).set p y).set q x=fZ P A M B Q (i+1):=by
 obtain⟨hi,e1⟩:=gfGet.1 E;obtain⟨J,e2⟩:=gfGet.1 I;have K:A.drop i=x::A.drop (i+1):=by rw[List.drop_eq_getElem_cons hi,e1]
 have O:B.drop i=y::B.drop (i+1):=by rw[List.drop_eq_getElem_cons J,e2]
 have T:A.take (i+1)=A.take i++[x]:=by rw[List.take_add_one,E];rfl
 have Y:B.take (i+1)=B.take i++[y]:=by rw[List.take_add_one,I];rfl
 have k:=vD (U:=P++B.take i) (V:=A.drop (i+1)++(M++A.take i)) (W:=B.drop (i+1)++Q) (x:=x) (y:=y) (p:=p) (q:=q) (by rw[List.length_append,List.length_take];omega) (by simp only[List.length_append,List.length_take,List.length_drop];omega);have e3:fZ P A M B Q i=(P++B.take i)++x::((A.drop (i+1)++(M++A.take i))++y::(B.drop (i+1)++Q)):=by
  unfold fZ;rw[K,O];simp
 have e4:fZ P A M B Q (i+1)=(P++B.take i)++y::((A.drop (i+1)++(M++A.take i))++x::(B.drop (i+1)++Q)):=by
  unfold fZ;rw[T,Y];simp
 rw[e3,e4];exact k
theorem part_at (h:l.length=n) (hk:k<=n):∃A B,l=A++B/\A.length=k/\B.length=n-k:=
 ⟨l.take k,l.drop k,(List.take_append_drop k l).symm,by rw[List.length_take];omega,by rw[List.length_drop];omega⟩
def Rot (l:List Tmd) (m i j:Nat) (fin:List Tmd):Prop:=∃P X Y Q,l=P++(X++(Y++Q))/\P.length+i=m/\X.length=i/\Y.length=j/\fin=P++(Y++(X++Q))
theorem Rot.right {fin:List Tmd} (h:Rot l m i j fin) (E:j<i):∃P A M B Q,l=P++(A++(M++(B++Q)))/\P.length+i=m/\A.length=j/\B.length=j/\M.length+j=i/\Rot (P++(B++(M++(A++Q)))) m (i-j) j fin:=by
 obtain⟨P,X,Y,Q,e1,e2,e3,e4,K⟩:=h;obtain⟨A,M,I,J,O⟩:=part_at e3 (Nat.le_of_lt E);refine⟨P,A,M,Y,Q,by rw[e1,I];simp,e2,J,e4,am,P++Y,M,A,Q,by simp,by simp;omega,O,J,by rw[K,I];simp⟩
theorem Rot.left {fin:List Tmd} (h:Rot l m i j fin) (I:i<j):∃P A M B Q,l=P++(A++(M++(B++Q)))/\P.length+i=m/\A.length=i/\B.length=i/\M.length+i=j/\Rot (P++(B++(M++(A++Q)))) m i (j-i) fin:=by
 obtain⟨P,X,Y,Q,e1,e2,e3,e4,J⟩:=h;obtain⟨M,B,E,K,O⟩:=part_at e4 (Nat.sub_le j i);refine⟨P,X,M,B,Q,by rw[e1,E];simp,e2,e3,am,am,P,B,M,X++Q,by simp,e2,am,am,by rw[J,E];simp⟩
theorem Rot.same {fin:List Tmd} (h:Rot l m i i fin):∃P A B Q,l=P++(A++(B++Q))/\P.length+i=m/\A.length=i/\B.length=i/\fin=P++(B++(A++Q)):=h
theorem Rot.len {fin:List Tmd} (h:Rot l m i j fin):m+j<=l.length/\fin.length=l.length:=by
 obtain⟨P,X,Y,Q,e1,e2,e3,e4,E⟩:=h;rw[e1,E];simp only[List.length_append];omega
def vO (X Y:List Tmd):Prop:=∀x∈X,∀y∈Y,x.seq<y.seq
theorem jZ {x:Tmd} (h:x.seq<y.seq) (k:x.due<=y.due):x.lt y:=by unfold Tmd.lt;omega
end
structure InsI (P X Q:List Tmd) (k:Nat) (l:List Tmd):Prop where
 ex:∃Y,l=P++(Y++(X.drop k++Q))/\Srt (X.take k) Y
theorem InsI.first (P X Q:List Tmd):InsI P X Q 1 (P++(X++Q)):=⟨X.take 1,by rw[<-List.append_assoc (X.take 1),List.take_append_drop],Srt.refl (by cases X<;>simp)⟩
theorem InsI.fin {P X Q l:List Tmd} (h:InsI P X Q k l) (hk:X.length<=k):∃Y,l=P++(Y++Q)/\Srt X Y:=by
 obtain⟨Y,e,s⟩:=h.ex;rw[List.drop_of_length_le hk,List.nil_append] at e;rw[List.take_of_length_le hk] at s;exact⟨Y,e,s⟩
structure InsJ (P X Q:List Tmd) (k j:Nat) (x:Tmd) (l:List Tmd):Prop where
 ex:∃A B,l=P++(A++x::(B++(X.drop (k+1)++Q)))/\Srt (X.take k) (A++B)/\P.length+A.length=j/\∀b∈B.head?,x.lt b
section
variable {P Q X l:List Tmd}
theorem InsI.start {x:Tmd} (h:InsI P X Q k l) (E:X[k]?=some x):InsJ P X Q k (P.length+k) x l:=by
 obtain⟨Y,e,s⟩:=h.ex;obtain⟨hk,e1⟩:=gfGet.1 E;refine⟨Y,[],?_,by simpa using s,?_,by simp⟩
 · rw[e,List.drop_eq_getElem_cons hk,e1];simp
 · have:=s.perm.length_eq
   rw[List.length_take] at this;omega
theorem InsJ.len {x:Tmd} (h:InsJ P X Q k j x l) (E:X[k]?=some x):l.length=(P++(X++Q)).length/\P.length<=j/\j<=P.length+k:=by
 obtain⟨A,B,e,s,I,J⟩:=h.ex;have hk:=(gfGet.1 E).1;have:=s.perm.length_eq;rw[e];simp only[List.length_append,List.length_cons,List.length_take,List.length_drop] at this ⊢;omega
theorem InsJ.at {P X Q l:List Tmd} {k j:Nat} {x:Tmd} (h:InsJ P X Q k j x l):l[j]?=some x/\(P.length<j->∃z,l[j-1]?=some z/\z∈X.take k/\(x.due<z.due->InsJ P X Q k (j-1) x ((l.set j z).set (j-1) x))):=by
 obtain⟨A,B,e,s,J,I⟩:=h.ex;refine⟨?_,λT=>?_⟩
 · rw[e,<-List.append_assoc,List.getElem?_append_right (by simp;omega)]
   simp[J]
 · rcases List.eq_nil_or_concat A with rfl|⟨E,z,rfl⟩
   · simp at J;omega
   · rw[List.concat_eq_append] at *
     have hl:P.length+E.length+1=j:=by simp at J;omega
     have e2:l=(P++E)++z::([]++x::(B++(X.drop (k+1)++Q))):=by rw[e];simp
     obtain⟨K,k2,O⟩:=vD (U:=P++E) (V:=[]) (W:=B++(X.drop (k+1)++Q)) (x:=z) (y:=x) (p:=j-1) (q:=j) (by simp;omega) (by simp;omega);rw[<-e2] at K k2 O;refine⟨z,K,s.perm.mem_iff.1 cY,λY=>⟨E,z::B,?_,by simpa using s,am,λb I=>?_⟩⟩
     · rw[List.set_comm _ _ am,O];simp
     · simp at I;subst I;exact .inl Y
theorem InsJ.fin {x:Tmd} (h:InsJ P X Q k j x l) (K:X[k]?=some x) (T:X.Pairwise λa b=>a.seq<b.seq) (Y:P.length<j->∀z,l[j-1]?=some z->¬x.due<z.due):InsI P X Q (k+1) l:=by
 obtain⟨A,B,e,s,I,hB⟩:=h.ex;refine⟨A++x::B,by rw[e];simp,?_⟩;rw[List.take_add_one,K];have hA:∀a∈A.getLast?,a.lt x:=λa E=>by
  rcases List.eq_nil_or_concat A with rfl|⟨O,z,rfl⟩
  · cases E
  · rw[List.concat_eq_append] at *
    simp at E;subst E;have hm:z∈X.take k:=s.perm.mem_iff.1 cY;have e2:l=(P++O)++z::(x::(B++(X.drop (k+1)++Q))):=by rw[e];simp
    have:=Y (by simp at I;omega) z (by rw[e2,List.getElem?_append_right (by simp at I ⊢;omega)];simp at I;simp[show j-1-(P.length+O.length)=0 by omega]);obtain⟨i,hi⟩:=List.getElem?_of_mem hm;rw[List.getElem?_take] at hi
    split at hi
    · rename_i J
      obtain⟨h1,h2⟩:=gfGet.1 hi;obtain⟨h3,h4⟩:=gfGet.1 K;have:=List.pairwise_iff_getElem.1 T i k h1 h3 J;rw[h2,h4] at this;exact jZ this am
    · cases hi
 have r:=Srt.right s.srt hA hB;exact⟨r.perm.trans (List.Perm.append_right _ s.perm),r.srt⟩
end
structure Mrg (P L R Q l:List Tmd) (a m b:Nat):Prop where
 is:l=P++(L++(R++Q))
 hP:P.length=a
 hL:a+L.length=m
 hR:m+R.length=b
 sL:L.Pairwise Tmd.lt
 sR:R.Pairwise Tmd.lt
 bf:vO L R
section
variable {L P Q R l:List Tmd} {b m:Nat} {y:Tmd}
theorem Mrg.len (h:Mrg P L R Q l a m b):b<=l.length:=by
 obtain⟨e,E,I,h3,_⟩:=h;rw[e];simp only[List.length_append];omega
theorem Mrg.left (h:Mrg P L R Q l a m b) (I:a<=i) (J:i<m):∃x,l[i]?=some x/\L[i-a]?=some x:=by
 obtain⟨e,E,K,O,_⟩:=h;refine⟨L[i-a]'am,?_,by simp⟩;rw[e,List.getElem?_append_right am,List.getElem?_append_left am,E];simp
theorem Mrg.right (h:Mrg P L R Q l a m b) (I:m<=i) (J:i<b):∃x,l[i]?=some x/\R[i-m]?=some x:=by
 obtain⟨e,E,K,O,_⟩:=h;refine⟨R[i-m]'am,?_,by simp⟩;rw[e,List.getElem?_append_right am,List.getElem?_append_right am,List.getElem?_append_left am,E,show i-a-L.length=i-m by omega];simp
theorem oG {x:Tmd} (h:x∈l.head?):l[0]?=some x:=by cases l<;>simp_all
theorem oF {x:Tmd} (h:x∈l.getLast?):l[l.length-1]?=some x:=by rw[<-List.getLast?_eq_getElem?];exact h
theorem Fs {x:Tmd} (h:x.lt y):x.due<=y.due:=by unfold Tmd.lt at h;omega
theorem Ai (h:vO L R) {x:Tmd} (E:L[i]?=some x) (I:R[j]?=some y):x.seq<y.seq:=h x (bY E) y (bY I)
theorem gG (h:L.Pairwise Tmd.lt) {x:Tmd} (K:L[i]?=some x) (E:L[j]?=some y) (I:i<=j):x.due<=y.due:=by
 obtain⟨O,e1⟩:=gfGet.1 K;obtain⟨T,e2⟩:=gfGet.1 E;rcases Nat.lt_or_eq_of_le I with J|rfl
 · have:=List.pairwise_iff_getElem.1 h i j O T J
   rw[e1,e2] at this;exact Fs this
 · rw[K] at E
   injection E with E;rw[E];exact cu _
end
structure Put1 (P R Q l:List Tmd) (x:Tmd) (a b i j:Nat):Prop where
 i1:a+1<=i
 i2:i<=j
 i3:j<=b
 lo:∀k y,a+1<=k->k<i->l[k]?=some y->y.due<x.due
 hi:∀k y,j<=k->k<b->l[k]?=some y->x.due<=y.due
section
variable {P Q R l:List Tmd} {b:Nat}
theorem Put1.init {x:Tmd} (h:a+1<=b):Put1 P R Q l x a b (a+1) b:=⟨cu _,h,cu _,λk y E I=>by omega,λk y E I=>by omega⟩
theorem Put1.up {x:Tmd} {h:Nat} (m:Mrg P [x] R Q l a (a+1) b) (p:Put1 P R Q l x a b i j) (T:i<=h) (E:h<j) {y:Tmd} (I:l[h]?=some y) (Y:y.due<x.due):Put1 P R Q l x a b (h+1) j:=by
 obtain⟨p1,p2,p3,p4,O⟩:=p;refine⟨am,E,p3,λk z J k2 K=>?_,O⟩;obtain⟨z',e1,e2⟩:=m.right J (by omega:k<b);obtain⟨y',e3,e4⟩:=m.right (by omega:a+1<=h) (by omega:h<b);rw[K] at e1;injection e1 with e1;subst e1;rw[I] at e3;injection e3 with e3;subst e3;have:=gG m.sR e2 e4 am;omega
theorem Put1.down {x:Tmd} {h:Nat} (m:Mrg P [x] R Q l a (a+1) b) (p:Put1 P R Q l x a b i j) (E:i<=h) (T:h<j) {y:Tmd} (I:l[h]?=some y) (Y:¬y.due<x.due):Put1 P R Q l x a b i h:=by
 obtain⟨p1,p2,p3,O,p5⟩:=p;refine⟨p1,E,am,O,λk z k1 J K=>?_⟩;obtain⟨z',e1,e2⟩:=m.right (by omega:a+1<=k) J;obtain⟨y',e3,e4⟩:=m.right (by omega:a+1<=h) (by omega:h<b);rw[K] at e1;injection e1 with e1;subst e1;rw[I] at e3;injection e3 with e3;subst e3;have:=gG m.sR e4 e2 am;omega
theorem Put1.fin {x:Tmd} (m:Mrg P [x] R Q l a (a+1) b) (p:Put1 P R Q l x a b i i):∃A B,R=A++B/\a+1+A.length=i/\Srt ([x]++R) (A++x::B):=by
 obtain⟨p1,p2,p3,K,O⟩:=p;have hR:=m.hR;obtain⟨A,B,e,Y,h2⟩:=part_at (l:=R) (k:=i-(a+1)) rfl am;refine⟨A,B,e,am,?_⟩;have I:=m.sR;rw[e] at I ⊢;refine Srt.left I (λz E=>?_) λz E=>?_
 · have g:=oF E
   have T:A≠[]:=λh=>by rw[h] at E;cases E
   have J:0<A.length:=List.length_pos_iff.2 T;obtain⟨y,e1,e2⟩:=m.right (i:=i-1) am am;have:R[i-1-(a+1)]?=some z:=by rw[e,List.getElem?_append_left am,show i-1-(a+1)=A.length-1 by omega];exact g
   rw[e2] at this;injection this with this;subst this;exact .inl (K _ _ am am e1)
 · have g:=oG E
   have hB:=(gfGet.1 g).1;obtain⟨y,e1,e2⟩:=m.right (i:=i) am am;have:R[i-(a+1)]?=some z:=by rw[e,List.getElem?_append_right am,show i-(a+1)-A.length=0 by omega];exact g
   rw[e2] at this;injection this with this;subst this;exact jZ (Ai m.bf (i:=0) rfl e2) (O _ _ (cu _) am e1)
end
structure Put2 (P L Q l:List Tmd) (x:Tmd) (a m i j:Nat):Prop where
 i1:a<=i
 i2:i<=j
 i3:j<=m
 lo:∀k y,a<=k->k<i->l[k]?=some y->y.due<=x.due
 hi:∀k y,j<=k->k<m->l[k]?=some y->x.due<y.due
section
variable {L P Q l:List Tmd} {m:Nat}
theorem Put2.init {x:Tmd} (h:a<=m):Put2 P L Q l x a m a m:=⟨cu _,h,cu _,λk y E I=>by omega,λk y E I=>by omega⟩
theorem Put2.up {x:Tmd} {h:Nat} (mm:Mrg P L [x] Q l a m (m+1)) (p:Put2 P L Q l x a m i j) (T:i<=h) (E:h<j) {y:Tmd} (I:l[h]?=some y) (Y:¬x.due<y.due):Put2 P L Q l x a m (h+1) j:=by
 obtain⟨p1,p2,p3,p4,O⟩:=p;refine⟨am,E,p3,λk z J k2 K=>?_,O⟩;obtain⟨z',e1,e2⟩:=mm.left J (by omega:k<m);obtain⟨y',e3,e4⟩:=mm.left (by omega:a<=h) (by omega:h<m);rw[K] at e1;injection e1 with e1;subst e1;rw[I] at e3;injection e3 with e3;subst e3;have:=gG mm.sL e2 e4 am;omega
theorem Put2.down {x:Tmd} {h:Nat} (mm:Mrg P L [x] Q l a m (m+1)) (p:Put2 P L Q l x a m i j) (E:i<=h) (T:h<j) {y:Tmd} (I:l[h]?=some y) (Y:x.due<y.due):Put2 P L Q l x a m i h:=by
 obtain⟨p1,p2,p3,O,p5⟩:=p;refine⟨p1,E,am,O,λk z k1 J K=>?_⟩;obtain⟨z',e1,e2⟩:=mm.left (by omega:a<=k) J;obtain⟨y',e3,e4⟩:=mm.left (by omega:a<=h) (by omega:h<m);rw[K] at e1;injection e1 with e1;subst e1;rw[I] at e3;injection e3 with e3;subst e3;have:=gG mm.sL e4 e2 am;omega
theorem Put2.fin {x:Tmd} (mm:Mrg P L [x] Q l a m (m+1)) (p:Put2 P L Q l x a m i i):∃A B,L=A++B/\a+A.length=i/\Srt (L++[x]) (A++x::B):=by
 obtain⟨p1,p2,p3,O,T⟩:=p;have hL:=mm.hL;obtain⟨A,B,e,h1,h2⟩:=part_at (l:=L) (k:=i-a) rfl am;refine⟨A,B,e,am,?_⟩;have J:=mm.sL;have I:=mm.bf;rw[e] at J ⊢;refine Srt.right J (λz E=>?_) λz E=>?_
 · have g:=oF E
   have Y:A≠[]:=λh=>by rw[h] at E;cases E
   have K:0<A.length:=List.length_pos_iff.2 Y;obtain⟨y,e1,e2⟩:=mm.left (i:=i-1) am am;have:L[i-1-a]?=some z:=by rw[e,List.getElem?_append_left am,show i-1-a=A.length-1 by omega];exact g
   rw[e2] at this;injection this with this;subst this;exact jZ (Ai I e2 (j:=0) rfl) (O _ _ am am e1)
 · have g:=oG E
   have hB:=(gfGet.1 g).1;obtain⟨y,e1,e2⟩:=mm.left (i:=i) am am;have:L[i-a]?=some z:=by rw[e,List.getElem?_append_right am,show i-a-A.length=0 by omega];exact g
   rw[e2] at this;injection this with this;subst this;exact .inl (T _ _ (cu _) am e1)
end
structure Cut (l:List Tmd) (a m b d s r:Nat):Prop where
 s1:a<=s
 s2:d<=s+b
 s3:s<=r
 s4:r<=m
 s5:r+m<=d
 lo:∀k x y,a<=k->d<=k+b->k<s->l[k]?=some x->l[d-1-k]?=some y->x.due<=y.due
 hi:∀k x y,r<=k->k<m->k+m<d->l[k]?=some x->l[d-1-k]?=some y->y.due<x.due
section
variable {L P Q R l:List Tmd} {b d h m r s:Nat}
theorem Cut.init (E:a<=s) (I:d<=s+b) (h3:s<=r) (J:r<=m) (K:r+m<=d) (h6:s=a\/d=s+b) (h7:r=m\/r+m=d):Cut l a m b d s r:=
 ⟨E,I,h3,J,K,λk x y O T Y=>by omega,λk x y O T Y=>by omega⟩
theorem Cut.pair (mm:Mrg P L R Q l a m b) (c:Cut l a m b d s r) (E:s<=h) (I:h<r):∃x y,l[h]?=some x/\l[d-1-h]?=some y/\L[h-a]?=some x/\R[d-1-h-m]?=some y:=by
 obtain⟨J,K,O,T,Y,_,_⟩:=c;obtain⟨x,e1,e2⟩:=mm.left (i:=h) am am;obtain⟨y,e3,e4⟩:=mm.right (i:=d-1-h) am am;exact⟨x,y,e1,e3,e2,e4⟩
theorem Cut.up (mm:Mrg P L R Q l a m b) (c:Cut l a m b d s r) (K:s<=h) (J:h<r) {x y:Tmd} (O:l[h]?=some x) (T:l[d-1-h]?=some y) (hd:¬y.due<x.due):Cut l a m b d (h+1) r:=by
 obtain⟨x',y',e1,e2,e3,e4⟩:=c.pair mm K J;obtain⟨c1,c2,c3,c4,c5,c6,c7⟩:=c;rw[O] at e1;injection e1 with e1;subst e1;rw[T] at e2;injection e2 with e2;subst e2;refine⟨am,am,J,c4,c5,λk u v Y k2 k3 hu hv=>?_,c7⟩;obtain⟨u',E,f2⟩:=mm.left Y (by omega:k<m);obtain⟨v',I,f4⟩:=mm.right (i:=d-1-k) am am;rw[hu] at E;injection E with E;subst E;rw[hv] at I;injection I with I;subst I;have g1:=gG mm.sL f2 e3 am;have g2:=gG mm.sR e4 f4 am;omega
theorem Cut.down (mm:Mrg P L R Q l a m b) (c:Cut l a m b d s r) (J:s<=h) (K:h<r) {x y:Tmd} (O:l[h]?=some x) (T:l[d-1-h]?=some y) (hd:y.due<x.due):Cut l a m b d s h:=by
 obtain⟨x',y',e1,e2,e3,e4⟩:=c.pair mm J K;obtain⟨c1,c2,c3,c4,c5,c6,c7⟩:=c;rw[O] at e1;injection e1 with e1;subst e1;rw[T] at e2;injection e2 with e2;subst e2;refine⟨c1,c2,J,am,am,c6,λk u v k1 Y k3 hu hv=>?_⟩;obtain⟨u',E,f2⟩:=mm.left (i:=k) am Y;obtain⟨v',I,f4⟩:=mm.right (i:=d-1-k) am am;rw[hu] at E;injection E with E;subst E;rw[hv] at I;injection I with I;subst I;have g1:=gG mm.sL e3 f2 am;have g2:=gG mm.sR f4 e4 am;omega
end
structure Halves (P L R Q l:List Tmd) (a m b s e:Nat) (L1 L2 R1 R2:List Tmd):Prop where
 eL:L=L1++L2
 eR:R=R1++R2
 h1:a+L1.length=s
 h2:m+R1.length=e
 h3:s+L2.length=m
 h4:e+R2.length=b
 join:∀Y1 Y2,Srt (L1++R1) Y1->Srt (L2++R2) Y2->Srt (L++R) (Y1++Y2)
theorem Cut.fin {P L R Q l:List Tmd} {m b d s:Nat} (mm:Mrg P L R Q l a m b) (c:Cut l a m b d s s):∃J L2 K R2,Halves P L R Q l a m b s (d-s) J L2 K R2:=by
 obtain⟨c1,c2,c3,c4,c5,c6,c7⟩:=c;have hL:=mm.hL;have hR:=mm.hR;obtain⟨J,L2,O,l1,l2⟩:=part_at (l:=L) (k:=s-a) rfl am;obtain⟨K,R2,T,r1,r2⟩:=part_at (l:=R) (k:=d-s-m) rfl am;refine⟨J,L2,K,R2,O,T,am,am,am,am,λY1 Y2 k1 k2=>?_⟩;have sL:=mm.sL;have sR:=mm.sR;have bf:=mm.bf;have key:Srt ((J++L2)++(K++R2)) (Y1++Y2):=by
  refine Dw (O▸sL) (T▸sR) (λx hx y hy=>?_) (λx hx y hy=>?_) k1 k2
  · have Y:=oF hx
    have g2:=oG hy;have n1:=(gfGet.1 Y).1;have n2:=(gfGet.1 g2).1;obtain⟨x',e1,e2⟩:=mm.left (i:=s-1) am am;obtain⟨y',e3,e4⟩:=mm.right (i:=d-1-(s-1)) am am;have E:L[s-1-a]?=some x:=by rw[O,List.getElem?_append_left am,show s-1-a=J.length-1 by omega];exact Y
    have I:R[d-1-(s-1)-m]?=some y:=by rw[T,List.getElem?_append_right am,show d-1-(s-1)-m-K.length=0 by omega];exact g2
    rw[e2] at E;injection E with E;subst E;rw[e4] at I;injection I with I;subst I;exact jZ (Ai bf e2 e4) (c6 _ _ _ am am am e1 e3)
  · have Y:=oF hx
    have g2:=oG hy;have n1:=(gfGet.1 Y).1;have n2:=(gfGet.1 g2).1;obtain⟨y',e1,e2⟩:=mm.left (i:=s) am am;obtain⟨x',e3,e4⟩:=mm.right (i:=d-1-s) am am;have E:L[s-a]?=some y:=by rw[O,List.getElem?_append_right am,show s-a-J.length=0 by omega];exact g2
    have I:R[d-1-s-m]?=some x:=by rw[T,List.getElem?_append_left am,show d-1-s-m=K.length-1 by omega];exact Y
    rw[e2] at E;injection E with E;subst E;rw[e4] at I;injection I with I;subst I;exact .inl (c7 _ _ _ (cu _) am am e1 e3)
 rw[O,T];exact key
inductive Blk (n:Nat):List Tmd->List Tmd->Prop where
 | short {X Y:List Tmd}:X.length<=n->Srt X Y->Blk n X Y
 | more {X Y X' Y':List Tmd}:X.length=n->Srt X Y->Blk n X' Y'->Blk n (X++X') (Y++Y')
theorem Srt.len {X Y:List Tmd} (h:Srt X Y):Y.length=X.length:=h.perm.length_eq
theorem Srt.nil:Srt [] []:=⟨List.Perm.refl _,List.Pairwise.nil⟩
theorem Blk.perm {n:Nat} {X Y:List Tmd} (h:Blk n X Y):Y.Perm X:=by
 induction h with
 | short _ h=>exact h.perm
 | more _ h _ E=>exact h.perm.append E
theorem Blk.part {X Y:List Tmd} (h:Blk n X Y) (E:n<=X.length):∃A B C D,X=A++B/\Y=C++D/\A.length=n/\Srt A C/\Blk n B D:=by
 cases h with
 | short h k=>exact⟨X,[],Y,[],by simp,by simp,am,k,.short cY Srt.nil⟩
 | @more A C B D h k b=>exact⟨A,B,C,D,rfl,rfl,h,k,b⟩
theorem Blk.all {X Y:List Tmd} (h:Blk n X Y) (E:X.length<=n):Srt X Y:=by
 cases h with
 | short h k=>exact k
 | @more A C B D h k b=>
  simp at E;obtain rfl:B=[]:=List.eq_nil_of_length_eq_zero am;obtain rfl:D=[]:=List.eq_nil_of_length_eq_zero (by have:=b.perm.length_eq;simpa using this);simpa using k
structure BlkTo (n:Nat) (X l:List Tmd) (a:Nat) (U V:List Tmd):Prop where
 ex:∃A Z,X=A++U/\l=Z++V/\A.length=a/\Z.length=a/\∀U' V',Blk n U' V'->Blk n (A++U') (Z++V')
theorem BlkTo.init (n:Nat) (X l:List Tmd):BlkTo n X l 0 X l:=⟨[],[],rfl,rfl,rfl,rfl,λ_ _ h=>h⟩
theorem BlkTo.fin {X l U V:List Tmd} (h:BlkTo n X l a U V) (k:Blk n U V):Blk n X l:=by
 obtain⟨A,Z,e1,e2,_,_,h⟩:=h.ex;rw[e1,e2];exact h _ _ k
theorem BlkTo.more {n a:Nat} {X l U V C D Y W:List Tmd} (h:BlkTo n X l a U V) (I:U=C++D) (J:C.length=n) (E:Srt C Y):BlkTo n X (l.take a++(Y++W)) (a+n) D W:=by
 obtain⟨A,Z,e1,e2,T,h2,h⟩:=h.ex;refine⟨A++C,Z++Y,by rw[e1,I];simp,?_,by simp;omega,by rw[List.length_append,E.len];omega,λK O k=>?_⟩
 · rw[e2,List.take_append_of_le_length am,List.take_of_length_le am];simp
 · rw[List.append_assoc,List.append_assoc]
   exact h _ _ (.more J E k)
abbrev Seqs (X:List Tmd):Prop:=X.Pairwise λx y=>x.seq<y.seq
section
variable {A B C D U V X Y l:List Tmd}
theorem Srt.before (h:Srt A C) (k:Srt B D) (E:vO A B):vO C D:=λx I y J=>E x (h.perm.mem_iff.1 I) y (k.perm.mem_iff.1 J)
theorem Srt.both (h:Srt A C) (k:Srt B D) (y:Srt (C++D) Y):Srt (A++B) Y:=⟨y.perm.trans (h.perm.append k.perm),y.srt⟩
theorem Blk.len (h:Blk n X Y):Y.length=X.length:=h.perm.length_eq
theorem BlkTo.ins (h:BlkTo n X l a U U) (E:Seqs X) (J:a+n<=l.length):∃P I Q,l=P++(I++Q)/\P.length=a/\a+I.length=a+n/\Seqs I/\∀Y,Srt I Y->BlkTo n X (P++(Y++Q)) (a+n) Q Q:=by
 obtain⟨A,Z,e1,e2,h1,O,k⟩:=h.ex;have T:n<=U.length:=by rw[e2,List.length_append] at J;omega
 obtain⟨I,Q,e3,e4,e5⟩:=part_at (l:=U) (k:=n) rfl T;refine⟨Z,I,Q,by rw[e2,e3],O,am,?_,λY K=>?_⟩
 · rw[e1,e3] at E
   exact(List.pairwise_append.1 (List.pairwise_append.1 E).2.1).1
 · have:=h.more (W:=Q) e3 e4 K
   rw[e2,List.take_append_of_le_length am,List.take_of_length_le am] at this;exact this
theorem BlkTo.insLast (h:BlkTo n X l a U U) (E:Seqs X) (J:l.length<a+n):∃P I,l=P++(I++[])/\P.length=a/\a+I.length=l.length/\Seqs I/\∀Y,Srt I Y->Blk n X (P++(Y++[])):=by
 obtain⟨A,Z,e1,e2,T,O,k⟩:=h.ex;rw[e2,List.length_append] at J;refine⟨Z,U,by rw[e2];simp,O,by rw[e2,List.length_append];omega,?_,λY K=>?_⟩
 · rw[e1] at E
   exact(List.pairwise_append.1 E).2.1
 · rw[e1,List.append_nil]
   exact k _ _ (.short am K)
theorem BlkTo.pair (h:BlkTo (2*n) X l a U V) (k:Blk n U V) (hs:Seqs X) (hl:a+2*n<=l.length):∃P L R Q U',Mrg P L R Q l a (a+n) (a+2*n)/\Blk n U' Q/\∀Y,Srt (L++R) Y->BlkTo (2*n) X (P++(Y++Q)) (a+2*n) U' Q:=by
 obtain⟨A,Z,e1,e2,h1,h2,_⟩:=h.ex;have hV:=k.len;have E:=hl;rw[e2,List.length_append] at E;obtain⟨A1,B1,C1,D1,K,O,f3,I,f5⟩:=k.part am;have mt:=I.len;rw[K,O,List.length_append,List.length_append] at hV;rw[O,List.length_append] at E;obtain⟨A2,B2,C2,D2,g1,g2,g3,J,g5⟩:=f5.part am;have wf:=J.len;rw[e1,K,g1] at hs;have T:=(List.pairwise_append.1 hs).2.1;refine⟨Z,C1,C2,D2,B2,⟨by rw[e2,O,g2],h2,am,am,I.srt,J.srt,I.before J λx hx y hy=>(List.pairwise_append.1 T).2.2 x hx y (List.mem_append_left _ hy)⟩,g5,λY hY=>?_⟩;have:=h.more (C:=A1++A2) (D:=B2) (W:=D2) (by rw[K,g1];simp) (by simp;omega) (I.both J hY);rw[e2,List.take_append_of_le_length am,List.take_of_length_le am] at this;exact this
theorem BlkTo.pairLast (h:BlkTo (2*n) X l a U V) (k:Blk n U V) (T:Seqs X) (h1:l.length<a+2*n) (h2:a+n<l.length):∃P L R,Mrg P L R [] l a (a+n) l.length/\∀Y,Srt (L++R) Y->Blk (2*n) X (P++(Y++[])):=by
 obtain⟨A,Z,e1,e2,h3,h4,kk⟩:=h.ex;have hV:=k.len;rw[e2,List.length_append] at h1 h2;obtain⟨A1,B1,C1,D1,I,J,f3,E,f5⟩:=k.part am;have mt:=E.len;have wf:=f5.len;rw[J,List.length_append] at h1 h2;have K:=f5.all am;rw[e1,I] at T;have O:=(List.pairwise_append.1 T).2.1;refine⟨Z,C1,D1,⟨by rw[e2,J];simp,h4,am,by rw[e2,J];simp;omega,E.srt,K.srt,E.before K λx hx y hy=>(List.pairwise_append.1 O).2.2 x hx y hy⟩,λY hY=>?_⟩;rw[e1,List.append_nil];exact kk _ _ (.short (by rw[I,List.length_append];omega) (by rw[I];exact E.both K hY))
theorem BlkTo.rest (h:BlkTo (2*n) X l a U V) (k:Blk n U V) (E:l.length<=a+n):Blk (2*n) X l:=by
 obtain⟨A,Z,e1,e2,h3,I,J⟩:=h.ex;have K:=k.len;rw[e2,List.length_append] at E;exact h.fin (.short am (k.all am))
theorem BlkTo.len (h:BlkTo n X l a U V):a<=l.length:=by
 obtain⟨A,Z,e1,e2,h3,E,I⟩:=h.ex;rw[e2,List.length_append];omega
end
open FK (Pl KD)
structure Pair (N:Nat) (S:FK.En) (M:En):Prop where
 ok:FK.Ok S
 sim:Sim S M
 ke:Ke M
 sets:S.sets<=400*N
 ends:S.ends<=400*N
 lr:S.KT<=N
 lt:S.KS<=N
 tms:M.timers<=400*N
section
variable {N:Nat} {M:En}
theorem Pair.fine (h:Pair N S M) (E:N<=1000000000000):Fine M:=h.sim.fine h.ok (by have:=h.tms;omega) (by have:=h.ends;omega)
theorem Pair.nd (h:Pair N S M):(M.runs.map (·.id)).Nodup:=h.sim.nd
theorem Ke.lt (h:Ke M):M.runs.Pairwise λa b=>a.id<b.id:=by
 unfold Ke En.ids at h;rw[List.pairwise_map] at h;exact h.imp λh=>h.1
theorem Pair.len (h:Pair N S M):S.runs.length=M.runs.length:=by rw[h.sim.runs,List.length_map]
theorem Pair.six (h:Pair N S M):M.runs.length<=6:=h.len▸h.ok.six
theorem Pair.none (h:Pair N S M):S.getR (M.KT+1)=none:=by
 cases hR:S.getR (M.KT+1) with
 | none=>rfl
 | some R=>
  have I:M.KT+1∈S.runs.map (·.1):=by
   unfold FK.En.getR at hR;rw[Option.map_eq_some_iff] at hR;obtain⟨x,E,_⟩:=hR;have J:=List.find?_some E;rw[<-(beq_iff_eq.1 J:x.1=_)];exact List.mem_map_of_mem (List.mem_of_find?_eq_some E)
  have:=(h.ok.low _ I).2;have:=h.sim.lr;omega
theorem Pair.KY (h:Pair N S M) {p:Nat×Int} (E:p∈M.KX):∃(i k:Nat) (u:Rn) (s:St),M.runs[i]?=some u/\u.id=p.1/\p.2=(k:Int)/\u.KV[k]?=some s/\s.state=2:=by
 have Y:xa p∈S.KX:=by rw[h.sim.KX];exact List.mem_map_of_mem E
 obtain⟨id,k,x,e,I,J⟩:=(h.ok.KX _).1 Y;obtain⟨R,K,O⟩:=FK.jj I;obtain⟨i,u,T,e1,rfl⟩:=h.sim.toAb.back K;obtain⟨s,hs1,rfl⟩:=Cr O;unfold xa at e;injection e with e2 e3;exact⟨i,k,u,s,T,e1.trans e2.symm,e3,hs1,J⟩
theorem Pair.seqs (h:Pair N S M):Seqs (S.tms.map (ET M)):=by
 rw[Seqs,List.pairwise_map];refine List.Pairwise.imp_of_mem ?_ h.sim.tm.ord;intro x y K O E;obtain⟨s,I⟩:=(h.sim.tm.mem x.1 x.2).1 K;obtain⟨t,J⟩:=(h.sim.tm.mem y.1 y.2).1 O;have:=E _ _ I J;simpa[ET,I,J] using this
theorem Pair.told (h:Pair N S M) {Y:List Tmd} (k:Srt (S.tms.map (ET M)) Y):Y=M.tms:=
 s8 k.srt ((r4 _ _ rfl).2 (Dt h.sim)) λx=>by rw[k.perm.mem_iff,<-Ig h.sim];exact((r4 _ _ rfl).1 x).symm
end
end FR
namespace FK
def qC (R:Rn) (k:Nat):Prop:=∀u∈aft R.fl.KW k,cO R.KV u 5=true
theorem isAt_iff {l:List Sp} {x:Int}:cO l k x=true<->∃s,l[k]?=some s/\s.state=x:=by
 constructor
 · exact oy
 · rintro⟨s,E,I⟩
   rw[fk E];simpa using I
structure Hon0 (R:Rn):Prop where
 up:∀(k:Nat) (s:Sp),R.KV[k]?=some s->(2<=s.state/\s.state<=6)->qC R k
 wt:R.state=1->∀(k:Nat) (s:Sp),R.KV[k]?=some s->s.state=1->¬qC R k
 sk:R.state=1->∀(k:Nat) (s:Sp),R.KV[k]?=some s->s.state=1->∀u∈aft R.fl.KW k,cO R.KV u 6=false/\cO R.KV u 7=false
structure Hon (R:Rn):Prop where
 h0:Hon0 R
 go:R.state=1->∃(k:Nat) (s:Sp),R.KV[k]?=some s/\over s=false
 all:R.state=2->∀(k:Nat) (s:Sp),R.KV[k]?=some s->s.state=5
 lost:R.state≠1->R.state≠2->∃(k:Nat) (s:Sp),R.KV[k]?=some s/\s.state≠5
theorem over_iff:over s=true<->s.state=5\/s.state=6\/s.state=7:=by
 unfold over;simp only[Bool.or_eq_true,beq_iff_eq];omega
theorem xF:over s=false<->s.state≠5/\s.state≠6/\s.state≠7:=by
 rw[<-Bool.not_eq_true,over_iff];omega
structure Nx (s s':Sp):Prop where
 KU:s'.KU=s.KU
 ov:over s=true->s'.state=s.state
 w3:s'.state=3->s'=s
 w4:s'.state=4->s.state=4
 w2:s'.state=2->s.state=2\/s.state=1
 w1:s'.state=1->s.state=1
theorem Nx.refl (s:Sp):Nx s s:=⟨rfl,λ_=>rfl,λ_=>rfl,λh=>h,λh=>.inl h,λh=>h⟩
theorem Nx.trans {a b c:Sp} (h:Nx a b) (k:Nx b c):Nx a c:=⟨k.KU.trans h.KU,λE=>(k.ov (by have:=h.ov E;rw[over_iff] at E ⊢;omega)).trans (h.ov E),λe=>by
 have e2:=k.w3 e;rw[e2];exact h.w3 (by rw[<-e2];exact e),λe=>h.w4 (k.w4 e),λe=>by
 rcases k.w2 e with e|e
 · exact h.w2 e
 · exact .inr (h.w1 e),λe=>h.w1 (k.w1 e)⟩
theorem Nx.skip (h:s.state=1):Nx s {s with state:=7}:=⟨rfl,λE=>by rw[over_iff] at E;omega,λe=>by replace e:(7:Int)=3:=e;omega,λe=>by replace e:(7:Int)=4:=e;omega,λe=>by replace e:(7:Int)=2:=e;omega,λe=>by replace e:(7:Int)=1:=e;omega⟩
theorem nw (h:over s=true):(endS {s with token:=0}).state=s.state:=by
 rw[over_iff] at h;unfold endS
 split
 · rfl
 · rename_i E
   have:¬(s.state=5\/s.state=6):=E;show(7:Int)=_;omega
theorem su (h:s.state≠5):(endS {s with token:=0}).state≠5:=by
 unfold endS
 split
 · exact h
 · show(7:Int)≠5
   decide
theorem endS_five:(endS {s with token:=0}).state=5<->s.state=5:=by
 constructor
 · intro h
   exact Classical.byContradiction λE=>su E h
 · intro h
   rw[nw (over_iff.2 (.inl h))];exact h
theorem Nx.ended (s:Sp):Nx s (endS {s with token:=0}):=by
 have h:=od {s with token:=0};exact⟨tC _,nw,λe=>by omega,λe=>by omega,λe=>by omega,λe=>by omega⟩
structure Fr (id:Nat) (S U:En):Prop where
 others:∀a,a≠id->U.getR a=S.getR a
 keys:U.runs.map (·.1)=S.runs.map (·.1)
 now:U.now=S.now
 seed:U.seed=S.seed
 KT:U.KT=S.KT
 KS:U.KS=S.KS
theorem Fr.refl (id:Nat) (S:En):Fr id S S:=⟨λ_ _=>rfl,rfl,rfl,rfl,rfl,rfl⟩
theorem Fr.trans {id:Nat} {S T U:En} (h:Fr id S T) (k:Fr id T U):Fr id S U:=⟨λa E=>(k.others a E).trans (h.others a E),k.keys.trans h.keys,k.now.trans h.now,k.seed.trans h.seed,k.KT.trans h.KT,k.KS.trans h.KS⟩
structure Same (S U:En):Prop where
 tms:U.tms=S.tms
 KY:U.KY=S.KY
 ends:U.ends=S.ends
 sets:U.sets=S.sets
theorem xx (E:S.getR id=some R) (I:R.KV[k]?=some s):Fr id S (S.ready id k)/\Same S (S.ready id k):=by
 rw[jz E I];exact⟨⟨λa J=>gf J,setR_keys,rfl,rfl,rfl,rfl⟩,⟨rfl,rfl,rfl,rfl⟩⟩
structure Fin (id:Nat) (S U:En) (R R':Rn) (st:Int):Prop where
 get:U.getR id=some R'
 fr:Fr id S U
 fl:R'.fl=R.fl
 state:R'.state=st
 len:R'.KV.length=R.KV.length
 KV:∀(j:Nat) (s:Sp),R.KV[j]?=some s->R'.KV[j]?=some (endS {s with token:=0})
 tms:∀x∈U.tms,x∈S.tms
 ends:U.ends=S.ends+1
 sets:U.sets=S.sets
section
variable {R':Rn}
theorem Ok.fin (h:Ok S) (I:S.getR id=some R) (st:Int):∃R',Fin id S (S.finish id st) R R' st:=by
 have E:=h.ended I st;obtain⟨R',K,O,T,g4,Y,g6⟩:=E.run;exact⟨R',K,⟨E.others,E.keys,E.now,E.seed,E.KT,E.KS⟩,O,T,Y,g6,λx J=>((E.tms x).1 J).1,E.ends,E.sets⟩
theorem Fin.back (h:Fin id S U R R' st) {s':Sp} (J:R'.KV[k]?=some s'):∃s,R.KV[k]?=some s/\s'=endS {s with token:=0}:=by
 have I:k<R.KV.length:=by have:=(gfGet.1 J).1;rwa [h.len] at this
 have E:R.KV[k]?=some (R.KV[k]):=List.getElem?_eq_getElem I;have:=h.KV k _ E;rw[J] at this;injection this with this;exact⟨_,E,this⟩
theorem Fin.up (h:Fin id S U R R' st) (E:qC R k):qC R' k:=by
 unfold qC at E ⊢;rw[h.fl];intro u K;obtain⟨s,I,J⟩:=isAt_iff.1 (E u K);exact isAt_iff.2 ⟨_,h.KV u s I,endS_five.2 J⟩
theorem Fin.hon0 (h:Fin id S U R R' st) (E:st≠1) (K:∀(k:Nat) (s:Sp),R.KV[k]?=some s->(2<=s.state/\s.state<=6)->qC R k):Hon0 R':=by
 refine⟨λk s' J I=>?_,λe=>absurd (h.state.symm.trans e) E,λe=>absurd (h.state.symm.trans e) E⟩;obtain⟨s,O,rfl⟩:=h.back J;refine h.up (K k s O ?_);unfold endS at I
 split at I
 · exact I
 · have:(2:Int)<=7/\(7:Int)<=6:=I
   omega
theorem Fin.hon (h:Fin id S U R R' st) (I:st≠1) (O:st≠2) (J:Hon R) (E:R.state=1):Hon R':=by
 refine⟨h.hon0 I J.h0.up,λe=>absurd (h.state.symm.trans e) I,λe=>absurd (h.state.symm.trans e) O,λ_ _=>?_⟩;obtain⟨k,s,T,K⟩:=J.go E;rw[xF] at K;exact⟨k,_,h.KV k s T,su K.1⟩
end
structure Settled (id:Nat) (S U:En) (R R':Rn):Prop where
 get:U.getR id=some R'
 fr:Fr id S U
 fl:R'.fl=R.fl
 len:R'.KV.length=R.KV.length
 KV:∀(j:Nat) (s:Sp),R.KV[j]?=some s->∃s',R'.KV[j]?=some s'/\Nx s s'/\s'.state=s.state
 hon:Hon R'
 tms:∀x∈U.tms,x∈S.tms
 ends:U.ends<=S.ends+1
 sets:U.sets=S.sets
 stay:R'.state=1->U=S/\R'=R
theorem Ok.settled (h:Ok S) (hR:S.getR id=some R) (T:R.state=1) (h0:Hon0 R):∃R',Settled id S (S.settle id) R R':=by
 unfold En.settle;rw[hR];simp only
 by_cases Y:R.KV.all over=true
 · rw[if_pos Y]
   rw[List.all_eq_true] at Y;have ho:∀(j:Nat) (s:Sp),R.KV[j]?=some s->over s=true:=λj s E=>Y s (bY E);obtain⟨st,O⟩:∃st:Int,st=if (R.KV.all λs=>s.state==5)=true then 2 else 3:=⟨_,rfl⟩
   have J:st≠1:=by rw[O];split<;>decide
   rw[<-O];obtain⟨R',I⟩:=h.fin hR st;refine⟨R',I.get,I.fr,I.fl,I.len,λj s E=>⟨_,I.KV j s E,Nx.ended s,nw (ho j s E)⟩,⟨I.hon0 J h0.up,λe=>absurd (I.state.symm.trans e) J,λe k s' mt=>?_,λ_ e=>?_⟩,I.tms,Nat.le_of_eq I.ends,I.sets,λe=>absurd (I.state.symm.trans e) J⟩
   · obtain⟨s,E,rfl⟩:=I.back mt
     rw[nw (ho k s E)];have e2:st=2:=I.state.symm.trans e;rw[O] at e2
     split at e2
     · rename_i K
       rw[List.all_eq_true] at K;simpa using K s (bY E)
     · omega
   · have e2:¬(R.KV.all λs=>s.state==5)=true:=λK=>e (by rw[I.state,O,if_pos K])
     rw[List.all_eq_true] at e2;have:∃s∈R.KV,s.state≠5:=Classical.byContradiction λhn=>e2 λs E=>by
      have:s.state=5:=Classical.byContradiction λK=>hn ⟨s,E,K⟩;simpa using this
     obtain⟨s,E,K⟩:=this;obtain⟨k,hk⟩:=List.getElem?_of_mem E;exact⟨k,_,I.KV k s hk,su K⟩
 · rw[if_neg Y]
   have:∃s∈R.KV,over s=false:=Classical.byContradiction λhn=>Y (List.all_eq_true.2 λs E=>by
    cases ho:over s with
    | true=>rfl
    | false=>exact absurd ⟨s,E,ho⟩ hn)
   obtain⟨s,E,K⟩:=this;obtain⟨k,hk⟩:=List.getElem?_of_mem E;exact⟨R,hR,Fr.refl _ _,rfl,rfl,λj s E=>⟨s,E,Nx.refl s,rfl⟩,⟨h0,λ_=>⟨k,s,hk,K⟩,λe=>by omega,λe=>absurd T e⟩,λ_ hx=>hx,Nat.le_succ _,rfl,λ_=>⟨rfl,rfl⟩⟩
end FK
