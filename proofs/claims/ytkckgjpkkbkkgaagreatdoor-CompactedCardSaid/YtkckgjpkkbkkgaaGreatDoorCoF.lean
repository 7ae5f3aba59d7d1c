/- The engine in memory: runs, tasks, queue, timers. -/
import Derived.Test.YtkckgjpkkbkkgaaGreatDoorCoE
import Derived.Test.YtkckgjpkkbkkgaaGreatDoorCoA
import Derived.Test.YtkckgjpkkbkkgaaGreatDoorCoB
import Derived.RangeFuncLeaves
import Derived.RangeFuncSeq
import Derived.Test.YtkckgjpkkbkkgaaGreatDoorCoC
import Derived.Scope
import Derived.Shelf.SlLaysF
import Derived.Shelf.SlGeneric
import Derived.Test.YtkckgjpkkbkkgaaGreatDoorChecked
import Derived.Shelf.SlSortCmp.Whole1
import Derived.Shelf.SlSortCmp.NoneTotal
import Derived.Test.YtkckgjpkkbkkgaaGreatDoorCoD
import Derived.Lib.AppendZerosOnto
set_option maxHeartbeats 1000000
set_option maxRecDepth 10000
namespace Go.Y
open Go.Proofs Go.RowKit Go.SL
variable {G:Env->Prop}
class HasRing (e:Nat) (l:List HP) (C:outParam EC) (q:outParam (List FK.Pl)) (r:outParam (List HP)):Prop where
 sel:Sel (dV e C q) l r
instance HasRing.head {e:Nat} {C:EC} {q:List FK.Pl} {l:List HP}:HasRing e (dV e C q::l) C q l:=⟨.head⟩
instance (priority:=low) HasRing.tail {e:Nat} {C:EC} {q:List FK.Pl} {l r:List HP} {p:HP} [h:HasRing e l C q r]:HasRing e (p::l) C q (p::r):=⟨.tail h.sel⟩
class HasMap {K:Type} (enc:K->Value) (b:Nat) (l:List HP) (m:outParam (List (K×Value))) (r:outParam (List HP)):Prop where
 sel:Sel (cA enc b m) l r
instance HasMap.head {K:Type} {enc:K->Value} {b:Nat} {m:List (K×Value)} {l:List HP}:HasMap enc b (cA enc b m::l) m l:=⟨.head⟩
instance (priority:=low) HasMap.tail {K:Type} {enc:K->Value} {b:Nat} {m:List (K×Value)} {l r:List HP} {p:HP} [h:HasMap enc b l m r]:HasMap enc b (p::l) m (p::r):=⟨.tail h.sel⟩
class HasRow (g:Nat) (l:List HP) (e:outParam TypeId) (size n m c:outParam Nat) (xs:outParam (List Value)) (r:outParam (List HP)):Prop where
 sel:Sel (row e size (.slice (some ⟨g,0,none⟩) n c) m xs) l r
instance HasRow.head {g:Nat} {e:TypeId} {size n m c:Nat} {xs:List Value} {l:List HP}:HasRow g (row e size (.slice (some ⟨g,0,none⟩) n c) m xs::l) e size n m c xs l:=⟨.head⟩
instance (priority:=low) HasRow.tail {g:Nat} {e:TypeId} {size n m c:Nat} {xs:List Value} {l r:List HP} {p:HP} [h:HasRow g l e size n m c xs r]:HasRow g (p::l) e size n m c xs (p::r):=⟨.tail h.sel⟩
section
variable {E:Env} {l:List HP}
theorem FX {e i:Nat} {C:EC} {q:List FK.Pl} {r:List HP} {v:Value} [h:HasRing e l C q r] (I:∀rv f n,(vH C rv f n)[i]?=some v):∀w,Holds E w l->cR ⟨e,i,none⟩ v w:=λw hw=>by
 obtain⟨F1,_,_,_,_,K,_⟩:=(hw.sel h.sel).star;obtain⟨⟨rv,N,f,rg⟩,T,Y,_,_,_,_,G3,G4,_,_,_,O,_⟩:=K;have:=O.2;simp only[cR,World.cell?,this];exact I _ _ _
end
theorem xH {P:Program} {E:Env} {n:Nat} {D:List Deferred} {ts:List (Nat×Value)} {l r:List HP} {Q:Exit->Act->World->Prop} {I:TypeId} {pos:String} {O:Array Edge} {g:Option (Nat×Bool)} {t:TypeId} {x y:Operand} {e i:Nat} {C C':EC} {q:List FK.Pl} {v:Value} {K:Act->World->Prop} [h:HasRing e l C q r]
 (T:dm P t 1) (Y:ev ts x=some (.pointer (some ⟨e,i,none⟩))) (hy:ev ts y=some v) (hv:v.oneCell'=true) (hi:i<10) (hC:∀rv f n,(vH C rv f n).setIfInBounds i v=vH C' rv f n) (hk:At E n D ts (dV e C' q::r) K):At E n D ts l (λa w=>(Oper.mk none (.store t x y) I pos O g).wp P a w K Q):=by
 refine cN h.sel λ⟨rv,N,f,rg⟩=>?_;refine bl ?_;show At E n D ts (HP.pure (FK.RingOk N f q rg)::oC e C rv f q.length::row 157 3 rv N (rV N rg)::r) _;refine ec .head λhR=>?_;refine cp (b:=e) (cs:=vH C rv f q.length) Z T Y hy hv (by simpa using hi) ?_;rw[hC];exact al (gL hR) hk
abbrev aV (n:Nat):Value:=.int .u64 (n:Int)
theorem fy:KeyK Tryz.prog 30 Nat aV:=K6 eP
abbrev n7 (s:FK.Sp):List Value:=[.int .i64 s.state,.int .i64 s.Lu,.int .u64 s.token]
def oy (l:List FK.Sp):List Value:=l.flatMap n7
theorem oF (l:List FK.Sp):(oy l).length=l.length*3:=fD (k:=3) (λ_=>rfl) l
theorem vN {l:List FK.Sp} {i:Nat} {s:FK.Sp} (h:l[i]?=some s) (j:Nat) (u:Value) (I:(n7 s)[j]?=some u):(oy l)[0+i*3+j]?=some u:=by
 rw[Nat.zero_add];exact gW (k:=3) (λ_=>rfl) j h I
theorem FP:fV Tryz.prog 150 (.agg #[.int .i64 0,.int .i64 0,.int .u64 0]) 3 24:=by unfold fV;kernel_rfl
theorem pW {α:Type} {f:α->List Value} (I:∀x,(f x).length=3) {l:List α} {L:List Value} (hl:L.length=l.length*3) (h:∀i x j u,l[i]?=some x->(f x)[j]?=some u->L[i*3+j]?=some u):L=l.flatMap f:=by
 apply List.ext_getElem?;intro k
 by_cases hk:k<l.length*3
 · have Y:k/3<l.length:=ai
   have h2:k%3<3:=Nat.mod_lt _ ai;have K:l[k/3]?=some l[k/3]:=List.getElem?_eq_getElem Y;have h3:(f l[k/3])[k%3]?=some ((f l[k/3])[k%3]'(by rw[I];exact h2)):=List.getElem?_eq_getElem _;have O:=h (k/3) _ (k%3) _ K h3;have T:=gW I (k%3) K h3;rw[show k/3*3+k%3=k by omega] at O T;rw[O,T]
 · rw[List.getElem?_eq_none ai,List.getElem?_eq_none (by rw[fD I];omega)]
theorem IQ {l:List FK.Sp} {i:Nat} (hi:i<l.length) (s:FK.Sp):ky (oy l) (0+i*3) (n7 s)=oy (l.set i s):=by
 refine pW (λ_=>rfl) (by rw[gp,oF,List.length_set]) λk x j u I K=>?_;have O:j<3:=by have:=(gfGet.1 K).1;simpa using this
 by_cases h:k=i
 · subst h
   rw[List.getElem?_set_self hi] at I;injection I with I;subst I;rw[show k*3+j=(0+k*3)+j by omega];exact nt (n7 s) (oy l) (0+k*3) j u (by rw[oF];simp;omega) K
 · rw[List.getElem?_set_ne (Ne.symm h)] at I
   rw[jg _ _ _ _ (by simp;omega)];have:=vN I j u K
   rwa [Nat.zero_add] at this
theorem rZ {l:List FK.Sp} {i:Nat} {s s':FK.Sp} (T:l[i]?=some s) {j:Nat} (hj:j<3) {v:Value} (h:(n7 s).set j v=n7 s'):(oy l).set (0+i*3+j) v=oy (l.set i s'):=by
 have hi:=(gfGet.1 T).1;refine pW (λ_=>rfl) (by rw[List.length_set,oF,List.length_set]) λk x m u K I=>?_;have hm:m<3:=by have:=(gfGet.1 I).1;simpa using this
 by_cases Y:k=i
 · subst Y
   rw[List.getElem?_set_self hi] at K;injection K with K;subst K;rw[<-h] at I
   by_cases O:m=j
   · subst O
     rw[List.getElem?_set_self (by simpa using hm)] at I;rw[show 0+k*3+m=k*3+m by omega,List.getElem?_set_self (by rw[oF];omega)];exact I
   · rw[List.getElem?_set_ne (Ne.symm O)] at I
     rw[List.getElem?_set_ne ai];have:=vN T m u I
     rwa [Nat.zero_add] at this
 · rw[List.getElem?_set_ne (Ne.symm Y)] at K
   rw[List.getElem?_set_ne ai];have:=vN K m u I
   rwa [Nat.zero_add] at this
abbrev ey (vs:List Value) (l:List FK.Node):HP:=HP.all (ck vs l)
structure RA where
 gn:Nat
 cn:Nat
 gs:Nat
 cs:Nat
 vs:List Value
abbrev RA.nv (a:RA) (R:FK.Rn):Value:=.slice (some ⟨a.gn,0,none⟩) R.fl.Lw.length a.cn
abbrev RA.sv (a:RA) (R:FK.Rn):Value:=.slice (some ⟨a.gs,0,none⟩) R.Lv.length a.cs
abbrev xj (a:RA) (R:FK.Rn):Array Value:=#[.int .i64 R.fl.deadline,a.nv R,.int .i64 R.state,a.sv R,.int .u64 R.ended]
abbrev zP (I:Nat) (a:RA) (R:FK.Rn):HP:=blk I 148 (xj a R)
abbrev oz (I:Nat) (a:RA) (R:FK.Rn):List HP:=[HP.pure (a.vs.length=R.fl.Lw.length),zP I a R,row 58 7 (a.nv R) R.fl.Lw.length (bU R.fl.Lw a.vs),ey a.vs R.fl.Lw,row 150 3 (a.sv R) R.Lv.length (oy R.Lv)]
def kV (I:Nat) (a:RA) (R:FK.Rn):HP:=HP.all (oz I a R)
structure EA where
 rm:Nat
 tm:Nat
 w:Nat
 fb:Nat->Nat
 ra:Nat->RA
structure WOk (now sets:Nat) (tms:List FK.KD) (W:FK.WS):Prop where
 now:W.now=now
 seq:W.seq<=sets
 inv:FK.Inv W []
 tms:W.tms.map FK.kd=tms
def dx (w now sets:Nat) (tms:List FK.KD):HP:=HP.ex λW:FK.WS=>HP.all [HP.pure (WOk now sets tms W),cb w W]
abbrev ep (S:FK.En):Prop:=(S.runs.map (·.1)).Nodup
abbrev ja (S:FK.En) (p:EA):EC:=⟨S.seed,p.rm,p.tm,p.w,S.Lt,S.Ls,S.ends⟩
abbrev eV (S:FK.En) (p:EA):List (Nat×Value):=S.runs.map λr=>(r.1,aX (p.fb r.1))
abbrev dH (S:FK.En):List (Nat×Value):=S.Ly.map λt=>(t.1,iW t.2)
abbrev iw (p:EA) (l:List (Nat×FK.Rn)):List HP:=l.map λr=>kV (p.fb r.1) (p.ra r.1) r.2
def fw (p:EA) (l:List (Nat×FK.Rn)):HP:=HP.all (iw p l)
abbrev j0 (e:Nat) (p:EA) (S:FK.En):List HP:=[HP.pure (ep S),dV e (ja S p) S.Lx,cA aV p.rm (eV S p),fw p S.runs,cA aV p.tm (dH S),dx p.w S.now S.sets S.tms]
def aG (e:Nat) (p:EA) (S:FK.En):HP:=HP.all (j0 e p S)
class HasEng (l:List HP) (e:outParam Nat) (p:outParam EA) (S:outParam FK.En) (r:outParam (List HP)):Prop where
 sel:Sel (aG e p S) l r
instance HasEng.head {e:Nat} {p:EA} {S:FK.En} {l:List HP}:HasEng (aG e p S::l) e p S l:=⟨.head⟩
instance (priority:=low) HasEng.tail {e:Nat} {p:EA} {S:FK.En} {l r:List HP} {x:HP} [h:HasEng l e p S r]:HasEng (x::l) e p S (x::r):=⟨.tail h.sel⟩
theorem oZ {S:FK.En} {id:Nat} {R:FK.Rn} (h:S.getR id=some R):(id,R)∈S.runs:=by
 unfold FK.En.getR at h;cases hf:S.runs.find? (·.1==id) with
 | none=>rw[hf] at h;cases h
 | some x=>
  rw[hf] at h;injection h with h;have I:=List.find?_some hf;have K:=List.mem_of_find?_eq_some hf;obtain⟨a,b⟩:=x;have:a=id:=by simpa using I
  subst this;have:b=R:=h;subst this;exact K
theorem zU {w:World} {F:Nat->Prop} {t:TypeId} {size m g o c:Nat} {xs vs:List Value} (h:(row t size (.slice (some ⟨g,0,none⟩) m c) m xs).sat w F) (I:∀j u,vs[j]?=some u->xs[o+j]?=some u):jb g o vs w:=λj v K=>by
 have:=h.1.cells (g:=g) rfl (o+j) v (I j v K)
 rwa [add_plain,Nat.zero_add] at this
class SeesEng (l:List HP) (e:outParam Nat) (p:outParam EA) (S:outParam FK.En):Prop where
 star:∀{E:Env} {w:World},Holds E w l->∃F,Star w (j0 e p S) F
instance SeesEng.has {e:Nat} {p:EA} {S:FK.En} {l r:List HP} [h:HasEng l e p S r]:SeesEng l e p S:=⟨λhw=>by
 obtain⟨F1,_,_,_,_,hp,_⟩:=(hw.sel h.sel).star;exact⟨F1,hp⟩⟩
instance (priority:=low) SeesEng.head {n e:Nat} {p:EA} {S:FK.En} {l:List HP}:SeesEng (SL.under n (aG e p S)::l) e p S:=⟨λhw=>by
 obtain⟨F1,_,_,_,_,hp,_⟩:=hw.star;exact⟨_,hp⟩⟩
instance (priority:=low) SeesEng.tail {e:Nat} {p:EA} {S:FK.En} {l:List HP} {x:HP} [h:SeesEng l e p S]:SeesEng (x::l) e p S:=⟨λhw=>h.star (hw.ent Ent.drop)⟩
section
variable {E:Env} {l:List HP} {e:Nat} {p:EA} {S:FK.En} [H:SeesEng l e p S]
section
variable {R:FK.Rn} {id k:Nat} {w:World} {nd:FK.Node} {v:Value} {s:FK.Sp}
include H
theorem m5 (hw:Holds E w l):∃F,Star w (j0 e p S) F:=H.star hw
theorem oa (hw:Holds E w l):ep S:=by
 obtain⟨F,h⟩:=m5 (H:=H) hw;have:=Star.mem (p:=HP.pure (ep S)) h cP;exact this
theorem bc {i:Nat} (I:∀rv f n,(vH (ja S p) rv f n)[i]?=some v):∀w,Holds E w l->cR ⟨e,i,none⟩ v w:=λw hw=>by
 obtain⟨F,h⟩:=m5 (H:=H) hw;obtain⟨⟨rv,N,f,rg⟩,K⟩:=Star.mem (p:=dV e (ja S p) S.Lx) h cP;have O:(oC e (ja S p) rv f S.Lx.length).sat w F:=Star.mem (l:=[HP.pure (FK.RingOk N f S.Lx rg),oC e (ja S p) rv f S.Lx.length,row 157 3 rv N (rV N rg)]) K cP;have:=O.2;simp only[cR,World.cell?,this];exact I _ _ _
theorem eH:∀w,Holds E w l->j7 aV p.rm (eV S p) w:=λw hw=>by
 obtain⟨F,h⟩:=m5 (H:=H) hw;exact(Star.mem (p:=cA aV p.rm (eV S p)) h cP).2
theorem Ey {S0:FK.En} (h:S.runs=S0.runs):∀w,Holds E w l->j7 aV p.rm (eV S0 p) w:=λw hw=>by
 have:=eH (H:=H) w hw;unfold eV at this;rw[h] at this;exact this
theorem nN:∀w,Holds E w l->j7 aV p.tm (dH S) w:=λw hw=>by
 obtain⟨F,h⟩:=m5 (H:=H) hw;exact(Star.mem (p:=cA aV p.tm (dH S)) h cP).2
theorem lC (I:S.getR id=some R) (hw:Holds E w l):∃F,Star w (oz (p.fb id) (p.ra id) R) F:=by
 obtain⟨F,h⟩:=m5 (H:=H) hw;have K:Star w (iw p S.runs) F:=Star.mem (p:=fw p S.runs) h cP;have O:(kV (p.fb id) (p.ra id) R).sat w F:=Star.mem (l:=iw p S.runs) K (List.mem_map.2 ⟨(id,R),oZ I,rfl⟩);exact⟨F,O⟩
theorem Fy (I:S.getR id=some R) (hw:Holds E w l):(p.ra id).vs.length=R.fl.Lw.length:=by
 obtain⟨F,h⟩:=lC (H:=H) I hw;have:=Star.mem (p:=HP.pure ((p.ra id).vs.length=R.fl.Lw.length)) h cP;exact this
theorem cz {i:Nat} (I:S.getR id=some R) (K:(xj (p.ra id) R)[i]?=some v):∀w,Holds E w l->cR ⟨p.fb id,i,none⟩ v w:=λw hw=>by
 obtain⟨F,h⟩:=lC (H:=H) I hw;have O:(zP (p.fb id) (p.ra id) R).sat w F:=Star.mem h cP;have:=O.2;simp only[cR,World.cell?,this];exact K
theorem rY (I:S.getR id=some R) (K:R.Lv[k]?=some s):∀w,Holds E w l->jb (p.ra id).gs (0+k*3) (n7 s) w:=λw hw=>by
 obtain⟨F,h⟩:=lC (H:=H) I hw;exact zU (Star.mem (p:=row 150 3 ((p.ra id).sv R) R.Lv.length (oy R.Lv)) h cP) (λj u O=>vN K j u O)
theorem gI {j:Nat} (I:S.getR id=some R) (K:R.Lv[k]?=some s) (O:(n7 s)[j]?=some v):∀w,Holds E w l->cR ⟨(p.ra id).gs,0+k*3+j,none⟩ v w:=λw hw=>by
 have:=rY (H:=H) I K w hw j v O;exact this
theorem fG {u:Value} (K:S.getR id=some R) (T:R.fl.Lw[k]?=some nd) (Y:(p.ra id).vs[k]?=some u):∀w,Holds E w l->jb (p.ra id).gn (0+k*7) (aP nd u) w:=λw hw=>by
 obtain⟨F,h⟩:=lC (H:=H) K hw;exact zU (Star.mem (p:=row 58 7 ((p.ra id).nv R) R.fl.Lw.length (bU R.fl.Lw (p.ra id).vs)) h cP) (λj v O=>by
  have I:j<7:=by have:=(gfGet.1 O).1;simpa[aP] using this
  rw[Nat.zero_add,jD _ _ _ _ _ _ (Fy (H:=H) K hw) T Y I];exact O)
theorem m7 (Y:S.getR id=some R) (hn:R.fl.Lw[k]?=some nd) (hw:Holds E w l):∃A c,(p.ra id).vs[k]?=some (.slice A nd.after.length c)/\(A=none->nd.after.length=0/\c=0)/\(∀O,A=some O->∃g,O=⟨g,0,none⟩)/\nd.after.length<=c/\c<=maxLen:=by
 have hv:=Fy (H:=H) Y hw;have hk:=(gfGet.1 hn).1;obtain⟨u,T⟩:∃u,(p.ra id).vs[k]?=some u:=⟨(p.ra id).vs[k]'ai,by simp[hv,hk]⟩;obtain⟨F,h⟩:=lC (H:=H) Y hw;have h1:=Star.mem (p:=ey (p.ra id).vs R.fl.Lw) h cP;have hz:((p.ra id).vs.zip R.fl.Lw)[k]?=some (u,nd):=by simp[List.getElem?_zip_eq_some,hn,T]
 have h2:(aU u nd.after).sat w F:=Star.mem (l:=ck (p.ra id).vs R.fl.Lw) h1 (List.mem_map.2 ⟨(u,nd),du hz,rfl⟩);obtain⟨d6,K⟩:=h2.1;rcases K with⟨rfl,h0⟩|⟨g,cap,d7,rfl,_,hg,hm,hc,hs,ht⟩
 · exact⟨none,0,by rw[T,h0],λ_=>⟨h0,rfl⟩,λ_ I=>(by cases I),ai,Nat.zero_le _⟩
 · exact⟨_,cap,T,λI=>(by cases I),λO I=>(by injection I with I;exact⟨g,I.symm⟩),hm,hc⟩
theorem yl {j g c:Nat} {x:Int} (I:S.getR id=some R) (K:R.fl.Lw[k]?=some nd) (O:(p.ra id).vs[k]?=some (.slice (some ⟨g,0,none⟩) nd.after.length c)) (T:nd.after[j]?=some x):∀w,Holds E w l->cR ⟨g,0+j*1,none⟩ (.int .i64 x) w:=λw hw=>by
 obtain⟨F,h⟩:=lC (H:=H) I hw;have Y:=Star.mem (p:=ey (p.ra id).vs R.fl.Lw) h cP;have hz:((p.ra id).vs.zip R.fl.Lw)[k]?=some (.slice (some ⟨g,0,none⟩) nd.after.length c,nd):=by simp[List.getElem?_zip_eq_some,K,O]
 have h2:(aU (.slice (some ⟨g,0,none⟩) nd.after.length c) nd.after).sat w F:=Star.mem (l:=ck (p.ra id).vs R.fl.Lw) Y (List.mem_map.2 ⟨_,du hz,rfl⟩);have h3:=zU (o:=0) (vs:=bx nd.after) h2 (λj u hj=>by rwa [Nat.zero_add]);have h4:=h3 j (.int .i64 x) (by simp[bx,T])
 rwa [Nat.mul_one]
end
end
end Go.Y

namespace Go.SL
open Go.RowKit
section
variable {P:Program} {E:Env} {n:Nat} {D:List Deferred} {ts:List (Nat×Value)} {l:List HP} {ops:Array Oper} {Q:Exit->Act->World->Prop} {fuel:Nat} {listed:Array Bool} {S:List (Nat×(World->Prop))}
theorem eY {ts':List (Nat×Value)} {K:Act->World->Prop} (e:ts=ts') (h:At E n D ts' l K):At E n D ts l K:=e▸h
theorem tG (j:Nat) {o:Oper} {i t:Nat} {b:Bool} (hi:ops[j]?=some o) (T:o.guard=some (i,b)) (Y:(ops[i]?).bind (·.dst)=some t) (hv:look t ts=some (.bool b)) (I:Region.ready .any ops listed=[j])
 (h:At E n D ts l (λa w=>o.wp P a w (λa' w'=>(∀p∈S,gE ops j p.1=false->p.2 w')/\fT P ops (bD Q) fuel (listed.setIfInBounds j true) (S.filter λp=>!gE ops j p.1) a' w') (bD Q))) :
 At E n D ts l (fe P ops (bD Q) (fuel+1) listed S):=λa w f hw _=>by
 refine⟨λh0=>(by rw[h0] at I;cases I),?_⟩;rw[I];intro k O;simp at O;subst O;unfold wpOp;have K:Region.wanted o (yielded ops a.tmps)=true:=by simp[Region.wanted,T,yielded,Y,f.get t _ hv]
 simp only[hi,K,if_true];exact .inl (h a w f hw)
end
end Go.SL
namespace Go.Y
open Go.Proofs Go.RowKit Go.SL
variable {G:Env->Prop}
abbrev dz (t:FR.Tmd):List Value:=[.int .u64 t.run,.int .i64 t.node,.int .u64 t.due]
abbrev zTmr:Value:=.agg #[.int .u64 0,.int .i64 0,.int .u64 0]
theorem Jt:fV Tryz.prog 54 zTmr 3 24:=by unfold fV;kernel_rfl
theorem Hr (x:Operand) (vs:List Value) (h:vs.length=3):Instr.fill (λi=>some (i*3,3)) (Array.map (λx=>zTmr.cells[x%zTmr.cells.size]!) (Array.range (1*3))) ((List.map (λx=>x.fst) [((0:Nat),x)]).zip [.agg vs.toArray])=some vs.toArray:=by
 have e1:Array.range (1*3)=#[0,1,2]:=rfl;rw[e1]
 match vs,h with
 | [v0,v1,v2],_=>simp[Instr.fill,Value.cells]
theorem Ep {α:Type} {f:α->List Value} (I:∀x,(f x).length=3) {l:List α} {i:Nat} (hi:i<l.length) (s:α):ky (l.flatMap f) (0+i*3) (f s)=(l.set i s).flatMap f:=by
 refine pW I (by rw[gp,fD I,List.length_set]) λk x j u K O=>?_;have T:j<3:=by have:=(gfGet.1 O).1;rw[I] at this;exact this
 by_cases h:k=i
 · subst h
   rw[List.getElem?_set_self hi] at K;injection K with K;subst K;rw[show k*3+j=(0+k*3)+j by omega];exact nt (f s) (l.flatMap f) (0+k*3) j u (by rw[fD I,I];omega) O
 · rw[List.getElem?_set_ne (Ne.symm h)] at K
   rw[jg _ _ _ _ (by rw[I];omega)];exact gW I j K O
theorem tm_at {l:List FR.Tmd} {i:Nat} {x:FR.Tmd} (h:l[i]?=some x) (j:Nat) (u:Value) (I:(dz x)[j]?=some u):(l.flatMap dz)[0+i*3+j]?=some u:=by
 rw[Nat.zero_add];exact gW (k:=3) (λ_=>rfl) j h I
theorem mT {l:List FR.Tmd} {i:Nat} (hi:i<l.length) (x:FR.Tmd):ky (l.flatMap dz) (0+i*3) (dz x)=(l.set i x).flatMap dz:=Ep (λ_=>rfl) hi x
theorem kY {x:FR.Tmd}:∀u∈dz x,u.oneCell'=true:=λv I=>by
 simp only[List.mem_cons,List.not_mem_nil,or_false] at I;rcases I with rfl|rfl|rfl<;>rfl
end Go.Y

namespace Go.Y
open Go.Proofs Go.RowKit Go.SL
variable {G:Env->Prop}
theorem sj (a:Nat):dZ G 132 [aV a] [] λv m=>v=.bool false/\m=[]:=by
 refine bz Tryz.func132 Z λE fr I=>?_;exact aB<|sS<|sB Z<|bg Z<|cG Z (dq (r:=false) Z Z cP)<|sB Z<|an<|aw [] rfl Z ⟨rfl,rfl⟩ aN
def Iu (a b:Nat):Int:=if a<b then -1 else if b<a then 1 else 0
theorem IR {a b:Nat}:Iu a b<0<->a<b:=by unfold Iu;split<;>(try split)<;>omega
theorem w7 (a b:Nat):dZ G 80 [aV a,aV b] [] λv m=>v=.int .i64 (Iu a b)/\m=[]:=by
 refine bz Tryz.func80 Z λE fr O=>aB<|sS<|sB Z<|bg Z ?_
 refine bV Z (sj a) aN ?_;refine aB<|sB Z<|bg Z ?_
 refine bV Z (sj b) aN ?_;refine aB<|sB Z<|sQ<|bg Z<|sN<|ak Z<|ah<|sT<|sQ<|bg Z<|sN<|ak Z ?_
 refine ah<|sT<|sQ<|bg Z<|cG Z (bB Z Z Z)<|sN ?_
 refine aA Z (λI=>?_) λI=>?_
 ·
  have h:a<b:=ai;refine sS<|sB Z<|an<|aH ?_
  exact aw [] rfl Z ⟨by unfold Iu;rw[if_pos h],rfl⟩ aN
 ·
  refine ah<|sT<|sQ<|bg Z<|cG Z (eS Z Z Z)<|sN ?_
  refine aA Z (λK=>?_) λK=>?_
  ·
   have h:b<a:=ai;refine sS<|sB Z<|an<|aH ?_
   exact aw [] rfl Z ⟨by unfold Iu;rw[if_neg ai,if_pos h],rfl⟩ aN
  ·
   refine ah<|sT<|sS<|sB Z<|an ?_
   exact aw [] rfl Z ⟨by unfold Iu;rw[if_neg ai,if_neg ai],rfl⟩ aN
theorem EH (x y:FR.Tmd):dZ G 79 [.agg (dz x).toArray,.agg (dz y).toArray] [] λv m=>v=.int .i64 (Iu x.due y.due)/\m=[]:=by
 refine bz Tryz.func79 Z λE fr I=>aB<|sS<|sO (cL Z Z λb2=>(sO (cL Z Z λb3=>(sB Z (sS (bX 2 Z (cE (aF (v:=aV x.due) Z) (ag Z) (bX 2 Z (cE (aF (v:=aV y.due) Z) (ag Z) ?_)))))))))
 refine bV Z (w7 x.due y.due) aN ?_;exact aB<|sB Z<|an<|aw [] rfl Z ⟨rfl,rfl⟩<|Ent.drop.trans Ent.drop
abbrev lX:Value:=.func (.func 79) #[] #[]
abbrev sV (g c n:Nat):Value:=.slice (some ⟨g,0,none⟩) n c
abbrev gQ (g c n:Nat) (l:List FR.Tmd):HP:=row 54 3 (sV g c n) n (l.flatMap dz)
theorem iz {E:Env} {g c n i:Nat} {l:List FR.Tmd} {L r:List HP} {x:FR.Tmd} (s:Sel (gQ g c n l) L r) (h:l[i]?=some x):∀w,Holds E w L->jb g (0+i*3) (dz x) w:=mO s (tm_at h)
theorem pG {g c n a b k:Nat} {P A M B Q:List FR.Tmd} (hP:P.length=a) (K:A.length=k) (O:B.length=k) (hM:a+k+M.length=b) (hn:(P++(A++(M++(B++Q)))).length=n) (hb:n<=100000) :
 dZ G 212 [sV g c n,.int .i64 a,.int .i64 b,.int .i64 k,lX] [gQ g c n (P++(A++(M++(B++Q))))] λv m=>v=.tuple #[]/\m=[gQ g c n (P++(B++(M++(A++Q))))]:=by
 have hl:=hn;simp only[List.length_append] at hl;refine bz Tryz.func212 Z λE fr hE=>ae<|sS<|sB Z<|aj ?_
 refine aL (X:=Nat) (λi=>[(10,.int .i64 i),(0,sV g c n),(1,.int .i64 a),(2,.int .i64 b),(3,.int .i64 k)]) (λi=>gQ g c n (FR.gx P A M B Q i)::fr) (λi=>i<=k) (λi=>k-i) 0 (Nat.zero_le _) cf (by rw[FR.wD];exact aN) ?_;intro i hi;replace hi:i<=k:=hi;refine sQ<|bg Z<|cG Z (bB Z Z Z)<|sN ?_
 refine aA Z (λT=>?_) λT=>?_
 ·
  have I:i<k:=ai;obtain⟨x,hx⟩:∃x,A[i]?=some x:=⟨A[i],by simp[K,I]⟩;obtain⟨y,hy⟩:∃y,B[i]?=some y:=⟨B[i],by simp[O,I]⟩;obtain⟨h1,h2,h3⟩:=FR.wE (P:=P) (M:=M) (Q:=Q) (p:=a+i) (q:=b+i) (K.trans O.symm) hx hy ai ai;have d6:=(FR.yx (P:=P) (M:=M) (Q:=Q) (i:=i) ai (K.trans O.symm)).trans hn;refine ah<|sT<|sQ<|aj<|sZ Z<|eI Z Z<|cJ Z Z<|cJ Z Z<|bF Z (aT (r:=((a+i:Nat):Int)) Z Z eg)<|cJ Z Z<|cJ Z Z<|cJ Z Z<|bF Z (aT (r:=((b+i:Nat):Int)) Z Z eg)<|cJ Z Z<|cJ Z Z<|cJ Z Z<|bF Z (aT (r:=((b+i:Nat):Int)) Z Z eg)<|bF Z (bp (z:=3) Z Z Z Z ai)<|bZ Z (bR (vs:=dz y) Z) (iz .head h2)<|cJ Z Z ?_
  refine dr 15 Z (bn Z)<|cJ Z Z<|bF Z (aT (r:=((a+i:Nat):Int)) Z Z eg)<|bF Z (bp (z:=3) Z Z Z Z ai)<|bZ Z (bR (vs:=dz x) Z) (iz .head h1)<|bF Z (bp (z:=3) Z Z Z Z ai) ?_
  refine cK 21 Z<|eU .head (k:=3) Z Z Z Z kY ai ?_
  rw[mT ai];refine dK [false,false] ab<|dr 22 Z (bp (z:=3) Z Z Z Z ai) ?_
  refine cK 23 Z<|eU .head (k:=3) Z Z Z Z kY ai ?_
  rw[mT (by rw[List.length_set];omega),h3];refine dK [] ab<|dE<|am<|sT<|sG<|cG Z (aT (r:=((i+1:Nat):Int)) Z Z eg)<|sA Z<|aq ?_
  exact aC (i+1) I ai cf aN
 ·
  have Y:i=k:=ai;subst Y;refine aK<|av<|au<|ao ?_
  exact de [_] rfl ⟨rfl,rfl⟩ (by rw[<-K,FR.yy (K.trans O.symm)];exact aN)
theorem yE {g c n a m b:Nat} {l fin:List FR.Tmd} (hr:FR.Rot l m (m-a) (b-m) fin) (h1:a<m) (h2:m<b) (hn:l.length=n) (hb:n<=100000) :
 dZ G 190 [sV g c n,.int .i64 a,.int .i64 m,.int .i64 b,lX] [gQ g c n l] λv k=>v=.tuple #[]/\k=[gQ g c n fin]:=by
 have d9:=hr.len;refine bz Tryz.func190 Z λE fr hE=>ae<|bg Z<|cG Z (cH (r:=((m-a:Nat):Int)) Z Z eg)<|sB Z<|bg Z<|cG Z (cH (r:=((b-m:Nat):Int)) Z Z eg)<|sB Z<|sQ<|aj ?_
 refine aL (X:=Nat×Nat×List FR.Tmd) (λx=>[(11,.int .i64 x.2.1),(10,.int .i64 x.1),(0,sV g c n),(2,.int .i64 m),(4,lX)]) (λx=>gQ g c n x.2.2::fr) (λx=>0<x.1/\0<x.2.1/\x.1<=m/\x.2.2.length=n/\FR.Rot x.2.2 m x.1 x.2.1 fin) (λx=>x.1+x.2.1) (m-a,b-m,l) ⟨Nat.sub_pos_of_lt h1,Nat.sub_pos_of_lt h2,Nat.sub_le _ _,hn,hr⟩ cf aN ?_;rintro⟨i,j,W⟩ ⟨hi,hj,I,K,Y⟩;replace hi:0<i:=hi;replace hj:0<j:=hj;replace I:i<=m:=I;replace K:W.length=n:=K;replace Y:FR.Rot W m i j fin:=Y;have f7:=Y.len;refine eY (ts':=[(11,.int .i64 j),(10,.int .i64 i),(0,sV g c n),(2,.int .i64 m),(4,lX)]) Z<|al (l':=gQ g c n W::fr) aN ?_
 refine sQ<|bg Z<|cG Z (dq Z Z Z)<|sN ?_
 refine aA Z (λd6=>?_) λd6=>?_
 ·
  have f8:i≠j:=ai;refine ah<|sT<|aj<|bg Z<|cG Z (eS Z Z Z)<|sN ?_
  refine aA Z (λd7=>?_) λd7=>?_
  ·
   have O:j<i:=ai;obtain⟨P,A,M,B,Q,e1,e2,e3,e4,e5,e6⟩:=Y.right O;subst e1;have T:(P++(B++(M++(A++Q)))).length=n:=by rw[<-K];simp only[List.length_append];omega
   refine bg Z<|sM Z<|cG Z (cH (r:=((P.length:Nat):Int)) Z Z eg)<|sM Z<|sM Z<|sM Z ?_
   refine bV Z (pG (P:=P) (A:=A) (M:=M) (B:=B) (Q:=Q) Z e3 e4 ai K hb) aN ?_;refine ae<|sN<|sG<|sM Z<|cG Z (cH (r:=((i-j:Nat):Int)) Z Z eg)<|sA Z<|aq<|am ?_
   exact aC (i-j,j,P++(B++(M++(A++Q)))) ⟨ai,hj,ai,T,e6⟩ (by show i-j+j<i+j;omega) cf aN
  ·
   have O:i<j:=ai;obtain⟨P,A,M,B,Q,e1,e2,e3,e4,e5,e6⟩:=Y.left O;subst e1;have T:(P++(B++(M++(A++Q)))).length=n:=by rw[<-K];simp only[List.length_append];omega
   refine bg Z<|sM Z<|cG Z (cH (r:=((P.length:Nat):Int)) Z Z eg)<|sM Z<|cG Z (aT (r:=((m+j:Nat):Int)) Z Z eg)<|cG Z (cH (r:=((m+j-i:Nat):Int)) Z Z eg)<|sM Z<|sM Z ?_
   refine bV Z (pG (P:=P) (A:=A) (M:=M) (B:=B) (Q:=Q) Z e3 e4 ai K hb) aN ?_;refine ae<|sN<|sG<|sM Z<|cG Z (cH (r:=((j-i:Nat):Int)) Z Z eg)<|sA Z<|aq<|am ?_
   exact aC (i,j-i,P++(B++(M++(A++Q)))) ⟨hi,by show 0<j-i;omega,I,T,e6⟩ (by show i+(j-i)<i+j;omega) cf aN
 ·
  have d8:i=j:=ai;subst d8;obtain⟨P,A,B,Q,e1,e2,e3,e4,e5⟩:=Y.same;subst e1;refine aK<|av<|au<|ao<|sT<|sG<|sM Z<|sM Z<|cG Z (cH (r:=((P.length:Nat):Int)) Z Z eg)<|sM Z<|sM Z<|sM Z ?_
  refine bV Z (pG (P:=P) (A:=A) (M:=[]) (B:=B) (Q:=Q) Z e3 e4 (by simp;omega) K hb) aN ?_;refine ae<|aq ?_
  exact de [_] rfl ⟨rfl,rfl⟩ (by rw[e5];exact aN)
end Go.Y

namespace Go.Y
open Go.Proofs Go.RowKit Go.SL
variable {G:Env->Prop}
theorem B4 (i n:Nat) (h:i<=n) (K:n<=100000):((IntKind.u64.wrap ((i+n:Nat):Int))).fdiv (2 ^ min ((1:Int)).toNat IntKind.u64.bits)=(((i+n)/2:Nat):Int):=by
 rw[mM];have E:((i+n:Nat):Int)%18446744073709551616=((i+n:Nat):Int):=ai;have I:(2:Int) ^ min ((1:Int)).toNat IntKind.u64.bits=2:=rfl;rw[E,I,Int.fdiv_eq_ediv_of_nonneg _ ai];omega
theorem nR (x y:FR.Tmd):Does Tryz.prog G 79 (#[]++[.agg (dz x).toArray,.agg (dz y).toArray].toArray++#[]) [] λv m=>v=.int .i64 (Iu x.due y.due)/\m=[]:=by
 have:=EH (G:=G) x y;simpa using this
theorem ru {a b:Nat}:decide (Iu a b<0)=decide (a<b):=decide_eq_decide.2 IR
theorem qx {g c n a b:Nat} {P X Q:List FR.Tmd} (hP:P.length=a) (hX:a+X.length=b) (hn:(P++(X++Q)).length=n) (hb:n<=100000) (hs:X.Pairwise λx y=>x.seq<y.seq) :
 dZ G 157 [sV g c n,.int .i64 a,.int .i64 b,lX] [gQ g c n (P++(X++Q))] λv m=>v=.tuple #[]/\∃Y,FR.Srt X Y/\m=[gQ g c n (P++(Y++Q))]:=by
 have hl:=hn;simp only[List.length_append] at hl;refine bz Tryz.func157 Z λE fr hE=>ae<|bg Z<|sP (aT (r:=((a+1:Nat):Int)) Z Z eg)<|sB Z<|aj ?_
 refine aL (X:=Nat×List FR.Tmd) (λx=>[(8,.int .i64 (a+x.1:Nat)),(0,sV g c n),(1,.int .i64 a),(2,.int .i64 b),(3,lX)]) (λx=>gQ g c n x.2::fr) (λx=>(x.1<=X.length\/x.1=1)/\x.2.length=n/\FR.InsI P X Q x.1 x.2) (λx=>X.length-x.1) (1,P++(X++Q)) ⟨.inr Z,hn,FR.InsI.first P X Q⟩ cf aN ?_;rintro⟨k,W⟩ ⟨hk,I,hI⟩;replace hk:k<=X.length\/k=1:=hk;replace I:W.length=n:=I;replace hI:FR.InsI P X Q k W:=hI;refine eY (ts':=[(8,.int .i64 (a+k:Nat)),(0,sV g c n),(1,.int .i64 a),(2,.int .i64 b),(3,lX)]) Z<|al (l':=gQ g c n W::fr) aN ?_
 refine sQ<|bg Z<|cG Z (bB Z Z Z)<|sN ?_
 refine aA Z (λd6=>?_) λd6=>?_
 ·
  have O:k<X.length:=ai;obtain⟨x,hx⟩:∃x,X[k]?=some x:=⟨X[k],by simp[O]⟩;refine ah<|sT<|sQ<|aj<|bg Z<|sB Z<|aj ?_
  refine aL (X:=Nat×List FR.Tmd) (λx=>[(9,.int .i64 x.1),(8,.int .i64 (a+k:Nat)),(0,sV g c n),(1,.int .i64 a),(2,.int .i64 b),(3,lX)]) (λx=>gQ g c n x.2::fr) (λy=>y.2.length=n/\FR.InsJ P X Q k y.1 x y.2) (λx=>x.1) (a+k,W) ⟨I,hP▸hI.start hx⟩ cf aN ?_;rintro⟨j,W⟩ ⟨I,T⟩;replace I:W.length=n:=I;replace T:FR.InsJ P X Q k j x W:=T;refine eY (ts':=[(9,.int .i64 j),(8,.int .i64 (a+k:Nat)),(0,sV g c n),(1,.int .i64 a),(2,.int .i64 b),(3,lX)]) Z<|al (l':=gQ g c n W::fr) aN ?_
  obtain⟨g1,g2⟩:=T.at
  have d7:=(T.len hx).2;refine sQ<|sQ ?_
  by_cases hA:a<j
  ·
   obtain⟨z,g3,g4,g5⟩:=g2 ai;refine sZ Z<|eI Z Z<|cJ Z Z<|bF Z (nu Z Z ai)<|cJ Z Z<|em 4 Z (bn Z)<|em 5 Z (bn Z)<|em 6 Z (bn Z)<|em 7 Z (bp (z:=3) Z Z Z Z ai)<|kU 8 Z (bR (vs:=dz x) Z) (iz .head g1)<|em 9 Z (bn Z)<|em 10 Z (bn Z)<|em 11 Z (cH (r:=((j-1:Nat):Int)) Z Z eg)<|em 12 Z (bp (z:=3) Z Z Z Z ai)<|kU 13 Z (bR (vs:=dz z) Z) (iz .head g3) ?_
   refine tG 14 Z Z Z Z eP<|ct Z Z Z Z hE (nR x z) aN ?_
   rintro v m ⟨rfl,rfl⟩;refine aB<|dK [false,false] ab<|em 15 Z (bB (r:=decide (x.due<z.due)) Z Z ru)<|bF Z (aS Z Z Z)<|dE<|sT ?_
   refine aA Z (λK=>?_) λK=>?_
   ·
    refine ah<|sT<|sQ<|aj<|sZ Z<|eI Z Z<|cJ Z Z<|cJ Z Z<|cJ Z Z<|bF Z (cH (r:=((j-1:Nat):Int)) Z Z eg)<|cJ Z Z<|cJ Z Z<|bF Z (cH (r:=((j-1:Nat):Int)) Z Z eg)<|bF Z (bp (z:=3) Z Z Z Z ai)<|bZ Z (bR (vs:=dz z) Z) (iz .head g3)<|cJ Z Z<|cJ Z Z<|bF Z (bp (z:=3) Z Z Z Z ai)<|bZ Z (bR (vs:=dz x) Z) (iz .head g1)<|bF Z (bp (z:=3) Z Z Z Z ai) ?_
    refine cK 15 Z<|eU .head (k:=3) Z Z Z Z kY ai ?_
    rw[mT ai];refine dK [false,false] ab<|dr 16 Z (bp (z:=3) Z Z Z Z ai) ?_
    refine cK 17 Z<|eU .head (k:=3) Z Z Z Z kY ai ?_
    rw[mT (by rw[List.length_set];omega)];refine dK [] ab<|dE<|am<|sT<|sG<|cG Z (cH (r:=((j-1:Nat):Int)) Z Z eg)<|sA Z<|aq ?_
    exact aC (j-1,(W.set j z).set (j-1) x) ⟨by simp[I],g5 K⟩ (by show j-1<j;omega) cf aN
   ·
    refine aK<|av<|au<|ao<|am<|sT<|sG<|cG Z (aT (r:=((a+(k+1):Nat):Int)) Z Z eg)<|sA Z<|aq ?_
    exact aC (k+1,W) ⟨.inl O,I,T.fin hx hs λ_ z' e=>by rw[g3] at e;injection e with e;subst e;exact K⟩ (by show X.length-(k+1)<X.length-k;omega) cf aN
  ·
   refine sZ Z<|eI Z Z<|cJ Z Z<|bF Z (nw Z Z ai)<|cJ Z Z<|eQ 4 Z Z<|eQ 5 Z Z<|eQ 6 Z Z<|eQ 7 Z Z<|eQ 8 Z Z<|eQ 9 Z Z<|eQ 10 Z Z<|eQ 11 Z Z<|eQ 12 Z Z<|eQ 13 Z Z<|eQ 14 Z Z<|eQ 15 Z Z<|bF Z (aS Z Z Z)<|dE<|sT ?_
   refine ak Z<|aK<|av<|au<|ao<|am<|sT<|sG<|cG Z (aT (r:=((a+(k+1):Nat):Int)) Z Z eg)<|sA Z<|aq ?_
   exact aC (k+1,W) ⟨.inl O,I,T.fin hx hs λh=>by omega⟩ (by show X.length-(k+1)<X.length-k;omega) cf aN
 ·
  obtain⟨Y,e,s⟩:=hI.fin ai;refine aK<|av<|au<|ao ?_
  exact de [_] rfl ⟨rfl,Y,s,rfl⟩ (by rw[e];exact aN)
def Fh (G:Env->Prop) (N:Nat):Prop:=∀{g c n a m b:Nat} {P L R Q l:List FR.Tmd},b-a<=N->FR.Mrg P L R Q l a m b->a<m->m<b->l.length=n->n<=100000->
 dZ G 158 [sV g c n,.int .i64 a,.int .i64 m,.int .i64 b,lX] [gQ g c n l] λv k=>v=.tuple #[]/\∃Y,FR.Srt (L++R) Y/\k=[gQ g c n (P++(Y++Q))]
theorem Lq {P A Q:List FR.Tmd} {x y:FR.Tmd} {j p:Nat} (E:A[j]?=some y) (T:P.length+j=p) :
 (P++(A.take j++x::(A.drop j++Q)))[p]?=some x/\(P++(A.take j++x::(A.drop j++Q)))[p+1]?=some y/\((P++(A.take j++x::(A.drop j++Q))).set p y).set (p+1) x=P++(A.take (j+1)++x::(A.drop (j+1)++Q)):=by
 obtain⟨I,e1⟩:=gfGet.1 E;have K:A.drop j=y::A.drop (j+1):=by rw[List.drop_eq_getElem_cons I,e1]
 have O:A.take (j+1)=A.take j++[y]:=by rw[List.take_add_one,E];rfl
 have k:=FR.vK (U:=P++A.take j) (V:=[]) (W:=A.drop (j+1)++Q) (x:=x) (y:=y) (p:=p) (q:=p+1) (by rw[List.length_append,List.length_take];omega) rfl;rw[K,O];simpa using k
theorem Ig {P B Q:List FR.Tmd} {x y:FR.Tmd} {j p q:Nat} (E:B[j]?=some y) (Y:P.length+j=p) (I:q=p+1) :
 (P++(B.take (j+1)++x::(B.drop (j+1)++Q)))[p]?=some y/\(P++(B.take (j+1)++x::(B.drop (j+1)++Q)))[q]?=some x/\((P++(B.take (j+1)++x::(B.drop (j+1)++Q))).set q y).set p x=P++(B.take j++x::(B.drop j++Q)):=by
 subst I;obtain⟨K,e1⟩:=gfGet.1 E;have O:B.drop j=y::B.drop (j+1):=by rw[List.drop_eq_getElem_cons K,e1]
 have T:B.take (j+1)=B.take j++[y]:=by rw[List.take_add_one,E];rfl
 have k:=FR.vK (U:=P++B.take j) (V:=[]) (W:=B.drop (j+1)++Q) (x:=y) (y:=x) (p:=p) (q:=p+1) (by rw[List.length_append,List.length_take];omega) rfl;rw[O,T,List.set_comm _ _ ai];simpa using k
end Go.Y

namespace Go.SL
open Go.RowKit
abbrev wF (ro:Option Nat):Fence:={Fence.wide with round:=ro}
theorem Holds.putO {E:Env} {w:World} {b:Nat} {o:Obj} {r:List HP} (h:Holds E w (SL.ob b o::r)) (o':Obj):Holds E (w.putObj b o') (SL.ob b o'::r):=
 h.set (w':=w.putObj b o') rfl rfl rfl (by simp[World.putObj]) (World.putObj_heap_same (h.ob .head).2) λ_ hk=>World.putObj_heap_other hk
section
variable {P:Program} {G:Env->Prop} {E:Env} {n:Nat} {D:List Deferred} {ts:List (Nat×Value)} {l:List HP} {ops:Array Oper} {Q:Exit->Act->World->Prop} {rest:List Oper} {ro:Option Nat} {m:Nat}
section
variable {af:Array Edge} {ty:TypeId}
theorem opIn {o:Oper} {a:Act} {w:World} {K:Act->World->Prop} (hd:∀c,o.op≠.defer c) (h:o.wp P a w K Q):o.wpIn (wF ro) m P a w K Q:=by
 refine⟨λ_ _=>trivial,?_⟩;show o.uponIn (wF ro) m P a K Q ((o.semAt ro a.eval).run P w);rw[Oper.semAt_eq _ _ _ hd];unfold Oper.wp at h
 generalize (execOp a.eval o).run P w=r at h ⊢
 match r,h with
 | .ok (.value v) w',h=>exact h
 | .ok .skip w',h=>exact h
 | .ok (.defer d) w',h=>exact h
 | .ok (.enter f args) w',h=>exact⟨λhh=>by simp[Fence.wide] at hh,(callsIn_wide (n:=m-1)).2 h⟩
 | .ok (.row row args) w',h=>exact⟨λhh=>by simp[Fence.wide] at hh,λc cs _=>let⟨v,w1,r,s⟩:=h c cs;⟨v,w1,r,stepsIn_wide.2 s⟩⟩
 | .halt (.panic v) w',h=>exact h
theorem LI.nil (h:At E n D ts l (Q .normal)):At E n D ts l (wpListIn (wF ro) m P ops Q []):=h
theorem LI.op {o:Oper} (hg:o.guard=none) (h:At E n D ts l (λa w=>o.wp P a w (wpListIn (wF ro) m P ops Q rest) Q)) (hd:∀c,o.op≠.defer c:=by intro c h;cases h):At E n D ts l (wpListIn (wF ro) m P ops Q (o::rest)):=λa w f hw=>by
 unfold wpListIn;rw[if_pos (by simp[Region.wanted,hg])];exact opIn hd<|h a w f hw
theorem LI.val {op:Op} {v:Value} {φ:World->Prop} {i:Nat} {pos:String} (hi:Nat.blt i n=true) (hev:Ev P ts op v φ) (hφ:∀w,Holds E w l->φ w) (h:At E n D ((i,v)::ts) l (wpListIn (wF ro) m P ops Q rest)) (hd:∀c,op≠.defer c:=by intro c h;cases h) :
 At E n D ts l (wpListIn (wF ro) m P ops Q (⟨some i,op,ty,pos,af,none⟩::rest)):=LI.op rfl (ko hi hev hφ h) hd
theorem LI.pure {op:Op} {v:Value} {i:Nat} {pos:String} (hi:Nat.blt i n=true) (hev:Ev P ts op v Any) (h:At E n D ((i,v)::ts) l (wpListIn (wF ro) m P ops Q rest)) (hd:∀c,op≠.defer c:=by intro c h;cases h) :
 At E n D ts l (wpListIn (wF ro) m P ops Q (⟨some i,op,ty,pos,af,none⟩::rest)):=LI.val hi hev (λ_ _=>trivial) h hd
theorem AI.region {id:Nat} {os:List Oper} (h:At E n D ts l (wpListIn (wF ro) m P os.toArray Q os)):At E n D ts l ((Code.region id os.toArray false).wpIn (wF ro) m P Q):=λa w f hw=>wpIn_region_lit (h a w f hw)
theorem AI.seq {x y:Code} (h:At E n D ts l (x.wpIn (wF ro) m P (Exit.then (y.wpIn (wF ro) m P Q) Q))):At E n D ts l ((Code.seq x y).wpIn (wF ro) m P Q):=λa w f hw=>wpIn_seq (h a w f hw)
theorem AI.block {id:Nat} {c:Code} (h:At E n D ts l (c.wpIn (wF ro) m P (Exit.inBlock id Q))):At E n D ts l ((Code.block id c).wpIn (wF ro) m P Q):=λa w f hw=>wpIn_block (h a w f hw)
theorem ug {id:Nat} {os:List Oper} (h:At E n D ts l (wpListIn (wF none) 1 P os.toArray Q os)):At E n D ts l ((Code.region id os.toArray false).wp P Q):=λa w f hw=>wpIn_wide.1 (wpIn_region_lit (h a w f hw))
def Yields (P:Program) (lo:Nat) (args:Array Value) (pre post:List HP):Prop:=
 ∀(E:Env) (w:World) (fr:List HP),Holds E w (pre++fr)->YieldAt Fence.wide 0 P lo args w λe w'=>e=.returned (.bool true)/\Holds E w' (post++fr)
theorem LI.yield {i:Nat} {pos:String} {x:Operand} {xs:List Operand} {at_:Array TypeId} {lo:Nat} {args:List Value} {pre post fr:List HP} (hi:Nat.blt i n=true)
 (hv:ev ts x=some (.func (.yield lo) #[] #[])) (hx:evs ts xs=some args) (hs:Yields P lo args.toArray pre post) (hl:Ent l (pre++fr)) (h:At E n D ((i,.bool true)::ts) (post++fr) (wpListIn (wF none) 1 P ops Q rest)) :
 At E n D ts l (wpListIn (wF none) 1 P ops Q (⟨some i,.call {callee:=.value x,args:=xs.toArray,argTypes:=at_},ty,pos,af,none⟩::rest)):=λa w ft hw=>by
 obtain⟨fn,tmps,assign,body,hy,hr⟩:=hs E w fr (hw.ent hl);have he:=eF ft.knows hx;have hrun:(execOp a.eval ⟨some i,.call {callee:=.value x,args:=xs.toArray,argTypes:=at_},ty,pos,af,none⟩).run P w=.ok (.round lo fn tmps assign body) w:=by
  simp[execOp,resolve,invoke,Deferred.ofValue,ft.eval hv,he,hy]
 unfold wpListIn;rw[if_pos (by simp[Region.wanted])];refine⟨λ_ _=>trivial,?_⟩;show Oper.uponIn _ _ _ _ _ _ _ ((Oper.semAt none a.eval _).run P w);rw[Oper.semAt_none,hrun];refine⟨λ_=>cm 1,?_⟩;refine RoundIn.mono (F:=Fence.wide) hr ?_;rintro e w' ⟨rfl,hH⟩;exact h _ w' (ft.put i (Nat.le_of_ble_eq_true hi) _) hH
def Seqs {α:Type} (P:Program) (G:Env->Prop) (f:FuncId) (cap:Array Value) (enc:α->Value) (S:List α->Prop) (N:Nat) (pre:List HP):Prop:=
 ∀(lo:Nat) (J:List α->List HP),(∀done x,done.length<N->Yields P lo #[enc x] (J done) (J (done++[x])))->Does P G f (#[.func (.yield lo) #[] #[]]++cap) (pre++J []) λ_ m=>∃ss,S ss/\m=pre++J ss
def yn (E:Env) (m:List HP):Exit->Act->World->Prop
 | .normal,_,w=>Holds E w m
 | _,_,_=>False
theorem tS {k:List HP} (h:Ent l k):At E n D ts l (yn E k .normal):=λ_ _ _ hw=>hw.ent h
end
abbrev B3 (b:Nat):Deferred:={target:=.collected b,args:=#[]}
abbrev pz (b:Nat):HP:=ob b (.deferred (some []))
section
variable {fr pre r:List HP} {fn:Func} {f:FuncId}
theorem wS {α:Type} {g:Operand} {assign body:Code} {cap:Array Value} {enc:α->Value} {S:List α->Prop} {N:Nat} {i j:Nat} (J:List α->List HP)
 (hg:ev ts g=some (.func (.func f) #[] cap)) (hb:dX P f=true) (hE:G E) (hi:Nat.blt i n=true) (hit:Seqs P G f cap enc S N pre) (he:Ent l (pre++(J []++fr)))
 (hassign:∀(lo:Nat) (E':Env) (L:List HP) (x:α) (K:Act->World->Prop),At E' n [] ((j,enc x)::(i,enc x)::ts) L K->At E' n [] ((i,enc x)::ts) L (assign.wpIn (wF (some lo)) 0 P (Exit.then K λ_ _ _=>False)))
 (hbody:∀(lo:Nat) (E':Env) (fr':List HP) (done:List α) (x:α),done.length<N->At E' n [] ((j,enc x)::(i,enc x)::ts) (J done++fr') (body.wpIn (wF (some lo)) 0 P (yn E' (J (done++[x])++fr'))))
 (hdone:∀(b:Nat) (ss:List α),S ss->At E n (B3 b::D) ts (pz b::(pre++(J ss++fr))) (Q .normal)) :
 At E n D ts l ((Code.rangeFunc g #[i] assign body).wp P Q):=λa w ft hw=>by
 refine(wpIn_wide (n:=1)).1 (wpIn_rangeFunc (F:=Fence.wide) λfn _=>?_);obtain⟨rec,hrec⟩:∃rec:LoopState->Option Code->Loop,rec=λst pe=>{state:=st,pending:=pe,fn,tmps:=a.tmps,params:=#[i],assign,body,defers:=w.heap.size}:=⟨_,rfl⟩;obtain⟨w1,hw1⟩:∃w1,(w.alloc (.deferred (some []))).alloc (.loop (rec .ready none))=w1:=⟨_,rfl⟩;have hH1:Holds E w1 (ob (w.heap.size+1) (.loop (rec .ready none))::pz w.heap.size::l):=by
  rw[<-hw1];have:=(hw.alloc (.deferred (some []))).alloc (.loop (rec .ready none))
  rwa [World.size_alloc] at this
 obtain⟨J',hJ'⟩:∃J':List α->List HP,J'=λdone=>ob (w.heap.size+1) (.loop (rec .ready none))::J done:=⟨_,rfl⟩;have hY:∀done x,done.length<N->Yields P (w.heap.size+1) #[enc x] (J' done) (J' (done++[x])):=λdone x hlt E' W fr' hW=>by
  rw[hJ'] at hW;have hL:=(hW.ob .head).1;refine⟨_,_,_,_,run_yield hL (by rw[hrec];rfl),roundIn_of_wpIn trivial ?_⟩;have hfit:Fits n [] ((i,enc x)::ts) {tmps:=((rec .ready none).params.zip #[enc x]).foldl (λtmps (t,a)=>tmps.setIfInBounds t a) (rec .ready none).tmps,defers:=[]}:=by
   have h0:Fits n [] ts {tmps:=a.tmps,defers:=[]}:=⟨ft.size,rfl,ft.get⟩;have:=h0.put i (Nat.le_of_ble_eq_true hi) (enc x);rw[hrec];simpa[Act.put] using this
  rw[hrec];rw[hrec] at hfit hW hL;refine hassign (w.heap.size+1) E' _ x _ (λa1 W1 f1 hW1=>?_) _ W hfit hW;have hL1:=(hW1.ob .head).1;refine⟨_,run_beginRound hL1 Z,?_⟩;have hW2:Holds E' (W1.putObj (w.heap.size+1) (.loop {(rec .ready none) with state:=.busy})) (ob (w.heap.size+1) (.loop {(rec .ready none) with state:=.busy})::(J done++fr')):=hW1.putO _;rw[hrec] at hW2;have hW3:=hW2.ent (m:=J done++(ob (w.heap.size+1) (.loop {(rec .ready none) with state:=.busy})::fr')) (Ent.perm (by rw[hrec];exact(List.perm_middle (l₁:=J done)).symm));rw[hrec] at hW3;refine wpIn_mono (hbody (w.heap.size+1) E' _ done x hlt a1 _ f1 hW3) λe a2 W3 hq=>?_;cases e with
  | normal=>
   have hq':Holds E' W3 _:=hq;have hq2:=hq'.ent (m:=ob (w.heap.size+1) (.loop {(rec .ready none) with state:=.busy})::(J (done++[x])++fr')) (Ent.perm (by rw[hrec];exact List.perm_middle));have hL3:=(hq2.ob .head).1;refine⟨_,_,run_endRound none hL3,rfl,?_⟩;rw[hJ'];have:=hq2.putO (.loop (rec .ready none));rw[hrec] at this ⊢;exact this
  | _=>exact hq.elim
 refine⟨w.heap.size+1,[B3 w.heap.size],w1,{target:=.fn (.func f) cap,args:=#[.func (.yield (w.heap.size+1)) #[] #[]]},w1,f,#[.func (.yield (w.heap.size+1)) #[] #[]]++cap,w1,?_,?_,λ_ _=>trivial,?_,λ_=>cm 1,?_⟩
 · rw[<-hw1,hrec];exact run_enterLoop_outer _ _ _ _ _
 · simp only[resolve,ft.eval hg]
   simp[go_sem]
 · simp[invoke,go_sem,eA hb]
 · refine callsIn_wide.2 ((hit (w.heap.size+1) J' hY E w1 (pz w.heap.size::fr) hE ?_).mono ?_)
   · refine hH1.ent ?_
     rw[hJ'];refine(Ent.cons (Ent.cons he)).trans (Ent.perm ?_);have h1:(pz w.heap.size::(pre++(J []++fr))).Perm (pre++(J []++(pz w.heap.size::fr))):=by
      rw[<-List.append_assoc,<-List.append_assoc];exact(List.perm_middle (l₁:=pre++J [])).symm
     refine(List.Perm.cons _ h1).trans ?_;show(_::(pre++_)).Perm (pre++(_::J [])++_);rw[List.append_assoc];exact(List.perm_middle (l₁:=pre)).symm
   · rintro e w3 ⟨v,k,rfl,⟨ss,hS,rfl⟩,hH⟩
     rw[hJ'] at hH;have hH2:Holds E w3 (ob (w.heap.size+1) (.loop (rec .ready none))::pz w.heap.size::(pre++(J ss++fr))):=by
      refine hH.ent<|Ent.perm ?_
      show(pre++(_::J ss)++(pz w.heap.size::fr)).Perm _;rw[List.append_assoc];refine(List.perm_middle (l₁:=pre)).trans (List.Perm.cons _ ?_);show(pre++(J ss++(pz w.heap.size::fr))).Perm (pz w.heap.size::(pre++(J ss++fr)));rw[<-List.append_assoc,<-List.append_assoc];exact List.perm_middle (l₁:=pre++J ss)
     have hL3:=(hH2.ob .head).1;refine⟨none,w3.putObj (w.heap.size+1) (.loop {(rec .ready none) with state:=.exhausted}),by have:=run_endLoop (P:=P) hL3 (by rw[hrec];simp);rw[hrec] at this ⊢;exact this,?_⟩;refine hdone w.heap.size ss hS _ _ ⟨ft.size,by show _::a.defers=_;rw[ft.defers],ft.get⟩ ?_;exact(hH2.putO _).ent Ent.drop
def Fk (P:Program) (fn:Func) (E:Env) (fr:List HP) (R:Value->List HP->Prop):Exit->Act->World->Prop:=
 bodyPostM Fence.wide 0 P fn λe w'=>∃v m,e=.returned v/\R v m/\Holds E w' (m++fr)
theorem BU {c:Code} {args:List Value} {R:Value->List HP->Prop} (hf:P.funcs[f]?=some fn) (hb:fn.body=some c) (hn:Nat.ble args.length fn.ntmps=true)
 (h:∀E fr,G E->At E fn.ntmps [] (fH 0 args) (pre++fr) (c.wp P (Fk P fn E fr R))):Does P G f args.toArray pre R:=by
 intro E w fr hE hw;refine callsIn_wide.1<|callsIn_of_wp_marks (n:=0) hf hb trivial (wpIn_wide.2 (h E fr hE _ _ ⟨?_,rfl,?_⟩ hw)) Z
 · have:=Nat.le_of_ble_eq_true hn
   simp;omega
 · intro i v hi
   obtain⟨_,h2⟩:=fJ args 0 i v hi;rw[Nat.sub_zero] at h2;have hlt:i<args.length:=(gfGet.1 h2).1;simp[Array.getElem?_append,hlt,(gfGet.1 h2).2]
theorem yX {a:Act} {w:World} {R:Value->List HP->Prop} {b:Nat} {k:List HP} {v:Value} (f:a.defers=[B3 b]) (hw:Holds E w l) (s:Sel (pz b) l r) (hv:(results fn a.tmps).run P (w.putObj b (.deferred none))=.ok v (w.putObj b (.deferred none))) (hR:R v k) (hm:Ent r (k++fr)):Fk P fn E fr R .ret a w:=by
 show LeavesInM _ _ _ _ _ _ a.defers _ _;rw[f];have hb:=(hw.ob s).1;refine⟨by simp,.inl ⟨_,_,rfl,run_takeDeferred hb,_,hv,v,k,rfl,hR,?_⟩⟩;exact((hw.sel s).putO _).ent (Ent.drop.trans hm)
theorem zf {R:Value->List HP->Prop} {i b:Nat} {v:Value} (k:List HP) (s:Sel (pz b) l r) (hr:fn.results=#[.tmp i]) (hv:look i ts=some v) (hR:R v k) (hm:Ent r (k++fr)):At E n [B3 b] ts l (Fk P fn E fr R .ret):=λ_ _ f hw=>
 yX f.defers hw s (by rw[results_tmp hr,jP (f.get i v hv)]) hR hm
end
end
open Go.RowKit
section
variable {P:Program} {E:Env} {n:Nat} {D:List Deferred} {ts:List (Nat×Value)} {l:List HP} {Q:Exit->Act->World->Prop}
theorem ze {c:Code} (h:At E n D ts l (c.wp P (Exit.noGoto Q))):At E n D ts l ((Code.scope c).wp P Q):=λa w f hw=>wp_scope_straight (h a w f hw)
theorem ui (h:At E n D ts l (Q .normal)):At E n D ts l (Exit.noGoto Q .normal):=h
end
open Go.RowKit
class SelC (p:HP) (l:List HP) (r:outParam (List HP)):Prop where
 sel:Sel p l r
instance SelC.head {p:HP} {l:List HP}:SelC p (p::l) l:=⟨.head⟩
instance (priority:=low) SelC.tail {p q:HP} {l r:List HP} [h:SelC p l r]:SelC p (q::l) (q::r):=⟨.tail h.sel⟩
class EntC (l m:List HP):Prop where
 ent:Ent l m
instance (priority:=high) EntC.refl {l:List HP}:EntC l l:=⟨Ent.refl l⟩
instance EntC.cons {p:HP} {l r m:List HP} [s:SelC p l r] [h:EntC r m]:EntC l (p::m):=⟨(Ent.sel s.sel).trans (Ent.cons h.ent)⟩
instance (priority:=low) EntC.drop {x:HP} {l m:List HP} [h:EntC l m]:EntC (x::l) m:=⟨Ent.drop.trans h.ent⟩
theorem ap {l m:List HP} [h:EntC l m]:Ent l m:=h.ent
class HasVal (v:Value) (l:List HP) (e:outParam TypeId) (size m:outParam Nat) (xs:outParam (List Value)) (r:outParam (List HP)):Prop where
 sel:Sel (row e size v m xs) l r
instance HasVal.head {v:Value} {e:TypeId} {size m:Nat} {xs:List Value} {l:List HP}:HasVal v (row e size v m xs::l) e size m xs l:=⟨.head⟩
instance (priority:=low) HasVal.tail {v:Value} {e:TypeId} {size m:Nat} {xs:List Value} {l r:List HP} {p:HP} [h:HasVal v l e size m xs r]:HasVal v (p::l) e size m xs (p::r):=⟨.tail h.sel⟩
theorem aD {E:Env} {n:Nat} {D:List Deferred} {ts:List (Nat×Value)} {l r:List HP} {K:Act->World->Prop} (b:Nat) {tb:TypeId} {cs:Array Value} (I:Array Value) [H:Has b l (.cells cs tb) r] (h:cs=I) (O:At E n D ts (blk b tb I::r) K):At E n D ts l K:=by
 subst h;exact al (Ent.sel H.sel) O
end Go.SL

namespace Go.Y
open Go.Proofs Go.RowKit Go.SL
def xi (a b:Nat):Int:=if a<b then -1 else if b<a then 1 else 0
theorem Aa (a b:Nat) (w:World):Calls Tryz.prog 130 #[.int .u64 a,.int .u64 b] w λe w'=>e=.returned (.int .i64 (xi a b))/\w'=w:=by
 go_enter Tryz.func130,Tryz.ntmps130
 go_wp2
 all_goals (go_ret;refine⟨?_,rfl⟩;unfold xi;(repeat' split)<;>first|rfl|(exfalso;omega))
theorem wJ (x y a b:Nat) (w:World) (E:w.cell? ⟨x,4,none⟩=some (.int .u64 a)) (I:w.cell? ⟨y,4,none⟩=some (.int .u64 b)):Calls Tryz.prog 129 #[aX x,aX y] w λe w'=>e=.returned (.int .i64 (xi a b))/\∃q,w'=w.drewN q:=by
 go_enter Tryz.func129,Tryz.ntmps129
 go_wp2
 go_quiet (first|(go_at_call 130;refine Calls.quiet_of_same (Aa a b _)))
 all_goals (go_wp2;go_ret;exact⟨rfl,_,rfl⟩)
end Go.Y

namespace Go.Proofs
open Go.Shelf
def ip:Go.Shelf.Ren:=⟨fun|6=>128|15=>156|14=>155|28=>189|29=>171|20=>181|21=>182|22=>183|23=>184|24=>185|25=>186|26=>187|27=>188|46=>207|47=>208|48=>209|49=>210|50=>211|57=>230|n=>n,fun|22=>229|24=>236|25=>240|3=>3|39=>59|0=>0|53=>243|55=>30|4=>4|46=>301|45=>300|50=>288|5=>5|9=>9|66=>322|70=>195|76=>343|77=>344|n=>n,fun|n=>n⟩
theorem mB:Go.Proofs.SlLaysF.n6 Tryz.prog ip:={
 mixed:=by kernel_rfl
 f6:=⟨Tryz.f128.name,by decide,Tryz.func128.trans (congrArg some (by kernel_rfl))⟩
 f14:=⟨Tryz.f155.name,by decide,Tryz.func155.trans (congrArg some (by kernel_rfl))⟩
 f15:=Tryz.func156.trans (congrArg some (by kernel_rfl))
 f20:=⟨Tryz.f181.name,by decide,Tryz.func181.trans (congrArg some (by kernel_rfl))⟩
 f21:=⟨Tryz.f182.name,by decide,Tryz.func182.trans (congrArg some (by kernel_rfl))⟩
 f22:=⟨Tryz.f183.name,by decide,Tryz.func183.trans (congrArg some (by kernel_rfl))⟩
 f23:=⟨Tryz.f184.name,by decide,Tryz.func184.trans (congrArg some (by kernel_rfl))⟩
 f24:=⟨Tryz.f185.name,by decide,Tryz.func185.trans (congrArg some (by kernel_rfl))⟩
 f25:=⟨Tryz.f186.name,by decide,Tryz.func186.trans (congrArg some (by kernel_rfl))⟩
 f26:=⟨Tryz.f187.name,by decide,Tryz.func187.trans (congrArg some (by kernel_rfl))⟩
 f27:=⟨Tryz.f188.name,by decide,Tryz.func188.trans (congrArg some (by kernel_rfl))⟩
 f28:=Tryz.func189.trans (congrArg some (by kernel_rfl))
 f29:=Tryz.func171.trans (congrArg some (by kernel_rfl))
 f46:=⟨Tryz.f207.name,by decide,Tryz.func207.trans (congrArg some (by kernel_rfl))⟩
 f47:=Tryz.func208.trans (congrArg some (by kernel_rfl))
 f48:=Tryz.func209.trans (congrArg some (by kernel_rfl))
 f49:=⟨Tryz.f210.name,by decide,Tryz.func210.trans (congrArg some (by kernel_rfl))⟩
 f50:=⟨Tryz.f211.name,by decide,Tryz.func211.trans (congrArg some (by kernel_rfl))⟩
 f57:=⟨Tryz.f230.name,by decide,Tryz.func230.trans (congrArg some (by kernel_rfl))⟩
 t0:=Tryz.underlying0
 a0:=Tryz.isAgg0
 z0:=Tryz.sizeOf0
 v0:=Tryz.zeroValue0
 t3:=Tryz.underlying3
 a3:=Tryz.isAgg3
 z3:=Tryz.sizeOf3
 v3:=Tryz.zeroValue3
 t4:=Tryz.underlying4
 a4:=Tryz.isAgg4
 z4:=Tryz.sizeOf4
 v4:=Tryz.zeroValue4
 t5:=Tryz.underlying5
 a5:=Tryz.isAgg5
 z5:=Tryz.sizeOf5
 v5:=Tryz.zeroValue5
 t9:=Tryz.underlying9
 a9:=Tryz.isAgg9
 z9:=Tryz.sizeOf9
 v9:=Tryz.zeroValue9
 t22:=Tryz.underlying229
 a22:=Tryz.isAgg229
 z22:=Tryz.sizeOf229
 v22:=Tryz.zeroValue229
 a24:=Tryz.isAgg236
 z24:=Tryz.sizeOf236
 t25:=Tryz.underlying240
 a25:=Tryz.isAgg240
 z25:=Tryz.sizeOf240
 v25:=Tryz.zeroValue240
 t39:=Tryz.underlying59
 a39:=Tryz.isAgg59
 z39:=Tryz.sizeOf59
 v39:=Tryz.zeroValue59
 t45:=Tryz.underlying300
 a45:=Tryz.isAgg300
 z45:=Tryz.sizeOf300
 v45:=Tryz.zeroValue300
 t46:=Tryz.underlying301
 a46:=Tryz.isAgg301
 z46:=Tryz.sizeOf301
 v46:=Tryz.zeroValue301
 t50:=Tryz.underlying288
 a50:=Tryz.isAgg288
 z50:=Tryz.sizeOf288
 v50:=Tryz.zeroValue288
 t53:=Tryz.underlying243
 a53:=Tryz.isAgg243
 z53:=Tryz.sizeOf243
 v53:=Tryz.zeroValue243
 t55:=Tryz.underlying30
 a55:=Tryz.isAgg30
 z55:=Tryz.sizeOf30
 v55:=Tryz.zeroValue30
 t66:=Tryz.underlying322
 a66:=Tryz.isAgg322
 z66:=Tryz.sizeOf322
 v66:=Tryz.zeroValue322
 t70:=Tryz.underlying195
 a70:=Tryz.isAgg195
 z70:=Tryz.sizeOf195
 v70:=Tryz.zeroValue195
 t76:=Tryz.underlying343
 a76:=Tryz.isAgg343
 z76:=Tryz.sizeOf343
 v76:=Tryz.zeroValue343
 t77:=Tryz.underlying344
 a77:=Tryz.isAgg344
 z77:=Tryz.sizeOf344
 v77:=Tryz.zeroValue344}
end Go.Proofs

namespace FK
theorem pH {α:Type} {f:α->Nat}:∀{L E:List α},E.Perm L->L.Pairwise (λa b=>f a<f b)->E.Pairwise (λa b=>f a<=f b)->E=L
 | [],E,h,_,_=>h.eq_nil
 | x::L,[],h,_,_=>by simpa using h.length_eq
 | x::L,y::M,h,hs,hs'=>by
  have K:y∈x::L:=h.mem_iff.1 cP;have O:x∈y::M:=h.mem_iff.2 cP;rw[List.pairwise_cons] at hs hs';have I:y=x:=by
   rcases List.mem_cons.1 K with e|e
   · exact e
   · have a:=hs.1 y e
     rcases List.mem_cons.1 O with e|e
     · exact e.symm
     · have:=hs'.1 x e;omega
  subst I;rw[pH (List.Perm.cons_inv h) hs.2 hs'.2]
theorem xP {α β:Type} {p:α->Prop} {f:α->β}:∀{l:List β},(∀b∈l,∃a,p a/\f a=b)->∃L:List {a // p a},L.map (λa=>f a.1)=l
 | [],_=>⟨[],rfl⟩
 | b::l,h=>by
  obtain⟨a,E,e⟩:=h b cP;obtain⟨L,I⟩:=xP (l:=l) λc hc=>h c (by simp[hc]);exact⟨⟨a,E⟩::L,by simp[e,I]⟩
end FK
namespace Go.Y
open Go.Proofs
open Go Go.RowKit Go.SL
variable {G:Env->Prop}
section
variable {α:Type} [Inhabited α] {enc:α->Value} {w:World} {g m:Nat} {d:Array α} {os:Array Obj}
theorem rX {k:Nat} (I:k≠g) (E:k<w.heap.size):(sortWorld enc w g 0 m d os).heap[k]?=w.heap[k]?:=by
 simp only[sortWorld,Sort.grow,Sort.putRow,Sort.mapBlock,Sort.ahead,Array.getElem?_append,Array.size_modify,E,if_true,Array.getElem?_modify,if_neg (Ne.symm I)]
theorem sw_at {c:Array Value} {e:TypeId} {I:Nat×Nat} (h:w.heap[g]?=some (.cells c e I)):(sortWorld enc w g 0 m d os).heap[g]?=some (.cells (Sort.putCells enc 0 d c) e I):=by
 have E:=(Array.getElem?_eq_some_iff.1 h).1;simp only[sortWorld,Sort.grow,Sort.putRow,Sort.mapBlock,Sort.ahead,Array.getElem?_append,Array.size_modify,E,if_true,Array.getElem?_modify,h,Option.map_some,Sort.onCells]
theorem GD {c:Array Value} (h:d.size<=c.size):(Sort.putCells enc 0 d c).toList.take d.size=d.toList.map enc:=by
 apply List.ext_getElem?;intro k;rw[List.getElem?_take]
 by_cases E:k<d.size
 · rw[if_pos E,Array.getElem?_toList,Sort.putCells,Array.getElem?_mapIdx,Array.getElem?_eq_getElem (by omega:k<c.size),Option.map_some,if_pos ⟨Nat.zero_le _,ai⟩,List.getElem?_map,Array.getElem?_toList,Array.getElem?_eq_getElem E,Option.map_some,Nat.sub_zero,getElem!_pos d k E]
 · rw[if_neg E,List.getElem?_map,Array.getElem?_toList,Array.getElem?_eq_none ai,Option.map_none]
end
theorem Gp {a b:Nat}:xi a b<0<->a<b:=by unfold xi;split<;>(try split)<;>omega
theorem pP {α β:Type} {f:α->β}:∀{l:List α},(l.map f).Nodup->∀{a b:α},a∈l->b∈l->f a=f b->a=b
 | [],_,_,_,h,_,_=>by cases h
 | x::l,hn,a,b,ha,hb,e=>by
  rw[List.map_cons,List.nodup_cons] at hn;rcases List.mem_cons.1 ha with E|E<;>rcases List.mem_cons.1 hb with I|I
  · exact E.trans I.symm
  · exact absurd (by rw[<-E,e];exact List.mem_map_of_mem I) hn.1
  · exact absurd (by rw[<-I,<-e];exact List.mem_map_of_mem E) hn.1
  · exact pP hn.2 E I e
theorem ub {A:Option Addr} {c:Nat} {tms:List FK.Tmr} {bs:List Nat} (hs:tms.Pairwise λa b=>a.seq<b.seq) (hp:bs.Perm (tms.map FK.Tmr.blk)) (K:(tms.map FK.Tmr.blk).Nodup) (hz:tms.length<=100000) :
 Does Tryz.prog G 128 #[.slice A bs.length c,.func (.func 129) #[] #[]] [ee (.slice A bs.length c) bs,i8 tms] λv m=>v=.tuple #[]/\m=[row 236 1 (.slice A bs.length c) bs.length ((tms.map FK.Tmr.blk).map aX),i8 tms]:=by
 intro E w fr hE hw;have I:=hp.length_eq
 by_cases h0:tms=[]
 · subst h0
   obtain rfl:bs=[]:=by simpa using hp.eq_nil
   refine(AnyF.slices_SortFunc_none (P:=Tryz.prog) (ρ:=ip) {mB with} A c _ w).mono ?_;rintro e w' ⟨rfl,rfl⟩;exact⟨_,_,rfl,⟨rfl,rfl⟩,hw⟩
 · obtain⟨t0,BT⟩:=List.exists_mem_of_ne_nil _ h0
   haveI:Inhabited {t:FK.Tmr // t∈tms}:=⟨⟨t0,BT⟩⟩
   obtain⟨L,hL⟩:=FK.xP (p:=λt=>t∈tms) (f:=FK.Tmr.blk) (l:=bs) λb hb=>by
    obtain⟨t,ht,e⟩:=List.mem_map.1 (hp.mem_iff.1 hb);exact⟨t,ht,e⟩
   have LF:L.length=bs.length:=by rw[<-hL,List.length_map]
   obtain⟨d,hd⟩:∃d:Array {t:FK.Tmr // t∈tms},d.toList=L:=⟨L.toArray,rfl⟩;have d7:d.size=bs.length:=by rw[<-LF,<-hd,Array.length_toList]
   obtain⟨_,f7⟩:=hw.row .head;rcases f7 with⟨h1,_⟩|⟨g,cap,d6,hv,_,hg,LC,LD,f9,mt⟩
   · injection h1 with _ h1
     rw[h1,List.length_map] at I;exact absurd (List.eq_nil_of_length_eq_zero I.symm) h0
   · injection hv with hA _ LE
     subst hA;subst LE;rw[Nat.mul_one] at f9 mt;have LG:=hw.star;obtain⟨F1,F2,h1,h2,Fd,⟨_,In⟩,F3,F4,h3,h4,_,f8,_⟩:=LG;have T:∀t∈tms,t.blk≠g/\t.blk<w.heap.size/\w.heap[t.blk]?=some (.cells #[.int .u64 t.key.run,.int .i64 t.key.node,.int .i64 t.key.what,.int .u64 t.due,.int .u64 t.seq,.int .i64 t.lvl,.int .i64 t.slot] 239):=λt ht=>by
      have a:=mZ f8 ht;exact⟨λe=>Fd g (In g Z) (e▸h3 _ (Star.mem f8 (List.mem_map_of_mem ht)).1),(Array.getElem?_eq_some_iff.1 a).1,a⟩
     have t6:∀j,(O:j<d.size)->d[j]!.1.blk=bs[j]'ai:=λj O=>by
      rw[getElem!_pos d j O];have:(L.map λa=>a.1.blk)[j]?=bs[j]?:=by rw[hL]
      rw[List.getElem?_map,<-hd,Array.getElem?_toList,Array.getElem?_eq_getElem O,List.getElem?_eq_getElem ai] at this;simpa using this
     have key:∀x y:{t:FK.Tmr // t∈tms},ltOf (λa b:{t:FK.Tmr // t∈tms}=>xi a.1.seq b.1.seq) x y=decide (x.1.seq<y.1.seq):=λx y=>decide_eq_decide.2 Gp;have hc:=Any.slices_SortFunc (P:=Tryz.prog) (ρ:=ip) mB (λt:{t:FK.Tmr // t∈tms}=>aX t.1.blk) (λ_=>rfl) (λa b=>xi a.1.seq b.1.seq)
      ⟨λx=>by rw[key];simp,λx y z a b=>by rw[key,decide_eq_true_eq] at *;omega,λx y z a b=>by rw[key,decide_eq_false_iff_not] at *;omega⟩ 129 #[] g 0 c d w (enters_of Tryz.func129 eP rfl)
      (λm os dk LL x y=>by
       have ax:=T x.1 x.2;have ay:=T y.1 y.2;have:=(wJ x.1.blk y.1.blk x.1.seq y.1.seq (sortWorld (λt:{t:FK.Tmr // t∈tms}=>aX t.1.blk) w g 0 m dk os) (by simp[World.cell?,rX ax.1 ax.2.1,ax.2.2]) (by simp[World.cell?,rX ay.1 ay.2.1,ay.2.2])).mono (R':=λe w'=>e=.returned (.int .i64 (xi x.1.seq y.1.seq))/\∃q wf,w'=Sort.grow ((sortWorld (λt:{t:FK.Tmr // t∈tms}=>aX t.1.blk) w g 0 m dk os).drewN q) wf) (by rintro e w' ⟨rfl,q,rfl⟩;exact⟨rfl,q,#[],(Sort.grow_empty _).symm⟩);simpa using this)
      (λj O=>by
       have a:d6[j]?=some (aX (bs[j]'ai)):=by
        have:(d6.toList.take bs.length)[j]?=(bs.map aX)[j]?:=by rw[mt]
        rw[List.getElem?_take,if_pos ai,Array.getElem?_toList,List.getElem?_map,List.getElem?_eq_getElem ai] at this;exact this
       show _=some (aX d[j]!.1.blk)/\_;rw[t6 j O];simp[World.cell?,World.frozen?,hg,a])
      (Array.getElem?_eq_some_iff.1 hg).1 (by rw[List.length_map] at I;omega)
     rw[d7] at hc;refine Calls.mono hc ?_;rintro e w' ⟨rfl,Y,m,os,hP,hS,rfl⟩;have t7:Y.size=bs.length:=hP.1.trans d7;have d8:Y.toList.Perm L:=by
      have:=hP.2.2
      rwa [<-d7,<-hP.1,Array.extract_size,hP.1,Array.extract_size,hd] at this
     have LH:(L.map (·.1)).Perm tms:=by
      have n1:(L.map λa=>a.1.blk).Nodup:=by rw[hL];exact hp.nodup_iff.2 K
      have n2:(L.map (·.1)).Nodup:=by
       refine List.Pairwise.imp_of_mem ?_<|List.pairwise_map.1 (by rw[List.map_map];exact n1:((L.map (·.1)).map FK.Tmr.blk).Nodup)
       intro a b _ _ h e;exact h (by rw[e])
      have n3:tms.Nodup:=by
       refine List.Pairwise.imp ?_<|List.pairwise_map.1 K
       intro a b h e;exact h (by rw[e])
      refine(List.perm_ext_iff_of_nodup n2 n3).2 λa=>⟨λha=>?_,λha=>?_⟩
      · obtain⟨x,_,rfl⟩:=List.mem_map.1 ha
        exact x.2
      · have:a.blk∈bs:=hp.mem_iff.2 (List.mem_map_of_mem ha)
        rw[<-hL] at this;obtain⟨x,hx,e⟩:=List.mem_map.1 this;exact List.mem_map.2 ⟨x,hx,pP K x.2 ha e⟩
     have LJ:Y.toList.map (·.1)=tms:=by
      refine FK.pH (f:=FK.Tmr.seq) ((d8.map _).trans LH) hs ?_;rw[List.pairwise_map,List.pairwise_iff_getElem];intro i j hi O LB;rw[Array.length_toList] at hi O;have:=hS i j (Nat.zero_le _) LB ai;rw[key,getElem!_pos Y j O,getElem!_pos Y i hi] at this;simpa using this
     have LK:tms.map FK.Tmr.blk=Y.toList.map λa=>a.1.blk:=(congrArg (List.map FK.Tmr.blk) LJ).symm.trans (by rw[List.map_map];rfl);refine⟨_,_,rfl,⟨rfl,rfl⟩,?_⟩;refine hw.turn rfl rfl rfl (by simp[sortWorld,Sort.grow,Sort.putRow,Sort.mapBlock,Sort.ahead]) λF1 d9 hF=>⟨F1,λk K=>⟨.inl K,Nat.lt_of_lt_of_le (hF k K).1 (by simp[sortWorld,Sort.grow,Sort.putRow,Sort.mapBlock,Sort.ahead])⟩,⟨⟨by simp[I],.inr ⟨g,c,_,rfl,Nat.zero_le _,sw_at hg,LC,LD,by simp[Sort.putCells,f9],?_⟩⟩,λk K=>d9.2 k (by simpa[Value.ownBlock] using K)⟩,λk K t8=>rX (by rintro rfl;exact t8 (d9.2 _ rfl)) K⟩;have:=GD (enc:=λt:{t:FK.Tmr // t∈tms}=>aX t.1.blk) (d:=Y) (c:=d6) ai;rw[Nat.mul_one,<-t7,this,LK,List.map_map]
     rfl
end Go.Y

namespace Go.SL
open Go.RowKit
section
variable {P:Program} {E:Env} {n:Nat} {D:List Deferred} {ts:List (Nat×Value)} {l:List HP} {ops:Array Oper} {Q:Exit->Act->World->Prop} {rest:List Oper} {i:Nat} {ty:TypeId} {pos:String} {af:Array Edge} {g:Option (Nat×Bool)}
theorem Ko {op:Op} {v v':Value} {φ:World->Prop} (h:Ev P ts op v φ) (e:v=v'):Ev P ts op v' φ:=e▸h
theorem CT {t I:TypeId} {x:Operand} {p:Option Addr} {m c:Nat} (K:P.underlying t=some (.slice I)) (O:ev ts x=some (.slice p m c)):Ev P ts (.call {callee:=.builtin .cap,args:=#[x],argTypes:=#[t]}) (.int .i64 c) Any:=by
 intro a w _ _ _ _ _ T _;simp[execOp,resolve,invoke,builtin,Builtin.cap_,T.eval O,run_underlying K,goInt]
theorem KQ {s x:Operand} {t O e:TypeId} {z:Value} {bytes:Nat} {kn:IntKind} {k:Nat} {K:Act->World->Prop} (hi:Nat.blt i n=true) (ht:P.underlying t=some (.slice e)) (d6:P.underlying O=some (.int kn)) (d7:fV P e z 1 bytes) (d8:z.cells.size=1)
 (hs:ev ts s=some (.slice none 0 0)) (hx:ev ts x=some (.int .i64 k)) (h0:0<k) (hm:k<=maxLen) (hb:k*bytes<=140737488355328)
 (h:∀b cap,k<=cap->At E n D ((i,.slice (some ⟨b,0,none⟩) k cap)::ts) (row e 1 (.slice (some ⟨b,0,none⟩) 0 cap) 0 []::l) K) :
 At E n D ts l (λa w=>(Oper.mk (some i) (.call {callee:=.builtin .append,args:=#[s,x],argTypes:=#[t,O]}) ty pos af g).wp P a w K Q):=λa w f hw=>by
 obtain⟨ti,d9,e0,e1,e2⟩:=info_parts d7;have T:(Builtin.firstCells ti.size 0 (.slice none 0 0)).run P w.drew=.ok ([]:List Value).toArray w.drew:=rfl;have mt:k<=9223372036854775807:=by unfold maxLen at hm;omega
 have Y:Builtin.nextslicecap (0+k) 0*ti.bytes<=281474976710656:=by
  have:Builtin.nextslicecap (0+k) 0=k:=by
   unfold Builtin.nextslicecap;rw[if_pos ai];omega
  rw[this,e2];omega
 have hr:=Go.Lib.run_append_grow_zeros (P:=P) w t O ty e ti z .i64 kn ht d6 d9 e0 none 0 0 [] T k h0 (by rw[e1];omega) ai ai (by rw[e2];omega) Y;obtain⟨cap,I⟩:∃cap,cap=grownCap w (0+k) 0 e:=⟨_,rfl⟩;rw[<-I] at hr;have f7:k<=cap:=by rw[I];have:=grownCap_ge w (0+k) 0 e;omega
 have f8:cap<=maxLen:=by rw[I];exact grownCap_le_maxLen w (0+k) 0 e ai
 have:(execOp a.eval (Oper.mk (some i) (.call {callee:=.builtin .append,args:=#[s,x],argTypes:=#[t,O]}) ty pos af g)).run P w=.ok (.value (.slice (some ⟨w.heap.size,0,none⟩) (0+k) cap)) (w.drew.alloc (.cells (([]:List Value).toArray++Builtin.zeroCells z.cells k++Builtin.zeroCells z.cells (cap-(0+k))) e)):=by
  simp[execOp,resolve,invoke,builtin,f.eval hs,f.eval hx,hr]
 show(Oper.mk (some i) (.call {callee:=.builtin .append,args:=#[s,x],argTypes:=#[t,O]}) ty pos af g).wp P a w K Q;unfold Oper.wp;rw[this,Nat.zero_add];have f9:∀m,(Builtin.zeroCells z.cells m).size=m:=λm=>by unfold Builtin.zeroCells;simp[d8]
 refine h _ _ f7 _ _ (f.put i (Nat.le_of_ble_eq_true hi) _) (((hw.drawn _).alloc _).ent ?_);refine dI (m:=0) (Nat.zero_le _) f8 ?_ cP;simp[f9];omega
end
open Go.RowKit
section
variable {P:Program} {G:Env->Prop}
theorem Does.part {f:FuncId} {args:Array Value} {pre I c:List HP} {R R':Value->List HP->Prop} (h:Does P G f args pre R) (e:Ent I (pre++c)) (Y:∀v m,R v m->∃O,R' v O/\Ent (m++c) O):Does P G f args I R':=λE w fr hE hw=>by
 have T:=(h.frame c).mono (R':=R') λv m ⟨O,T,h2⟩=>by subst h2;exact Y v O T
 exact T E w fr hE<|hw.ent<|e.append fr
end
end Go.SL
namespace Go.Y
open Go.Proofs Go.RowKit Go.SL
variable {G:Env->Prop}
theorem setR_keys (S:FK.En) (id:Nat) (R:FK.Rn):(S.setR id R).runs.map (·.1)=S.runs.map (·.1):=by
 unfold FK.En.setR;simp only[List.map_map];refine List.map_congr_left λx _=>?_;simp only[Function.comp_apply]
 split<;>rfl
theorem kP {S:FK.En} {id:Nat} {R:FK.Rn} (h:S.getR id=some R) (Y:ep S):∃a b,S.runs=a++(id,R)::b/\∀R',(S.setR id R').runs=a++(id,R')::b:=by
 obtain⟨a,b,O⟩:=List.append_of_mem (oZ h);refine⟨a,b,O,λR'=>?_⟩;have T:=Y;unfold ep at T;rw[O,List.map_append,List.map_cons] at T;have hd:=List.nodup_append.1 T;have ha:∀x∈a,(x.1==id)=false:=λx I=>by
  have:=hd.2.2 x.1 (List.mem_map_of_mem I) id cP;simpa using this
 have hb:∀x∈b,(x.1==id)=false:=λx I=>by
  have h1:=(List.nodup_cons.1 hd.2.1).1;have:x.1≠id:=λe=>h1 (List.mem_map.2 ⟨x,I,e⟩);simpa using this
 have ma:(a.map λr=>if r.1==id then(r.1,R') else r)=a:=by
  conv=>rhs;rw[<-List.map_id a]
  exact List.map_congr_left λx I=>by simp[ha x I]
 have mb:(b.map λr=>if r.1==id then(r.1,R') else r)=b:=by
  conv=>rhs;rw[<-List.map_id b]
  exact List.map_congr_left λx I=>by simp[hb x I]
 show S.runs.map _=_;rw[O,List.map_append,List.map_cons,ma,mb];simp
theorem IT {S:FK.En} {id:Nat} {R:FK.Rn} (h:ep S):ep (S.setR id R):=by
 unfold ep;rw[setR_keys];exact h
theorem KJ (S:FK.En) (id:Nat) (R:FK.Rn) (p:EA):eV (S.setR id R) p=eV S p:=by
 have h:∀l:List (Nat×FK.Rn),(l.map λr=>(r.1,aX (p.fb r.1)))=(l.map (·.1)).map λk=>(k,aX (p.fb k)):=λl=>by rw[List.map_map];rfl
 unfold eV;rw[h,h,setR_keys]
abbrev nX (e:Nat) (p:EA) (S:FK.En) (a b:List (Nat×FK.Rn)):List HP:=[dV e (ja S p) S.Lx,cA aV p.rm (eV S p),fw p (a++b),cA aV p.tm (dH S),dx p.w S.now S.sets S.tms]
theorem lk {e:Nat} {p:EA} {S:FK.En} {id:Nat} {R:FK.Rn} {a b:List (Nat×FK.Rn)} {r:List HP} (h:S.runs=a++(id,R)::b):Ent (aG e p S::r) (oz (p.fb id) (p.ra id) R++(nX e p S a b++r)):=by
 refine Ent.unall.trans ?_;refine(Ent.drop (p:=HP.pure (ep S))).trans ?_;have O:Ent (fw p S.runs::cA aV p.tm (dH S)::dx p.w S.now S.sets S.tms::r) (kV (p.fb id) (p.ra id) R::fw p (a++b)::cA aV p.tm (dH S)::dx p.w S.now S.sets S.tms::r):=by
  refine(Ent.unall (m:=iw p S.runs)).trans ?_;have T:((iw p S.runs)++(cA aV p.tm (dH S)::dx p.w S.now S.sets S.tms::r)).Perm (kV (p.fb id) (p.ra id) R::(iw p (a++b)++(cA aV p.tm (dH S)::dx p.w S.now S.sets S.tms::r))):=by
   rw[h];have I:=(List.perm_middle (a:=(id,R)) (l₁:=a) (l₂:=b)).map λr=>kV (p.fb r.1) (p.ra r.1) r.2;rw[List.map_cons] at I;exact I.append_right _
  exact(Ent.perm T).trans (Ent.cons (Ent.all (m:=iw p (a++b))))
 refine(Ent.cons (Ent.cons O)).trans ?_;exact gfE2.trans<|Ent.unall (m:=oz (p.fb id) (p.ra id) R)
theorem ki {e:Nat} {p:EA} {S:FK.En} {id:Nat} {R':FK.Rn} {a b:List (Nat×FK.Rn)} {r:List HP} (O:ep S) (h:(S.setR id R').runs=a++(id,R')::b):Ent (oz (p.fb id) (p.ra id) R'++(nX e p S a b++r)) (aG e p (S.setR id R')::r):=by
 refine(Ent.all (m:=oz (p.fb id) (p.ra id) R')).trans ?_;have T:Ent (kV (p.fb id) (p.ra id) R'::fw p (a++b)::cA aV p.tm (dH S)::dx p.w S.now S.sets S.tms::r) (fw p (S.setR id R').runs::cA aV p.tm (dH S)::dx p.w S.now S.sets S.tms::r):=by
  refine(Ent.cons (Ent.unall (m:=iw p (a++b)))).trans ?_;have Y:(kV (p.fb id) (p.ra id) R'::(iw p (a++b)++(cA aV p.tm (dH S)::dx p.w S.now S.sets S.tms::r))).Perm ((iw p (S.setR id R').runs)++(cA aV p.tm (dH S)::dx p.w S.now S.sets S.tms::r)):=by
   rw[h];have I:=((List.perm_middle (a:=(id,R')) (l₁:=a) (l₂:=b)).map λr=>kV (p.fb r.1) (p.ra r.1) r.2).symm;rw[List.map_cons] at I;exact I.append_right _
  exact(Ent.perm Y).trans (Ent.all (m:=iw p (S.setR id R').runs))
 refine(dd bM bM .head).trans ((Ent.cons (Ent.cons T)).trans ?_);refine(Ent.pure (IT (id:=id) (R:=R') O)).trans ?_;have hm:cA aV p.rm (eV S p)=cA aV p.rm (eV (S.setR id R') p):=by rw[KJ]
 rw[hm];exact Ent.all (m:=j0 e p (S.setR id R'))
section
variable {P:Program} {E:Env} {n:Nat} {D:List Deferred} {ts:List (Nat×Value)} {l r:List HP} {Q:Exit->Act->World->Prop} {ty:TypeId} {pos:String} {af:Array Edge} {g:Option (Nat×Bool)} {t:TypeId} {x y:Operand} {e:Nat} {p:EA} {S:FK.En} {K:Act->World->Prop} [H:HasEng l e p S r]
theorem lE {id k j o:Nat} {R:FK.Rn} {s s':FK.Sp} {v:Value} (hR:S.getR id=some R) (T:R.Lv[k]?=some s) (hz:dm P t 1) (hx:ev ts x=some (.pointer (some ⟨(p.ra id).gs,o,none⟩))) (hy:ev ts y=some v) (ho:o=0+k*3+j) (hj:j<3) (hv:v.oneCell'=true) (I:(n7 s).set j v=n7 s')
 (hk:At E n D ts (aG e p (S.setR id (R.setS k s'))::r) K):At E n D ts l (λa w=>(Oper.mk none (.store t x y) ty pos af g).wp P a w K Q):=by
 refine eK (p:=ep S) (λw hw=>oa hw) λY=>?_;obtain⟨a,b,O,hset'⟩:=kP hR Y;refine al ((Ent.sel H.sel).trans (lk O)) ?_;have d6:=(gfGet.1 T).1;refine fL (l:=oz (p.fb id) (p.ra id) R++(nX e p S a b++r)) lp hz hx hy hv ai ?_;refine al ?_ hk;subst ho;rw[rZ T hj I];refine Ent.trans ?_<|ki Y<|hset'<|R.setS k s'
 have hl:(R.setS k s').Lv.length=R.Lv.length:=by simp[FK.Rn.setS]
 refine((dd bM bM bM).trans (Ent.cons (Ent.cons (Ent.cons gfE1)))).trans ?_;show Ent (HP.pure ((p.ra id).vs.length=R.fl.Lw.length)::zP (p.fb id) (p.ra id) R::row 58 7 ((p.ra id).nv R) R.fl.Lw.length (bU R.fl.Lw (p.ra id).vs)::ey (p.ra id).vs R.fl.Lw::row 150 3 ((p.ra id).sv R) R.Lv.length (oy (R.Lv.set k s'))::(nX e p S a b++r)) (HP.pure ((p.ra id).vs.length=R.fl.Lw.length)::blk (p.fb id) 148 #[.int .i64 R.fl.deadline,(p.ra id).nv R,.int .i64 R.state,.slice (some ⟨(p.ra id).gs,0,none⟩) (R.setS k s').Lv.length (p.ra id).cs,.int .u64 R.ended]::row 58 7 ((p.ra id).nv R) R.fl.Lw.length (bU R.fl.Lw (p.ra id).vs)::ey (p.ra id).vs R.fl.Lw::row 150 3 (.slice (some ⟨(p.ra id).gs,0,none⟩) (R.setS k s').Lv.length (p.ra id).cs) (R.setS k s').Lv.length (oy (R.Lv.set k s'))::(nX e p S a b++r));rw[hl];exact aN
theorem D0 {id k o:Nat} {R:FK.Rn} {s s':FK.Sp} (hR:S.getR id=some R) (hs:R.Lv[k]?=some s) (hz:dm P t 3) (hx:ev ts x=some (.pointer (some ⟨(p.ra id).gs,o,none⟩))) (hy:ev ts y=some (.agg (n7 s').toArray)) (ho:o=0+k*3)
 (hk:At E n D ts (aG e p (S.setR id (R.setS k s'))::r) K):At E n D ts l (λa w=>(Oper.mk none (.store t x y) ty pos af g).wp P a w K Q):=by
 refine eK (p:=ep S) (λw hw=>oa hw) λT=>?_;obtain⟨a,b,I,hset'⟩:=kP hR T;refine al ((Ent.sel H.sel).trans (lk I)) ?_;have O:=(gfGet.1 hs).1;refine eU (l:=oz (p.fb id) (p.ra id) R++(nX e p S a b++r)) (vs:=n7 s') lp hz rfl hx hy (by intro u Y;simp only[List.mem_cons,List.not_mem_nil,or_false] at Y;rcases Y with rfl|rfl|rfl<;>rfl) ai ?_;refine al ?_ hk;subst ho;rw[IQ O];refine Ent.trans ?_<|ki T<|hset'<|R.setS k s'
 have hl:(R.setS k s').Lv.length=R.Lv.length:=by simp[FK.Rn.setS]
 refine((dd bM bM bM).trans (Ent.cons (Ent.cons (Ent.cons gfE1)))).trans ?_;show Ent (HP.pure ((p.ra id).vs.length=R.fl.Lw.length)::zP (p.fb id) (p.ra id) R::row 58 7 ((p.ra id).nv R) R.fl.Lw.length (bU R.fl.Lw (p.ra id).vs)::ey (p.ra id).vs R.fl.Lw::row 150 3 ((p.ra id).sv R) R.Lv.length (oy (R.Lv.set k s'))::(nX e p S a b++r)) (HP.pure ((p.ra id).vs.length=R.fl.Lw.length)::blk (p.fb id) 148 #[.int .i64 R.fl.deadline,(p.ra id).nv R,.int .i64 R.state,.slice (some ⟨(p.ra id).gs,0,none⟩) (R.setS k s').Lv.length (p.ra id).cs,.int .u64 R.ended]::row 58 7 ((p.ra id).nv R) R.fl.Lw.length (bU R.fl.Lw (p.ra id).vs)::ey (p.ra id).vs R.fl.Lw::row 150 3 (.slice (some ⟨(p.ra id).gs,0,none⟩) (R.setS k s').Lv.length (p.ra id).cs) (R.setS k s').Lv.length (oy (R.Lv.set k s'))::(nX e p S a b++r));rw[hl];exact aN
theorem Cr {id i:Nat} {R R':FK.Rn} {v:Value} (hR:S.getR id=some R) (hz:dm P t 1) (hx:ev ts x=some (.pointer (some ⟨p.fb id,i,none⟩))) (hy:ev ts y=some v) (hi:i<5) (hv:v.oneCell'=true) (O:R'.fl=R.fl) (T:R'.Lv=R.Lv) (I:(xj (p.ra id) R).setIfInBounds i v=xj (p.ra id) R')
 (hk:At E n D ts (aG e p (S.setR id R')::r) K):At E n D ts l (λa w=>(Oper.mk none (.store t x y) ty pos af g).wp P a w K Q):=by
 refine eK (p:=ep S) (λw hw=>oa hw) λhn=>?_;obtain⟨a,b,Y,hset'⟩:=kP hR hn;refine al ((Ent.sel H.sel).trans (lk Y)) ?_;refine al gfE1 ?_;refine cp (b:=p.fb id) (cs:=xj (p.ra id) R) Z hz hx hy hv (by simpa using hi) ?_;rw[I];refine al ?_ hk;refine Ent.trans ?_<|ki hn<|hset' R'
 refine gfE1.trans ?_;unfold oz RA.nv RA.sv;rw[O,T];exact aN
theorem kZ {i:Nat} {S':FK.En} {v:Value} (O:dm P t 1) (T:ev ts x=some (.pointer (some ⟨e,i,none⟩))) (Y:ev ts y=some v) (hi:i<10) (hv:v.oneCell'=true) (I:∀rv f n,(vH (ja S p) rv f n).setIfInBounds i v=vH (ja S' p) rv f n)
 (h1:S'.Lx=S.Lx) (h2:S'.runs=S.runs) (h3:S'.Ly=S.Ly) (h4:S'.now=S.now) (h5:S'.sets=S.sets) (h6:S'.tms=S.tms) (hk:At E n D ts (aG e p S'::r) K):At E n D ts l (λa w=>(Oper.mk none (.store t x y) ty pos af g).wp P a w K Q):=by
 refine al (Ent.sel H.sel)<|bl ?_
 refine xH (h:=⟨.tail .head⟩) (e:=e) (i:=i) (C:=ja S p) (C':=ja S' p) O T Y hv hi I ?_;refine al ?_ hk;refine Ent.trans ?_<|Ent.all (m:=j0 e p S')
 unfold j0 ep eV dH;rw[h1,h2,h3,h4,h5,h6];exact gfE1
end
section
variable {e:Nat} {p:EA} {S:FK.En}
theorem nT {f:FuncId} {args:Array Value} {R:Value->List HP->Prop} {R':Value->List HP->Prop} (h:Does Tryz.prog G f args [dV e (ja S p) S.Lx] R) (I:∀v m,R v m->∃q,m=[dV e (ja S p) q]/\R' v [aG e p {S with Lx:=q}]):Does Tryz.prog G f args [aG e p S] R':=by
 refine Does.part (c:=[HP.pure (ep S),cA aV p.rm (eV S p),fw p S.runs,cA aV p.tm (dH S),dx p.w S.now S.sets S.tms]) h ((Ent.unall (m:=j0 e p S)).trans gfE1) λv m O=>?_;obtain⟨q,rfl,T⟩:=I v m O;exact⟨_,T,gfE1.trans (Ent.all (m:=j0 e p {S with Lx:=q}))⟩
theorem uN (q:FK.Pl) (I:S.Lx.length<=400):dZ G 102 [qP e,iW q] [aG e p S] λv m=>v=.tuple #[]/\m=[aG e p {S with Lx:=S.Lx++[q]}]:=
 nT (tw e _ q I) λ_ _ ⟨O,T⟩=>⟨_,T,O,rfl⟩
theorem sc:dZ G 90 [qP e] [aG e p S] λv m=>v=.int .i64 S.Lx.length/\m=[aG e p S]:=
 nT (DM e _) λ_ _ ⟨I,O⟩=>⟨S.Lx,O,I,rfl⟩
theorem Ck {k:Nat} {q:FK.Pl} (I:S.Lx[k]?=some q):dZ G 91 [qP e,.int .i64 k] [aG e p S] λv m=>v=iW q/\m=[aG e p S]:=
 nT (GA e _ I) λ_ _ ⟨O,T⟩=>⟨S.Lx,T,O,rfl⟩
theorem s7 {w:World} {I now sets:Nat} {tms:List FK.KD} {F:Nat->Prop} (h:(dx I now sets tms).sat w F):∃W,WOk now sets tms W/\(cb I W).sat w F:=by
 obtain⟨W,O⟩:=h;refine⟨W,?_,?_⟩
 · have:=Star.mem (p:=HP.pure (WOk now sets tms W)) (l:=[HP.pure (WOk now sets tms W),cb I W]) O cP
   exact this
 · exact Star.mem (l:=[HP.pure (WOk now sets tms W),cb I W]) O cP
theorem kS {f:FuncId} {args:Array Value} {R':Value->List HP->Prop} (h:∀W,WOk S.now S.sets S.tms W->Does Tryz.prog G f args [cb p.w W] λv m=>∃I now sets tms,m=[cb p.w I]/\WOk now sets tms I/\R' v [aG e p {S with now:=now,sets:=sets,tms:=tms}]):Does Tryz.prog G f args [aG e p S] R':=by
 refine Does.part (pre:=[dx p.w S.now S.sets S.tms]) (R:=λv m=>∃now sets tms,m=[dx p.w now sets tms]/\R' v [aG e p {S with now:=now,sets:=sets,tms:=tms}]) (c:=[HP.pure (ep S),dV e (ja S p) S.Lx,cA aV p.rm (eV S p),fw p S.runs,cA aV p.tm (dH S)]) ?_ ((Ent.unall (m:=j0 e p S)).trans gfE5) ?_
 · intro E w fr hE hw
   obtain⟨F1,F2,Y,h2,hd,hp,hl⟩:=hw.star;obtain⟨W,hW,hs⟩:=s7 hp;refine(((h W hW).mono (R':=λv m=>∃now sets tms,m=[dx p.w now sets tms]/\R' v [aG e p {S with now:=now,sets:=sets,tms:=tms}]) ?_)) E w fr hE ⟨hw.is,F1,F2,Y,h2,hd,hs,hl⟩;rintro v m ⟨I,now,sets,tms,rfl,O,T⟩;refine⟨_,⟨now,sets,tms,rfl,T⟩,?_⟩;exact(Ent.pure O).trans ((Ent.all (m:=[HP.pure (WOk now sets tms I),cb p.w I])).trans (Ent.ex (f:=λW:FK.WS=>HP.all [HP.pure (WOk now sets tms W),cb p.w W]) I))
 · rintro v m ⟨now,sets,tms,rfl,T⟩
   refine⟨_,T,?_⟩;refine Ent.trans ?_<|Ent.all (m:=j0 e p {S with now:=now,sets:=sets,tms:=tms})
   exact(dd bM bM bM).trans (Ent.cons (Ent.cons (Ent.cons (aY bM bM))))
theorem rc:dZ G 88 [aX p.w] [aG e p S] λv m=>v=.int .u64 S.now/\m=[aG e p S]:=by
 refine kS λW I=>(GQ p.w).mono ?_;rintro v m ⟨rfl,rfl⟩;exact⟨_,⟨W,S.now,S.sets,S.tms,rfl,I,by rw[I.now],rfl⟩,aN⟩
theorem sF (k:FK.Pl) (hl:S.tms.length<=99999):dZ G 140 [aX p.w,iW k] [aG e p S] λv m=>v=.tuple #[]/\m=[aG e p (S.unset k)]:=by
 refine kS λW I=>(yb p.w k I.inv (by have:=congrArg List.length I.tms;rw[List.length_map] at this;omega)).mono ?_;rintro v m ⟨rfl,O,T,Y,h3,h4,rfl⟩;exact⟨_,⟨O,S.now,S.sets,S.tms.filter λx=>x.1 !=k,rfl,⟨Y.trans I.now,h3▸I.seq,T,by rw[h4,I.tms]⟩,rfl,rfl⟩,aN⟩
theorem oH (k:FK.Pl) (a:Nat) (O:S.now<=a) (T:a<=4611686018427387904) (h3:S.sets<9223372036854775807) (hl:S.tms.length<=99998):dZ G 103 [aX p.w,iW k,.int .u64 a] [aG e p S] λv m=>v=.tuple #[]/\m=[aG e p (S.setT k a)]:=by
 refine kS λW I=>(IS p.w k a I.inv (I.now▸O) T (Nat.lt_of_le_of_lt I.seq h3) (by have:=congrArg List.length I.tms;rw[List.length_map] at this;omega)).mono ?_;rintro v m ⟨rfl,Y,g1,g2,g3,g4,rfl⟩;exact⟨_,⟨Y,S.now,S.sets+1,S.tms.filter (λx=>x.1 !=k)++[(k,a)],rfl,⟨g2.trans I.now,by rw[g3];exact Nat.succ_le_succ I.seq,g1,by rw[g4,I.tms]⟩,rfl,rfl⟩,aN⟩
end
end Go.Y

namespace Go.Y
open Go.Proofs Go.RowKit Go.SL
variable {G:Env->Prop}
theorem Bk (xs:List Int) (A:Option Addr) (c:Nat) (v:Int):dZ G 206 [.slice A xs.length c,.int .i64 v] [aU (.slice A xs.length c) xs] λu m=>(∃i:Int,u=.int .i64 i/\(0<=i<->v∈xs))/\m=[aU (.slice A xs.length c) xs]:=by
 refine bz Tryz.func206 Z λE fr hE=>ae<|aI .head ?_
 intro A' c' hA T K d8 Y _;injection hA with hA _ d7;subst hA;subst d7;replace Y:c<=9223372036854775807:=Y;refine sS<|sB Z<|sQ<|bg Z<|sP (bh Z Z)<|sM Z<|sN<|aj ?_
 refine aL (X:=Nat) (λk=>[(8,.int .i64 k),(7,.int .i64 xs.length),(0,.slice A xs.length c),(1,.int .i64 v)]) (λ_=>aU (.slice A xs.length c) xs::fr) (λk=>k<=xs.length/\∀j,j<k->xs[j]?≠some v) (λk=>xs.length-k) 0 ⟨ai,λj hj=>by omega⟩ cf aN ?_;rintro k ⟨hk,d6⟩;refine sS<|sP (bB Z Z Z)<|sN<|sQ ?_
 refine aA Z (λc9=>?_) λc9=>?_
 ·
  have O:k<xs.length:=ai;obtain⟨g,rfl⟩:∃g,A=some ⟨g,0,none⟩:=by
   cases A with
   | none=>have:=(T rfl).1;omega
   | some ad=>obtain⟨g,rfl⟩:=K ad rfl;exact⟨g,rfl⟩
  obtain⟨o,ho⟩:∃o,xs[k]?=some o:=⟨xs[k],by simp[O]⟩;refine ah<|sT<|sQ<|aj<|bg Z<|sB Z<|bg Z<|sM Z<|cG Z (bp (z:=1) Z Z Z Z O) ?_
  refine cE (aF (v:=.int .i64 o) Z) (fg .head (by rw[Nat.zero_add,Nat.mul_one,bx,List.getElem?_map,ho];rfl)) ?_;refine sP (bC Z Z Z)<|sN ?_
  refine aA Z (λI=>?_) λI=>?_
  ·
   subst I;refine bg Z<|sB Z<|an<|aJ<|aH<|cu<|aJ<|aH ?_
   exact aw [_] rfl Z ⟨⟨_,rfl,by simp[du ho]⟩,rfl⟩ aN
  ·
   refine ah<|am<|sT<|sG<|sP (aT (r:=((k+1:Nat):Int)) Z Z eg)<|sM Z<|aq ?_
   exact aC (k+1) ⟨O,λj hj=>(by rcases Nat.lt_succ_iff_lt_or_eq.1 hj with h|rfl;exact d6 j h;rw[ho];intro h;injection h with h;exact I h.symm)⟩ ai cf aN
 ·
  refine aK<|av<|au<|ao<|sT<|sS<|sB Z<|an ?_
  refine aw [_] rfl Z ⟨⟨_,rfl,?_⟩,rfl⟩ aN;have:v∉xs:=λh=>by
   obtain⟨j,hj,e⟩:=List.getElem_of_mem h;exact d6 j ai (by simp[hj,e])
  simp[this]
theorem uj (xs:List Int) (A:Option Addr) (c:Nat) (v:Int):dZ G 180 [.slice A xs.length c,.int .i64 v] [aU (.slice A xs.length c) xs] λu m=>u=.bool (decide (v∈xs))/\m=[aU (.slice A xs.length c) xs]:=by
 refine bz Tryz.func180 Z λE fr I=>ae<|sS<|sB Z<|bg Z<|sM Z ?_
 refine ch Z (Bk xs A c v) aN ?_;rintro v m ⟨⟨i,rfl,hi⟩,rfl⟩;refine ae<|sP (n9 Z Z Z)<|sB Z<|an ?_
 exact aw [_] rfl Z ⟨by congr 1;exact decide_eq_decide.2 hi,rfl⟩ aN
theorem FO {X:HP} {I gs k n cs:Nat} {st:Int} (xs:List Int) (A:Option Addr) (c:Nat) (K:∀E w r,Holds E w (X::r)->cR ⟨I,3,none⟩ (.slice (some ⟨gs,0,none⟩) n cs) w) (O:∀E w r,Holds E w (X::r)->cR ⟨gs,0+k*3+0,none⟩ (.int .i64 st) w) (T:k<n):dZ G 153 [aX I,.int .i64 k,.slice A xs.length c] [X,aU (.slice A xs.length c) xs] λu m=>u=.bool (decide (st∈xs))/\m=[X]:=by
 refine bz Tryz.func153 Z λE fr Y=>az<|sS<|sB Z<|bg Z<|dS 3 Z Z ?_
 refine cE (aF (v:=.slice (some ⟨gs,0,none⟩) n cs) Z) (λw hw=>K _ _ _ hw) ?_;refine cG Z (bp (z:=3) Z Z Z Z T)<|bX 0 Z ?_
 refine cE (aF (v:=.int .i64 st) Z) (λw hw=>O _ _ _ hw) ?_;refine bV Z (uj xs A c st) gfE1 ?_;exact ae<|sB Z<|an<|aw [_] rfl Z ⟨rfl,rfl⟩ Ent.drop
theorem rh {e:Nat} {p:EA} {S:FK.En} {id k:Nat} {R:FK.Rn} {s:FK.Sp} (xs:List Int) (A:Option Addr) (c:Nat) (E:S.getR id=some R) (I:R.Lv[k]?=some s):dZ G 153 [aX (p.fb id),.int .i64 k,.slice A xs.length c] [aG e p S,aU (.slice A xs.length c) xs] λu m=>u=.bool (decide (s.state∈xs))/\m=[aG e p S]:=
 FO (n:=R.Lv.length) (cs:=(p.ra id).cs) (gs:=(p.ra id).gs) xs A c (λ_E w _r hw=>cz (i:=3) E rfl w hw) (λ_E w _r hw=>gI E I rfl w hw) (gfGet.1 I).1
theorem sn {e:Nat} {p:EA} {S:FK.En} {id k h:Nat} {R:FK.Rn} {s:FK.Sp} (xs:List Int) (A:Option Addr) (c:Nat) (E:S.getR id=some R) (I:R.Lv[k]?=some s):dZ G 153 [aX (p.fb id),.int .i64 k,.slice A xs.length c] [SL.under h (aG e p S),aU (.slice A xs.length c) xs] λu m=>u=.bool (decide (s.state∈xs))/\m=[SL.under h (aG e p S)]:=
 FO (n:=R.Lv.length) (cs:=(p.ra id).cs) (gs:=(p.ra id).gs) xs A c (λ_E w _r hw=>cz (i:=3) E rfl w hw) (λ_E w _r hw=>gI E I rfl w hw) (gfGet.1 I).1
end Go.Y

namespace Go.Y
open Go.Proofs Go.RowKit Go.SL
variable {G:Env->Prop}
theorem mu {e:Nat} {p:EA} {S:FK.En} (span:Int) (I:S.now<=4611686018427387904) (K:0<=span) (O:span<=4611686018427387904):dZ G 123 [aX e,.int .i64 span] [aG e p S] λu m=>u=.int .u64 (S.later span.toNat)/\m=[aG e p S]:=by
 refine bz Tryz.func123 Z λE fr T=>ae<|sS<|sB Z<|sS<|dS 6 Z Z ?_
 refine cE (aF (v:=aX p.w) Z) (bc λ_ _ _=>rfl) ?_;refine bV Z rc aN ?_;refine ae<|cG Z (bJ (r:=span) Z Z Z (by rw[mM];omega))<|sP (aT (r:=((S.now+span.toNat:Nat):Int)) Z Z (by rw[mM];omega)) ?_
 refine sP (FV (r:=((S.later span.toNat:Nat):Int)) Z Z (by unfold FK.En.later;omega)) ?_;exact sB Z<|an<|aw [_] rfl Z ⟨rfl,rfl⟩ aN
theorem vc {e:Nat} {p:EA} {S:FK.En} (q:FK.Pl) (nd:FK.Node) (u:Value) (T:S.now<=4611686018427387904) (Y:nd.beat<=4611686018427387904) (h3:S.sets<9223372036854775807) (hl:S.tms.length<=99998):dZ G 126 [aX e,iW q,.agg (aP nd u).toArray] [aG e p S] λv m=>v=.tuple #[]/\m=[aG e p (S.life q nd)]:=by
 have K:∀n,S.now<=S.later n:=λn=>by unfold FK.En.later;omega
 have I:∀n,S.later n<=4611686018427387904:=λn=>by unfold FK.En.later;omega
 refine bz Tryz.func126 Z λE fr hE=>ae<|sS<|sO (cL Z Z λb4=>(sO (cL Z Z λb5=>(sN (sS (bX 2 Z (aE Z Z Z Z (sP (eS Z Z Z) (sN ?_)))))))))
 refine aA Z (λc8=>?_) λc8=>?_
 ·
  have O:0<nd.beat:=ai;refine sZ Z<|eI Z Z<|dv 6 Z Z Z ?_
  refine iJ 3 Z (aF Z) (bc λ_ _ _=>rfl) ?_;refine dr 4 Z (bL 0 Z)<|bZ Z (aF Z) (ag Z)<|bF Z (bL 1 Z)<|bZ Z (aF Z) (ag Z)<|bF Z (bT (cs:=#[.int .u64 q.run,.int .i64 q.node,.int .i64 2]) Z Z Z Z Z)<|cJ Z Z<|bF Z (bL 2 Z)<|bZ Z (aF Z) (ag Z) ?_
  refine cK 12 Z<|cF Z (mu nd.beat T ai Y) gfE2 ?_
  rintro v m ⟨rfl,rfl⟩;refine ae ?_;refine dK [false,true,true,true] (aa (ag Z) (aa (ag Z) (aa (bc λ_ _ _=>rfl) ab))) ?_;refine cK 13 Z<|cF Z (oH ⟨q.run,q.node,2⟩ (S.later nd.beat.toNat) (K _) (I _) h3 hl) aN ?_
  rintro v m ⟨rfl,rfl⟩;refine ae<|dK [true,true,false] (aa (ag Z) (aa (ag Z) ab))<|dE ?_
  exact bm [aG e p (S.life q nd)] rfl ⟨rfl,rfl⟩ (by unfold FK.En.life;rw[if_pos O];exact Ent.cons (Ent.drop.trans Ent.drop))
 ·
  have O:¬0<nd.beat:=ai;refine ah ?_;exact bm [aG e p (S.life q nd)] rfl ⟨rfl,rfl⟩ (by unfold FK.En.life;rw[if_neg O];exact Ent.drop.trans Ent.drop)
end Go.Y

namespace Go.Y
open Go.Proofs Go.RowKit Go.SL
variable {G:Env->Prop}
section
variable {S:FK.En} {id:Nat} {p:EA} {R:FK.Rn}
theorem mf {α:Type} (l:List (Nat×α)) (f:Nat->α->Value) (k:Nat):er (l.map λr=>(r.1,f r.1 r.2)) k=((l.find? (·.1==k)).map λr=>f k r.2):=by
 unfold er
 induction l with
 | nil=>rfl
 | cons x l E=>
  simp only[List.map_cons,List.find?_cons];cases h:x.1==k with
  | true=>
   have:x.1=k:=by simpa using h
   simp[this]
  | false=>exact E
theorem gV (h:S.getR id=some R):er (eV S p) id=some (aX (p.fb id)):=by
 unfold eV;rw[mf S.runs (λk _=>aX (p.fb k)) id];unfold FK.En.getR at h;cases hf:S.runs.find? (·.1==id) with
 | none=>rw[hf] at h;cases h
 | some x=>rfl
theorem DI (h:S.getR id=none):er (eV S p) id=none:=by
 unfold eV;rw[mf S.runs (λk _=>aX (p.fb k)) id];unfold FK.En.getR at h;cases hf:S.runs.find? (·.1==id) with
 | none=>rfl
 | some x=>rw[hf] at h;cases h
theorem lN {t:Nat}:er (dH S) t=((S.Ly.find? (·.1==t)).map λx=>iW x.2):=by
 unfold dH;rw[mf S.Ly (λ_ q=>iW q) t]
theorem tx {e:Nat} {k:Nat} {wh:Int} {s:FK.Sp} (I:S.getR id=some R) (K:R.Lv[k]?=some s) (O:S.Lx.length<=400):dZ G 154 [aX e,iW ⟨id,(k:Int),wh⟩] [aG e p S] λv m=>v=.tuple #[]/\m=[aG e p (S.ready id k)]:=by
 have T:=(gfGet.1 K).1;refine bz Tryz.func154 Z λE fr Y=>ae<|sS<|sO (cL Z Z λb3=>(sN (sQ (sZ Z (eI Z Z (bF Z (cv Z) (bF Z (bL 1 Z) ?_)))))))
 refine iJ 3 Z (aF Z) (bc λ_ _ _=>rfl) ?_;refine dr 4 Z (bL 0 Z)<|bZ Z (aF Z) (ag Z)<|bZ Z (gO (a:=id) (v:=aX (p.fb id)) Z fy Z Z (gV I)) eH<|dv 3 Z Z Z<|bZ Z (aF (v:=(p.ra id).sv R) Z) (cz I Z)<|bF Z (bL 1 Z)<|bZ Z (aF Z) (ag Z)<|bF Z (bp (z:=3) Z Z Z Z T)<|bF Z (bL 0 Z) ?_
 refine cK 14 Z<|lE (s':={s with state:=2}) I K Z Z Z Z ai Z Z ?_
 refine dK [false,false,false,false,false] ab<|dE<|sT<|sS<|bX 2 Z<|bK Z Z Z Z (by show 2<3;omega)<|sN ?_
 refine sZ Z<|eI Z Z<|dv 3 Z Z Z<|bZ Z (bR (vs:=iq ⟨id,(k:Int),0⟩) Z) (aR Z) ?_
 refine cK 4 Z<|cF Z (uN ⟨id,(k:Int),0⟩ (by exact O)) gfE1 ?_
 rintro v m ⟨rfl,rfl⟩;refine ae<|dK [false] ab<|dE ?_
 exact bm [aG e p (S.ready id k)] rfl ⟨rfl,rfl⟩ (by unfold FK.En.ready;rw[FK.rH _ I K];exact Ent.cons Ent.drop)
end
end Go.Y

namespace Go.Y
open Go.Proofs Go.RowKit Go.SL
variable {G:Env->Prop}
theorem yu (S:FK.En) (t:Nat):(dH S).eraseP (·.1==t)=dH {S with Ly:=S.Ly.eraseP (·.1==t)}:=by
 unfold dH;rw[List.eraseP_map]
 rfl
section
variable {P:Program} {E:Env} {n:Nat} {D:List Deferred} {ts:List (Nat×Value)} {l r:List HP} {Q:Exit->Act->World->Prop} {ty:TypeId} {pos:String} {af:Array Edge} {g:Option (Nat×Bool)} {t:TypeId} {x y:Operand} {e:Nat} {p:EA} {S:FK.En} {K:Act->World->Prop} [H:HasEng l e p S r]
theorem D4 {tok:Nat} {t I O:TypeId} {d:Option Tmp} (hd:d=none) (T:P.underlying t=some (.map I O)) (Y:KeyK P I Nat aV) (hx:ev ts x=some (.map (some p.tm))) (hy:ev ts y=some (aV tok))
 (h:At E n D ts (aG e p {S with Ly:=S.Ly.eraseP (·.1==tok)}::r) K):At E n D ts l (λac w=>(Oper.mk d (.call {callee:=.builtin .delete,args:=#[x,y],argTypes:=#[t,I]}) ty pos af g).wp P ac w K Q):=by
 refine al (Ent.sel H.sel)<|bl ?_
 show At E n D ts (HP.pure (ep S)::dV e (ja S p) S.Lx::cA aV p.rm (eV S p)::fw p S.runs::cA aV p.tm (dH S)::dx p.w S.now S.sets S.tms::r) _;refine vR (b:=p.tm) (a:=tok) hd T Y hx hy lp ?_;rw[yu];refine al ?_ h;refine Ent.trans ?_<|Ent.all (m:=j0 e p {S with Ly:=S.Ly.eraseP (·.1==tok)})
 exact(dd bM bM bM).trans (Ent.cons (Ent.cons (Ent.cons gfE1)))
end
section
variable {nd:FK.Node} {R:FK.Rn} {q:FK.Pl}
theorem mj {e:Nat} {p:EA} {S:FK.En} {id k:Nat} {wh:Int} {s:FK.Sp} (I:S.getR id=some R) (O:R.Lv[k]?=some s) (Y:S.tms.length<=99999):dZ G 175 [aX e,iW ⟨id,(k:Int),wh⟩] [aG e p S] λv m=>v=.pointer (some ⟨(p.ra id).gs,0+k*3,none⟩)/\m=[aG e p (S.leave id k)]:=by
 have hk:=(gfGet.1 O).1;refine bz Tryz.func175 Z λE fr hE=>ae<|sS<|sO (cL Z Z λb3=>(sB Z (sQ (sZ Z (eI Z Z (bF Z (cv Z) (bF Z (bL 1 Z) ?_)))))))
 refine iJ 3 Z (aF Z) (bc λ_ _ _=>rfl) ?_;refine dr 4 Z (bL 0 Z)<|bZ Z (aF Z) (ag Z)<|bZ Z (gO (a:=id) (v:=aX (p.fb id)) Z fy Z Z (gV I)) eH<|dv 3 Z Z Z<|bZ Z (aF (v:=(p.ra id).sv R) Z) (cz I Z)<|bF Z (bL 1 Z)<|bZ Z (aF Z) (ag Z)<|bF Z (bp (z:=3) Z Z Z Z hk)<|bF Z (aQ Z)<|dE<|sT<|sQ<|sZ Z<|eI Z Z<|dv 2 Z Z Z ?_
 refine iJ 3 Z (aF Z) (bc λ_ _ _=>rfl) ?_;refine dr 4 Z (bn Z)<|dv 2 Z Z Z<|bZ Z (aF (v:=.int .u64 s.token) Z) (gI I O Z)<|tV Z<|D4 (tok:=s.token) Z Z fy Z Z<|dK [false,false] ab<|dE<|sT<|sQ ?_
 have T:{S with Ly:=S.Ly.eraseP (·.1==s.token)}.getR id=some R:=I;refine sG<|dS 2 Z Z ?_
 refine sO<|lE (s':={s with token:=0}) T O Z Z Z Z ai Z Z ?_
 refine sN<|sQ<|sZ Z<|eI Z Z<|dv 6 Z Z Z ?_
 refine iJ 3 Z (aF Z) (bc λ_ _ _=>rfl) ?_;refine dr 4 Z (bL 0 Z)<|bZ Z (aF Z) (ag Z)<|bF Z (bL 1 Z)<|bZ Z (aF Z) (ag Z)<|bF Z (bT (cs:=#[.int .u64 id,.int .i64 (k:Int),.int .i64 1]) Z Z Z Z Z) ?_
 refine cK 9 Z<|cF Z (sF ⟨id,(k:Int),1⟩ (by exact Y)) aN ?_
 rintro v m ⟨rfl,rfl⟩;refine ae<|dK [true,true,false] (aa (ag Z) (aa (ag Z) ab))<|dE<|sT<|sQ<|sZ Z<|eI Z Z<|dv 6 Z Z Z ?_
 refine iJ 3 Z (aF Z) (bc λ_ _ _=>rfl) ?_;refine dr 4 Z (bL 0 Z)<|bZ Z (aF Z) (ag Z)<|bF Z (bL 1 Z)<|bZ Z (aF Z) (ag Z)<|bF Z (bT (cs:=#[.int .u64 id,.int .i64 (k:Int),.int .i64 2]) Z Z Z Z Z) ?_
 refine cK 9 Z<|cF Z (sF ⟨id,(k:Int),2⟩ (Nat.le_trans (List.length_filter_le _ _) (by exact Y))) aN ?_
 rintro v m ⟨rfl,rfl⟩;refine ae<|dK [true,true,false] (aa (ag Z) (aa (ag Z) ab))<|dE<|sT<|bg Z<|sB Z<|an ?_
 exact aw [aG e p (S.leave id k)] rfl Z ⟨rfl,rfl⟩ (by rw[FK.fY I O];exact Ent.cons Ent.drop)
theorem Es {P:Program} {ts:List (Nat×Value)} {K:Type} [BEq K] {enc:K->Value} {t I O:TypeId} {x y:Operand} {b:Nat} {m:List (K×Value)} {a:K} {z v:Value} {o:Bool} (T:P.underlying t=some (.map I O)) (Y:KeyK P I K enc) (hz:iM P O z) (hx:ev ts x=some (.map (some b))) (hy:ev ts y=some (enc a)) (hv:(er m a).getD z=v) (ho:(er m a).isSome=o) :
 Ev P ts (.lookup t x y true) (.tuple #[v,.bool o]) (j7 enc b m):=by
 subst hv;subst ho;exact x6 T Y hz hx hy
theorem yj {e:Nat} {p:EA} {S:FK.En}:dZ G 69 [aX e] [aG e p S] λv m=>v=.bool (decide (0<S.Lx.length))/\m=[aG e p S]:=by
 refine bz Tryz.func69 Z λE fr I=>ae<|sS<|sB Z<|sS<|dS 3 Z Z ?_
 refine bV Z sc aN ?_;refine ae<|sP (eS Z Z Z)<|sB Z<|an ?_
 exact aw [_] rfl Z ⟨by congr 1;simp,rfl⟩ aN
theorem s6 {e:Nat} {p:EA} {S:FK.En} (t:Nat):dZ G 127 [aX e,aV t] [aG e p S] λv m=>v=.bool (S.Ly.any (·.1==t))/\m=[aG e p S]:=by
 have O:(er (dH S) t).isSome=S.Ly.any (·.1==t):=by rw[lN];simp[List.isSome_find?]
 obtain⟨q,I⟩:∃q:FK.Pl,(er (dH S) t).getD (iW ⟨0,0,0⟩)=iW q:=by
  rw[lN];cases S.Ly.find? (·.1==t) with
  | none=>exact⟨⟨0,0,0⟩,rfl⟩
  | some x=>exact⟨x.2,rfl⟩
 refine bz Tryz.func127 Z λE fr T=>ae<|sS<|sB Z<|sS<|dS 2 Z Z ?_
 refine cE (aF (v:=.map (some p.tm)) Z) (bc λ_ _ _=>rfl) ?_;refine sM Z<|cE (Es (m:=dH S) Z fy Z Z Z I O) nN<|sM Z<|bG Z Z<|bG Z Z<|sO (cX (z:=.agg #[.int .u64 0,.int .i64 0,.int .i64 0]) Z λY=>?_)
 refine sO<|aZ Z (m:=3) Z Z Z Z fx Df ?_
 exact sB Z<|bg Z<|sB Z<|an<|aw [aG e p S] rfl Z ⟨rfl,rfl⟩ Ent.drop
theorem DG {e:Nat} {p:EA} {S:FK.En} (I:Nat):dZ G 147 [aX e,aV I] [aG e p S] λv m=>v=.tuple #[]/\m=[aG e p {S with seed:=I}]:=by
 refine bz Tryz.func147 Z λE fr O=>ae<|sG<|sM Z<|dS 0 Z Z ?_
 refine sO<|kZ (S:=S) (S':={S with seed:=I}) Z Z Z ai Z (λ_ _ _=>rfl) Z Z Z Z Z Z ?_
 exact aq<|bm [aG e p {S with seed:=I}] rfl ⟨rfl,rfl⟩ aN
theorem BO {e:Nat} {p:EA} {S:FK.En}:dZ G 68 [aX e] [aG e p S] λv m=>v=.tuple #[.int .u64 S.now,.int .u64 S.seed]/\m=[aG e p S]:=by
 refine bz Tryz.func68 Z λE fr I=>ae<|sS<|sA Z<|sB Z<|sQ<|sZ Z<|eI Z Z<|dv 6 Z Z Z ?_
 refine iJ 3 Z (aF Z) (bc λ_ _ _=>rfl) ?_;refine dr 5 Z (bn Z)<|dv 0 Z Z Z ?_
 refine iJ 8 Z (aF Z) (bc λ_ _ _=>rfl) ?_;refine cK 4 Z<|cF Z rc aN ?_
 rintro v m ⟨rfl,rfl⟩;refine ae ?_;refine dK [true,false] (aa (bc λ_ _ _=>rfl) ab) ?_;exact dr 9 Z (aQ Z)<|bF Z (aQ Z)<|dE<|sT<|an<|db [aG e p S] rfl Z Z ⟨rfl,rfl⟩ aN
theorem vb {S:FK.En}:(S.life q nd).runs=S.runs:=by
 unfold FK.En.life
 split<;>rfl
theorem life_R {S:FK.En} {id:Nat}:(S.life q nd).getR id=S.getR id:=by
 unfold FK.En.getR;rw[vb]
theorem EL {e:Nat} {p:EA} {S:FK.En} {t id k:Nat} {wh:Int} (I:(S.Ly.find? (·.1==t)).map (·.2)=some ⟨id,(k:Int),wh⟩) (O:S.getR id=some R) (T:R.fl.Lw[k]?=some nd) (h1:S.now<=4611686018427387904) (h2:nd.beat<=4611686018427387904) (h3:S.sets<9223372036854775807) (hl:S.tms.length<=99998):dZ G 142 [aX e,aV t] [aG e p S] λv m=>v=.tuple #[]/\m=[aG e p (S.life ⟨id,(k:Int),wh⟩ nd)]:=by
 have hk:=(gfGet.1 T).1;have Y:er (dH S) t=some (iW ⟨id,(k:Int),wh⟩):=by
  rw[lN];cases hf:S.Ly.find? (·.1==t) with
  | none=>rw[hf] at I;cases I
  | some x=>rw[hf] at I;injection I with I;simp only[Option.map_some,I]
 refine bz Tryz.func142 Z λE fr hE=>ae ?_;refine eK (λw hw=>m7 O T hw) λhA=>?_;obtain⟨A,c,hu,-⟩:=hA;refine sS<|dS 2 Z Z ?_
 refine cE (aF (v:=.map (some p.tm)) Z) (bc λ_ _ _=>rfl) ?_;refine sM Z<|cE (gO (m:=dH S) Z fy Z Z Y) nN<|sO (cX (z:=.agg #[.int .u64 0,.int .i64 0,.int .i64 0]) Z λb4=>?_)
 refine sO<|aZ Z (m:=3) Z Z Z Z fx Df ?_
 refine sN<|sZ Z<|eI Z Z<|bZ Z (bR (vs:=iq ⟨id,(k:Int),wh⟩) Z) (aR Z)<|cJ Z Z<|dv 1 Z Z Z ?_
 refine iJ 5 Z (aF Z) (bc λ_ _ _=>rfl) ?_;refine dr 6 Z (bL 0 Z)<|bZ Z (aF Z) (ag Z)<|bZ Z (gO (a:=id) (v:=aX (p.fb id)) Z fy Z Z (gV O)) eH<|dv 0 Z Z Z<|bF Z (bL 1 Z)<|bZ Z (aF (v:=(p.ra id).nv R) Z) (cz O Z)<|bF Z (bL 1 Z)<|bZ Z (aF Z) (ag Z)<|bF Z (bp (z:=7) Z Z Z Z hk)<|bZ Z (bR (vs:=aP nd (.slice A nd.after.length c)) Z) (fG O T hu) ?_
 refine cK 17 Z<|cF Z (vc ⟨id,(k:Int),wh⟩ nd (.slice A nd.after.length c) h1 h2 h3 hl) gfE1 ?_
 rintro v m ⟨rfl,rfl⟩;refine ae ?_;refine dK [false,true,true,true,true,true,false] (aa (ag Z) (aa (cz (life_R.trans O) Z) (aa (Ey vb) (aa (ag Z) (aa (bc (S:=S.life ⟨id,(k:Int),wh⟩ nd) λ_ _ _=>rfl) ab))))) ?_;exact dE<|bm [aG e p (S.life ⟨id,(k:Int),wh⟩ nd)] rfl ⟨rfl,rfl⟩<|Ent.cons Ent.drop
end
end Go.Y

namespace Go.Y
open Go.Proofs Go.RowKit Go.SL
variable {G:Env->Prop}
theorem hZ {b:Nat} {xs:List Int} {r:List HP} (h:xs.length<=maxLen):Ent (blk b 3 (bx xs).toArray::r) (aU (.slice (some ⟨b,0,none⟩) xs.length xs.length) xs::r):=
 dI (cm _) h (by simp[bx]) (by rw[List.take_of_length_le (by simp[bx])])
abbrev zS (fl:FK.Flow):Prop:=∀nd∈fl.Lw,∀x∈nd.after,0<=x/\x<(fl.Lw.length:Int)
theorem uA {e:Nat} {p:EA} {S:FK.En} {id:Nat} {R:FK.Rn} (hR:S.getR id=some R) (f9:R.Lv.length=R.fl.Lw.length) (mt:zS R.fl) (hn:R.fl.Lw.length<=100) (hq:S.Lx.length<=300):dZ G 124 [aX e,aV id] [aG e p S] λv m=>v=.tuple #[]/\m=[aG e p (S.wake id)]:=by
 refine bz Tryz.func124 Z λE fr hE=>ae<|ze<|sS<|dS 1 Z Z ?_
 refine cE (aF (v:=.map (some p.rm)) Z) (bc λ_ _ _=>rfl) ?_;refine sM Z<|cE (gO (m:=eV S p) Z fy Z Z (gV hR)) eH<|sB Z<|sQ<|zg<|sT<|sS<|dS 0 Z Z<|bX 1 Z<|cE (aF (v:=(p.ra id).nv R) Z) (cz hR Z)<|sP (bh Z Z)<|sM Z<|sN<|aj ?_
 refine aL (X:=Nat) (λk=>[(21,.int .i64 k),(20,.int .i64 R.fl.Lw.length),(19,(p.ra id).nv R),(4,aX (p.fb id)),(0,aX e),(1,aV id)]) (λk=>aG e p (S.wakeN id k)::fr) (λk=>k<=R.fl.Lw.length) (λk=>R.fl.Lw.length-k) 0 (Nat.zero_le _) cf aN ?_;intro k hk;refine sS<|sP (bB Z Z Z)<|sN<|sQ ?_
 refine aA Z (λt8=>?_) λt8=>?_
 ·
  have O:k<R.fl.Lw.length:=ai;obtain⟨Y,K,T,LE⟩:=FK.rP hR k;obtain⟨nd,hnd⟩:∃nd,R.fl.Lw[k]?=some nd:=⟨R.fl.Lw[k],by simp[O]⟩;have I:Y.fl.Lw[k]?=some nd:=by rw[T.fl];exact hnd
  obtain⟨s,hs⟩:∃s,Y.Lv[k]?=some s:=⟨Y.Lv[k]'(by rw[T.len];omega),by simp[T.len,f9,O]⟩;refine eK (λw hw=>m7 K I hw) λhA=>?_;obtain⟨A,c,hu,In,LB,LF,t6⟩:=hA;replace t6:c<=9223372036854775807:=t6;refine ah<|sT<|sQ<|aj<|bg Z<|sP (bp (z:=7) Z Z Z Z O)<|cE (bR (vs:=aP nd (.slice A nd.after.length c)) Z) (fG K I hu)<|sO (cX (z:=.agg #[.int .i64 0,.int .i64 0,.int .i64 0,.int .i64 0,.int .i64 0,.int .i64 0,.slice none 0 0]) Z λb6=>(sA Z ?_))
  refine sO<|aZ (vs:=aP nd (.slice A nd.after.length c)) Z (m:=7) Z Z Z Z (by simp[aP,Value.oneCell']) (by show 0+7<=7;omega) ?_
  refine al (l':=blk b6 58 (aP nd (.slice A nd.after.length c)).toArray::aG e p (S.wakeN id k)::fr) aN ?_;refine sN<|sQ<|bg Z<|sM Z<|sO (eE Z Z Z Z Z Z λwf=>?_)
  refine bV Z (rh [1] (some ⟨wf,0,none⟩) 1 K hs) ((aY dj .head).trans (Ent.cons (hZ (xs:=[1]) (show 1<=9223372036854775807 by omega)))) ?_;refine ae<|sP (dp Z Z)<|sN ?_
  refine dQ Z (λd7=>?_) λd7=>?_
  ·
   have hs1:s.state≠1:=by simpa using d7
   refine aK<|av<|ao<|sT<|sG<|sP (aT (r:=((k+1:Nat):Int)) Z Z eg)<|sM Z<|aq ?_
   exact aC (k+1) O ai cf (by
    rw[FK.iR,FK.mY K,FK.nK hs I,if_neg (by simp[hs1])];exact Ent.cons Ent.drop)
  ·
   have hs1:s.state=1:=by simpa using d7
   refine ah<|sT<|sQ<|sS<|bX 6 Z<|aE Z Z Z Z<|sP (bh Z Z)<|sM Z<|sN<|aj ?_
   refine aL (X:=Nat) (λj=>[(34,.int .i64 j),(33,.int .i64 nd.after.length),(32,.slice A nd.after.length c),(21,.int .i64 k),(20,.int .i64 R.fl.Lw.length),(19,(p.ra id).nv R),(4,aX (p.fb id)),(0,aX e),(1,aV id),(5,.int .i64 k)]) (λj=>aG e p (S.wakeN id k)::fr) (λj=>j<=nd.after.length/\∀i x,i<j->nd.after[i]?=some x->FK.df Y.Lv x.toNat 5=true) (λj=>nd.after.length-j) 0 ⟨Nat.zero_le _,λi x h=>by omega⟩ cf (Ent.cons Ent.drop) ?_;rintro j ⟨hj,d6⟩;refine sS<|sP (bB Z Z Z)<|sN<|sQ ?_
   refine aA Z (λBT=>?_) λBT=>?_
   ·
    have f7:j<nd.after.length:=ai;obtain⟨g,rfl⟩:∃g,A=some ⟨g,0,none⟩:=by
     cases A with
     | none=>have:=(In rfl).1;omega
     | some ad=>obtain⟨g,rfl⟩:=LB ad rfl;exact⟨g,rfl⟩
    obtain⟨x,hx⟩:∃x,nd.after[j]?=some x:=⟨nd.after[j],by simp[f7]⟩;obtain⟨LG,LH⟩:=mt nd (du hnd) x (du hx);obtain⟨u,rfl⟩:∃u:Nat,x=(u:Int):=⟨x.toNat,ai⟩;obtain⟨s2,d9⟩:∃s2,Y.Lv[u]?=some s2:=⟨Y.Lv[u]'(by rw[T.len];omega),by simp⟩;refine ah<|sT<|sQ<|aj<|sS<|sP (bp (z:=1) Z Z Z Z f7)<|cE (aF (v:=.int .i64 (u:Int)) Z) (yl K I hu hx)<|sB Z<|bg Z<|sM Z<|sO (eE Z Z Z Z Z Z λFd=>?_)
    refine bV Z (rh [5] (some ⟨Fd,0,none⟩) 1 K d9) ((aY bM .head).trans (Ent.cons (hZ (xs:=[5]) (show 1<=9223372036854775807 by omega)))) ?_;refine ae<|sP (dp Z Z)<|sN ?_
    refine dQ Z (λd8=>?_) λd8=>?_
    ·
     have f8:s2.state≠5:=by simpa using d8
     have LC:(nd.after.all λu=>FK.df Y.Lv u.toNat 5)=false:=by
      rw[List.all_eq_false];exact⟨_,du hx,by rw[Int.toNat_natCast,FK.gc d9];simpa using f8⟩
     refine aK<|eX Z<|av<|au<|eX Z<|av<|ao<|sT<|sG<|sP (aT (r:=((k+1:Nat):Int)) Z Z eg)<|sM Z<|aq ?_
     exact aC (k+1) O ai cf (by
      rw[FK.iR,FK.mY K,FK.nK hs I,LC,if_neg cP];exact aN)
    ·
     have f8:s2.state=5:=by simpa using d8
     refine ah<|am<|sT<|sG<|sP (aT (r:=((j+1:Nat):Int)) Z Z eg)<|sM Z<|aq ?_
     exact aC (j+1) ⟨f7,λi y hi hy=>(by
      rcases Nat.lt_succ_iff_lt_or_eq.1 hi with h|rfl
      · exact d6 i y h hy
      · rw[hx] at hy;injection hy with hy;subst hy;rw[Int.toNat_natCast,FK.gc d9];simpa using f8)⟩ ai ⟨rfl,rfl,rfl,rfl,rfl,rfl,rfl,rfl,rfl,rfl,trivial⟩ aN
   ·
    have t7:(nd.after.all λu=>FK.df Y.Lv u.toNat 5)=true:=by
     rw[List.all_eq_true];intro y hy;obtain⟨i,hi,rfl⟩:=List.getElem_of_mem hy;exact d6 i _ ai<|List.getElem?_eq_getElem hi
    refine aK<|av<|au<|ao<|sT<|sG<|sM Z<|sM Z<|cG Z (bT (cs:=#[.int .u64 id,.int .i64 (k:Int),.int .i64 0]) Z Z Z Z Z) ?_
    refine bV Z (tx (wh:=0) K hs ai) aN ?_;refine ae<|aq<|am<|sT<|sG<|sP (aT (r:=((k+1:Nat):Int)) Z Z eg)<|sM Z<|aq ?_
    exact aC (k+1) O ai cf (by
     rw[FK.iR,FK.mY K,FK.nK hs I,t7,if_pos (by simp[hs1])];exact aN)
 ·
  have LD:k=R.fl.Lw.length:=ai;refine aK<|av<|au<|ao<|ui<|bm [aG e p (S.wake id)] rfl ⟨rfl,rfl⟩ ?_
  have:S.wake id=S.wakeN id k:=by unfold FK.En.wake;rw[hR,LD]
  rw[this];exact aN
end Go.Y

namespace FK
theorem qE {q:List Pl} {x:Pl} (id:Nat):(q++[x]).filter (λp=>p.run !=id)=q.filter (λp=>p.run !=id)++if x.run !=id then[x] else[]:=by
 rw[List.filter_append];simp[List.filter_cons]
end FK
namespace Go.Y
open Go.Proofs
open Go Go.RowKit Go.SL
variable {G:Env->Prop}
theorem neI (a b:Nat):(a !=b)=decide ((a:Int)≠(b:Int)):=by
 by_cases h:a=b
 · subst h;simp
 · rw[zR ai];simpa using h
theorem wW (c id:Nat) (q:FK.Pl):dZ G 204 [iW q,aX c] [blk c 30 #[aV id]] λv m=>v=.bool (q.run !=id)/\m=[blk c 30 #[aV id]]:=by
 refine bz Tryz.func204 Z λE fr I=>ae<|sS<|sO (cL Z Z λb2=>(sB Z (sS (bX 0 Z (aE Z Z Z Z (aE Z Z Z Z (sP (dq Z Z Z) (sB Z (an ?_)))))))))
 exact aw [_] rfl Z ⟨by rw[neI],rfl⟩ Ent.drop
theorem KL {E:Env} {l r:List HP} {e:Nat} {C:EC} {q:List FK.Pl} (s:Sel (dV e C q) l r):∀w,Holds E w l->cR ⟨e,5,none⟩ (.int .i64 q.length) w:=λw hw=>by
 obtain⟨F1,_,_,_,_,I,_⟩:=(hw.sel s).star;obtain⟨⟨rv,N,f,rg⟩,K⟩:=I;have O:(oC e C rv f q.length).sat w F1:=Star.mem (l:=[HP.pure (FK.RingOk N f q rg),oC e C rv f q.length,row 157 3 rv N (rV N rg)]) K cP;have:=O.2;simp only[cR,World.cell?,this]
 rfl
theorem Eh {q:List FK.Pl} (e:Nat) (C:EC) (c id:Nat) (hq:q.length<=400):dZ G 203 [qP e,.func (.func 204) #[] #[aX c]] [dV e C q,blk c 30 #[aV id]] λv m=>v=.tuple #[]/\m=[dV e C (q.filter λp=>p.run !=id)]:=by
 refine bz Tryz.func203 Z λE fr T=>az<|sS<|dS 2 Z Z<|cE (aF (v:=.int .i64 q.length) Z) (KL .head)<|sB Z<|aj ?_
 refine aL (X:=List FK.Pl×List FK.Pl) (λx=>[(4,.int .i64 x.2.length),(0,qP e),(1,.func (.func 204) #[] #[aX c])]) (λx=>dV e C (x.2++x.1.filter λp=>p.run !=id)::blk c 30 #[aV id]::fr) (λx=>x.1++x.2=q) (λx=>x.2.length) ([],q) Z cf (by
 show Ent _ (dV e C (q++[])::_);rw[List.append_nil];exact aN) ?_
 rintro⟨done,left⟩ I;simp only at I ⊢;refine sQ<|bg Z<|sP (eS Z Z Z)<|sN ?_
 refine aA Z (λK=>?_) λK=>?_
 ·
  obtain⟨x,left,rfl⟩:∃x l,left=x::l:=by
   cases left with
   | nil=>simp at K
   | cons x l=>exact⟨x,l,rfl⟩
  have d6:done.length+(left.length+1)=q.length:=by rw[<-I];simp
  have d7:=List.length_filter_le (λp:FK.Pl=>p.run !=id) done;refine ah<|sT<|sQ<|aj<|bg Z ?_
  refine bV Z (uO e C) aN ?_;refine ae<|sM Z<|bG Z Z<|bG Z Z<|sO (cX (z:=.agg #[.int .u64 0,.int .i64 0,.int .i64 0]) Z λY=>?_)
  refine sO<|aZ (vs:=iq x) Z (m:=3) Z Z Z Z fx (by show 0+3<=3;omega) ?_
  refine al (l':=blk Y 157 (iq x).toArray::dV e C (left++done.filter λp=>p.run !=id)::blk c 30 #[aV id]::fr) aN ?_;refine sB Z<|bg Z<|cE (bR (vs:=iq x) Z) (aR Z) ?_
  refine sO<|ct Z Z Z Z T (wW c id x) gfE2 ?_
  rintro v m ⟨rfl,rfl⟩;refine ae<|sN ?_
  refine dQ Z (λO=>?_) λO=>?_
  ·
   refine sG<|sM Z<|cE (bR (vs:=iq x) Z) (aR Z) ?_
   refine bV Z (tw e C x (by rw[List.length_append];omega)) gfE2 ?_;refine ae<|aq<|am<|sT<|sG<|cG Z (cH (r:=(left.length:Int)) Z Z (by rw[iI (by simp;omega)];simp))<|sA Z<|aq ?_
   exact aC (done++[x],left) (by rw[<-I];simp) cP cf (by
    show Ent _ (dV e C (left++(done++[x]).filter λp=>p.run !=id)::_);rw[FK.qE,if_pos O,<-List.append_assoc];exact Ent.cons (Ent.cons Ent.drop))
  ·
   refine ah<|am<|sT<|sG<|cG Z (cH (r:=(left.length:Int)) Z Z (by rw[iI (by simp;omega)];simp))<|sA Z<|aq ?_
   exact aC (done++[x],left) (by rw[<-I];simp) cP cf (by
    show Ent _ (dV e C (left++(done++[x]).filter λp=>p.run !=id)::_);rw[FK.qE,if_neg (by simp[O]),List.append_nil];exact gfE2.trans (Ent.cons (Ent.cons Ent.drop)))
 ·
  obtain rfl:left=[]:=by
   cases left with
   | nil=>rfl
   | cons x l=>simp at K
  rw[List.append_nil] at I;subst I;exact aK<|av<|au<|ao<|bm [_] rfl ⟨rfl,rfl⟩<|Ent.cons Ent.drop
theorem Hb {e:Nat} {p:EA} {S:FK.En} (c id:Nat) (I:S.Lx.length<=400):dZ G 203 [qP e,.func (.func 204) #[] #[aX c]] [aG e p S,blk c 30 #[aV id]] λv m=>v=.tuple #[]/\m=[aG e p {S with Lx:=S.Lx.filter λp=>p.run !=id}]:=by
 refine Does.part (c:=[HP.pure (ep S),cA aV p.rm (eV S p),fw p S.runs,cA aV p.tm (dH S),dx p.w S.now S.sets S.tms]) (Eh e (ja S p) c id I) ?_ ?_
 · refine(Ent.unall (m:=j0 e p S)).trans ((aY bM tY).trans ?_)
   exact aN
 · rintro v m ⟨rfl,rfl⟩
   exact⟨_,⟨rfl,rfl⟩,gfE1.trans (Ent.all (m:=j0 e p {S with Lx:=S.Lx.filter λp=>p.run !=id}))⟩
section
variable {P:Program} {E:Env} {n:Nat} {D:List Deferred} {ts:List (Nat×Value)} {l:List HP} {Q:Exit->Act->World->Prop} {i:Nat} {ty:TypeId} {pos:String} {af:Array Edge} {g:Option (Nat×Bool)}
theorem xI {t e:TypeId} {z:Value} {x y:Operand} {v u:Value} {K:Act->World->Prop} (hi:Nat.blt i n=true) (O:P.underlying t=some (.slice e)) (T:dm P e 1) (I:iM P e z) (Y:ev ts x=some v) (hv:v.oneCell'=true) (hy:ev ts y=some u) (hu:u.oneCell'=true)
 (h:∀b,At E n D ((i,.slice (some ⟨b,0,none⟩) 2 2)::ts) (blk b e #[v,u]::l) K):At E n D ts l (λa w=>(Oper.mk (some i) (.buildSlice t 2 #[(0,x),(1,y)]) ty pos af g).wp P a w K Q):=
 dB (ps:=[(0,x),(1,y)]) (vs:=[v,u]) (cs:=#[v,u]) hi O T I ai ai (by simp[evs,Y,hy]) (by
  have e1:Array.range (2*1)=#[0,1]:=rfl;rw[e1];simp[Instr.fill,kv hv,kv hu]) h
end
theorem nh {e:Nat} {p:EA} {S:FK.En} {id:Nat} {st:Int} {R:FK.Rn} (hR:S.getR id=some R) (hn:R.Lv.length<=100) (hq:S.Lx.length<=400) (hl:S.tms.length<=99999) (f8:S.ends<9223372036854775807):dZ G 178 [aX e,aV id,.int .i64 st] [aG e p S] λv m=>v=.tuple #[]/\m=[aG e p (S.finish id st)]:=by
 refine bz Tryz.func178 Z λE fr hE=>ae<|sS<|sO (cL Z Z λb4=>(sN (sQ (sZ Z (eI Z Z (bF Z (cv Z) (bF Z (bL 1 Z) ?_)))))))
 refine iJ 3 Z (aF Z) (bc λ_ _ _=>rfl) ?_;refine iJ 4 Z (aF Z) (ag Z)<|bZ Z (gO (a:=id) (v:=aX (p.fb id)) Z fy Z Z (gV hR)) eH<|bF Z (aQ Z)<|dE<|sT<|sS<|dS 9 Z Z ?_
 refine cE (aF (v:=.int .u64 S.ends) Z) (bc λ_ _ _=>rfl) ?_;refine sP (aT (r:=((S.ends+1:Nat):Int)) Z Z (by rw[mM];omega))<|dA Z<|bX 9 Z ?_
 refine sO<|kZ (S:=S) (S':={S with ends:=S.ends+1}) Z Z Z ai Z (λ_ _ _=>rfl) Z Z Z Z Z Z ?_
 refine sN<|sQ ?_
 obtain⟨S1,I⟩:∃S1,S1={S with ends:=S.ends+1}:=⟨_,rfl⟩;have d7:S1.getR id=some R:=by rw[I];exact hR
 have t7:S1.ends=S.ends+1:=by rw[I]
 rw[<-I];refine sG<|sM Z<|sM Z<|sM Z<|dS 9 Z Z ?_
 refine cE (aF (v:=.int .u64 ((S.ends+1:Nat):Int)) Z) (bc λ_ _ _=>by rw[<-t7];rfl) ?_;refine dA Z<|bX 2 Z ?_
 refine sO<|Cr (R':={R with state:=st}) d7 Z Z Z ai Z Z Z Z ?_
 refine dA Z<|bX 4 Z ?_
 refine sO<|Cr (S:=S1.setR id {R with state:=st}) (R:={R with state:=st}) (R':={R with state:=st,ended:=S.ends+1}) (FK.dG d7) Z Z Z ai Z Z Z Z ?_
 refine sN<|sQ<|sZ Z<|eI Z Z<|dv 6 Z Z Z ?_
 refine iJ 3 Z (aF Z) (bc λ_ _ _=>rfl) ?_;refine iJ 4 Z (aF Z) (ag Z)<|bF Z (bT (cs:=#[.int .u64 id,.int .i64 (-1),.int .i64 0]) Z Z Z Z Z) ?_
 refine cK 6 Z<|cF Z (sF ⟨id,-1,0⟩ (by rw[I];exact hl)) aN ?_
 rintro v m ⟨rfl,rfl⟩;refine ae<|dK [true,false] (aa (ag Z) ab)<|dE<|sT<|sQ<|sQ ?_
 obtain⟨T,hT⟩:∃T,T=(S1.setR id {R with state:=st,ended:=S.ends+1}).unset ⟨id,-1,0⟩:=⟨_,rfl⟩;have d9:T.getR id=some {R with state:=st,ended:=S.ends+1}:=by rw[hT];exact FK.dG d7
 have In:T.tms.length<=99999:=by rw[hT,I];exact Nat.le_trans (List.length_filter_le _ _) hl
 have t8:T.Lx=S.Lx:=by rw[hT,I];rfl
 rw[FK.gJ,<-hT];refine sG<|dS 3 Z Z<|cE (aF (v:=(p.ra id).sv R) Z) (cz d9 Z)<|sP (bh Z Z)<|sM Z<|sN<|aj ?_
 refine aL (X:=Nat) (λk=>[(45,.int .i64 k),(44,.int .i64 R.Lv.length),(6,aX (p.fb id)),(0,aX e),(4,aX b4)]) (λk=>aG e p (T.endN id k)::blk b4 30 #[aV id]::fr) (λk=>k<=R.Lv.length) (λk=>R.Lv.length-k) 0 (Nat.zero_le _) cf aN ?_;intro k hk;obtain⟨R1,K,d6,Fd,t6⟩:=FK.CV d9 k hk;have BT:R1.Lv.length=R.Lv.length:=d6.len;refine sS<|sP (bB Z Z Z)<|sN<|sQ ?_
 refine aA Z (λf9=>?_) λf9=>?_
 ·
  have f7:k<R.Lv.length:=ai;obtain⟨s,O⟩:∃s,R1.Lv[k]?=some s:=⟨R1.Lv[k]'ai,by simp⟩;refine ah<|sT<|sQ<|aj<|bg Z<|sB Z<|bg Z<|aE Z Z Z Z<|cG Z (bT (cs:=#[.int .u64 id,.int .i64 (k:Int),.int .i64 0]) Z Z Z Z Z) ?_
  refine bV Z (mj (wh:=0) K O ai) aN ?_;refine ae<|sB Z<|bg Z<|sM Z<|sO (xI Z Z Z Z Z Z Z Z λmt=>?_)
  refine bV Z (rh [5,6] (some ⟨mt,0,none⟩) 2 (FK.je K O) (FK.dM O)) ((aY bM .head).trans (Ent.cons (hZ (xs:=[5,6]) (show 2<=9223372036854775807 by omega)))) ?_;refine ae<|sP (dp Z Z)<|sN ?_
  refine dQ Z (λY=>?_) λY=>?_
  ·
   have d8:¬(s.state=5\/s.state=6):=by simpa using Y
   refine sG<|dS 0 Z Z ?_
   refine sO<|lE (S:=(T.endN id k).leave id k) (R:=R1.setS k {s with token:=0}) (s:={s with token:=0}) (j:=0) (s':={s with token:=0,state:=7}) (FK.je K O) (FK.dM O) Z Z Z Z ai Z Z ?_
   refine aq<|am<|sT<|sG<|sP (aT (r:=((k+1:Nat):Int)) Z Z eg)<|sM Z<|aq ?_
   exact aC (k+1) f7 ai cf (by
    rw[FK.nP,FK.rs K O];unfold FK.ij;rw[if_neg d8];exact aN)
  ·
   have d8:s.state=5\/s.state=6:=Decidable.byContradiction λh=>by simp only[not_or] at h;simp[h.1,h.2] at Y
   refine ah<|am<|sT<|sG<|sP (aT (r:=((k+1:Nat):Int)) Z Z eg)<|sM Z<|aq ?_
   exact aC (k+1) f7 ai cf (by
    rw[FK.nP,FK.rs K O];unfold FK.ij;rw[if_pos d8,FK.nE,FK.Bg K O];exact aN)
 ·
  have wf:k=R.Lv.length:=ai;refine aK<|av<|au<|ao<|sT<|sG<|dS 3 Z Z ?_
  refine sP (ew Z Z) ?_;refine bV Z (Hb b4 id (by rw[t6,t8];exact hq)) aN ?_;refine ae<|aq<|bm [aG e p (S.finish id st)] rfl ⟨rfl,rfl⟩ ?_
  rw[FK.vo hR,wf,hT,I];exact aN
end Go.Y

namespace FK
theorem uM {S:En} {id:Nat} {R:Rn} (E:S.getR id=some R):S.settle id=if R.Lv.all over then S.finish id (if R.Lv.all λs=>s.state==5 then 2 else 3) else S:=by
 unfold En.settle;rw[E]
theorem IC {S:En} {id:Nat} {R:Rn} (E:S.getR id=some R):∃R',(S.wake id).getR id=some R'/\SameR R R'/\(S.wake id).Lx.length<=S.Lx.length+R.fl.Lw.length:=by
 have:S.wake id=S.wakeN id R.fl.Lw.length:=by unfold En.wake;rw[E]
 rw[this];exact rP E _
theorem GM (S:En) (id k:Nat) (g:Sp->Sp):(S.onS id k g).now=S.now/\(S.onS id k g).seed=S.seed/\(S.onS id k g).tms=S.tms/\(S.onS id k g).sets=S.sets/\(S.onS id k g).Ly=S.Ly/\(S.onS id k g).ends=S.ends/\(S.onS id k g).Lt=S.Lt/\(S.onS id k g).Ls=S.Ls:=by
 unfold En.onS
 split
 · split<;>exact⟨rfl,rfl,rfl,rfl,rfl,rfl,rfl,rfl⟩
 · exact⟨rfl,rfl,rfl,rfl,rfl,rfl,rfl,rfl⟩
theorem Ag (S:En) (id k:Nat):(En.wakeK id S k).now=S.now/\(En.wakeK id S k).seed=S.seed/\(En.wakeK id S k).tms=S.tms/\(En.wakeK id S k).sets=S.sets/\(En.wakeK id S k).Ly=S.Ly/\(En.wakeK id S k).ends=S.ends/\(En.wakeK id S k).Lt=S.Lt/\(En.wakeK id S k).Ls=S.Ls:=by
 unfold En.wakeK
 split
 · split
   · exact GM S id k _
   · exact⟨rfl,rfl,rfl,rfl,rfl,rfl,rfl,rfl⟩
 · exact⟨rfl,rfl,rfl,rfl,rfl,rfl,rfl,rfl⟩
theorem s8 (S:En) (id:Nat):∀n,(S.wakeN id n).now=S.now/\(S.wakeN id n).seed=S.seed/\(S.wakeN id n).tms=S.tms/\(S.wakeN id n).sets=S.sets/\(S.wakeN id n).Ly=S.Ly/\(S.wakeN id n).ends=S.ends/\(S.wakeN id n).Lt=S.Lt/\(S.wakeN id n).Ls=S.Ls
 | 0=>⟨rfl,rfl,rfl,rfl,rfl,rfl,rfl,rfl⟩
 | n+1=>by
  rw[iR];obtain⟨a,b,c,d,e,f,g,h⟩:=Ag (S.wakeN id n) id n;obtain⟨E,I,K,O,T,Y,g',h'⟩:=s8 S id n;exact⟨a.trans E,b.trans I,c.trans K,d.trans O,e.trans T,f.trans Y,g.trans g',h.trans h'⟩
theorem uz (S:En) (id:Nat):(S.wake id).now=S.now/\(S.wake id).seed=S.seed/\(S.wake id).tms=S.tms/\(S.wake id).sets=S.sets/\(S.wake id).Ly=S.Ly/\(S.wake id).ends=S.ends/\(S.wake id).Lt=S.Lt/\(S.wake id).Ls=S.Ls:=by
 unfold En.wake
 split
 · exact s8 S id _
 · exact⟨rfl,rfl,rfl,rfl,rfl,rfl,rfl,rfl⟩
end FK
namespace Go.Y
open Go.Proofs
open Go Go.RowKit Go.SL
variable {G:Env->Prop}
theorem qp {e:Nat} {p:EA} {S:FK.En} {id:Nat} {R:FK.Rn} (hR:S.getR id=some R) (hn:R.Lv.length<=100) (hq:S.Lx.length<=400) (hl:S.tms.length<=99999) (d6:S.ends<9223372036854775807):dZ G 176 [aX e,aV id] [aG e p S] λv m=>v=.tuple #[]/\m=[aG e p (S.settle id)]:=by
 refine bz Tryz.func176 Z λE fr hE=>ae<|sS<|dS 1 Z Z ?_
 refine cE (aF (v:=.map (some p.rm)) Z) (bc λ_ _ _=>rfl) ?_;refine sM Z<|cE (gO (m:=eV S p) Z fy Z Z (gV hR)) eH<|sB Z<|sS<|sB Z<|sQ<|sS<|dS 3 Z Z<|cE (aF (v:=(p.ra id).sv R) Z) (cz hR Z)<|sP (bh Z Z)<|sM Z<|aq ?_
 refine sT<|aj ?_
 refine aL (X:=Nat) (λk=>[(18,.int .i64 k),(17,.int .i64 R.Lv.length),(5,.int .i64 (if (R.Lv.take k).all (λs=>s.state==5) then 2 else 3)),(4,aX (p.fb id)),(0,aX e),(1,aV id)]) (λ_=>aG e p S::fr) (λk=>k<=R.Lv.length/\(R.Lv.take k).all FK.over=true) (λk=>R.Lv.length-k) 0 ⟨Nat.zero_le _,by simp⟩ cf aN ?_;rintro k ⟨hk,K⟩;refine sS<|sP (bB Z Z Z)<|sN<|sQ ?_
 refine aA Z (λd8=>?_) λd8=>?_
 ·
  have Y:k<R.Lv.length:=ai;obtain⟨s,hs⟩:∃s,R.Lv[k]?=some s:=⟨R.Lv[k],by simp[Y]⟩;have O:R.Lv.take (k+1)=R.Lv.take k++[s]:=by rw[List.take_add_one,hs];rfl
  refine ah<|sT<|sQ<|aj<|bg Z<|sB Z<|sS<|dS 3 Z Z<|cE (aF (v:=(p.ra id).sv R) Z) (cz hR Z)<|cG Z (bp (z:=3) Z Z Z Z Y)<|bX 0 Z<|cE (aF (v:=.int .i64 s.state) Z) (gI hR hs Z) ?_
  refine sN<|aj<|sS<|sP (bC Z Z Z)<|sB Z ?_
  refine aA Z (λT=>?_) λT=>?_
  ·
   refine ah<|am<|am<|sT<|sG<|sP (aT (r:=((k+1:Nat):Int)) Z Z eg)<|sM Z<|aq ?_
   exact aC (k+1) ⟨Y,by rw[O,List.all_append,K];simp[FK.over,T]⟩ ai ⟨rfl,rfl,by rw[show(if (R.Lv.take (k+1)).all (λs=>s.state==5) then(2:Int) else 3)=(if (R.Lv.take k).all (λs=>s.state==5) then(2:Int) else 3) by rw[O,List.all_append];simp[T]];rfl,rfl,rfl,rfl,trivial⟩ aN
  ·
   refine sQ<|sS<|sP (bC Z Z Z)<|sB Z ?_
   refine aA Z (λI=>?_) λI=>?_
   ·
    refine ah<|sT ?_
    refine aA Z (λI=>?_) λI=>?_
    ·
     refine sG<|sA Z<|aq<|am<|am<|sT<|sG<|sP (aT (r:=((k+1:Nat):Int)) Z Z eg)<|sM Z<|aq ?_
     exact aC (k+1) ⟨Y,by rw[O,List.all_append,K];simp[FK.over,I]⟩ ai ⟨rfl,rfl,by rw[show(if (R.Lv.take (k+1)).all (λs=>s.state==5) then(2:Int) else 3)=3 by rw[O,List.all_append];simp[T]];rfl,rfl,rfl,rfl,trivial⟩ aN
    ·
     refine an<|aJ<|aJ<|aH<|cu<|aJ<|aH ?_
     exact absurd (by assumption) I
   ·
    refine sG<|sP (bC Z Z Z)<|sB Z ?_
    refine aA Z (λI=>?_) λI=>?_
    ·
     refine sG<|sA Z<|aq<|am<|am<|sT<|sG<|sP (aT (r:=((k+1:Nat):Int)) Z Z eg)<|sM Z<|aq ?_
     exact aC (k+1) ⟨Y,by rw[O,List.all_append,K];simp[FK.over,I]⟩ ai ⟨rfl,rfl,by rw[show(if (R.Lv.take (k+1)).all (λs=>s.state==5) then(2:Int) else 3)=3 by rw[O,List.all_append];simp[T]];rfl,rfl,rfl,rfl,trivial⟩ aN
    ·
     refine an<|aJ<|aJ<|aH<|cu<|aJ<|aH<|bm [aG e p (S.settle id)] rfl ⟨rfl,rfl⟩ ?_
     have:¬R.Lv.all FK.over=true:=λh=>by
      have:=List.all_eq_true.1 h s (du hs);simp[FK.over] at this;omega
     rw[FK.uM hR,if_neg this];exact aN
 ·
  have d7:k=R.Lv.length:=ai;rw[d7,List.take_length] at K;have d9:R.Lv.take k=R.Lv:=by rw[d7,List.take_length]
  rw[d9];refine aK<|av<|au<|ao<|sT<|sG<|sM Z<|sM Z<|sM Z ?_
  refine bV Z (nh hR hn hq hl d6) aN ?_;refine ae<|aq ?_
  exact bm [aG e p (S.settle id)] rfl ⟨rfl,rfl⟩ (by rw[FK.uM hR,if_pos K];exact aN)
theorem Fu {S:FK.En} {t:Nat} {q:FK.Pl} (E:(S.Ly.find? (·.1==t)).map (·.2)=some q):er (dH S) t=some (iW q):=by
 rw[lN];cases hf:S.Ly.find? (·.1==t) with
 | none=>rw[hf] at E;cases E
 | some x=>rw[hf] at E;injection E with E;simp only[Option.map_some,E]
theorem uk {e:Nat} {p:EA} {S:FK.En} {t id k:Nat} {wh:Int} {R:FK.Rn} {s:FK.Sp} (ht:(S.Ly.find? (·.1==t)).map (·.2)=some ⟨id,(k:Int),wh⟩) (hR:S.getR id=some R) (Y:R.Lv[k]?=some s) (d8:R.Lv.length=R.fl.Lw.length) (d9:zS R.fl) (hn:R.fl.Lw.length<=100) (hq:S.Lx.length<=300) (hl:S.tms.length<=99999) (d6:S.ends<9223372036854775807):dZ G 143 [aX e,aV t] [aG e p S] λv m=>v=.tuple #[]/\m=[aG e p (S.complete t)]:=by
 refine bz Tryz.func143 Z λE fr hE=>ae<|sS<|dS 2 Z Z ?_
 refine cE (aF (v:=.map (some p.tm)) Z) (bc λ_ _ _=>rfl) ?_;refine sM Z<|cE (gO (m:=dH S) Z fy Z Z (Fu ht)) nN<|sO (cX (z:=.agg #[.int .u64 0,.int .i64 0,.int .i64 0]) Z λb4=>?_)
 refine sO<|aZ (vs:=iq ⟨id,(k:Int),wh⟩) Z (m:=3) Z Z Z Z fx (by show 0+3<=3;omega) ?_
 refine al (l':=blk b4 157 (iq ⟨id,(k:Int),wh⟩).toArray::aG e p S::fr) aN ?_;refine sN<|bg Z<|cE (bR (vs:=iq ⟨id,(k:Int),wh⟩) Z) (aR Z) ?_
 refine bV Z (mj (wh:=wh) hR Y hl) gfE1 ?_;refine ae<|dA Z<|bX 0 Z ?_
 refine sO<|lE (S:=S.leave id k) (R:=R.setS k {s with token:=0}) (s:={s with token:=0}) (j:=0) (s':={s with token:=0,state:=5}) (FK.je hR Y) (FK.dM Y) Z Z Z Z ai Z Z ?_
 refine sN<|sQ ?_
 obtain⟨T,hT⟩:∃T,T=(S.leave id k).setR id ((R.setS k {s with token:=0}).setS k {s with token:=0,state:=5}):=⟨_,rfl⟩;obtain⟨R1,O⟩:∃R1,R1=(R.setS k {s with token:=0}).setS k {s with token:=0,state:=5}:=⟨_,rfl⟩;have f8:FK.SameR R R1:=by rw[O];exact(FK.SameR.setS R k _).trans (FK.SameR.setS _ k _)
 have f9:T.getR id=some R1:=by rw[hT,O];exact FK.dG (FK.je hR Y)
 have mt:T.Lx=S.Lx:=by rw[hT];exact FK.ng
 have BT:T.tms.length<=99999:=by rw[hT];exact Nat.le_trans FK.nG hl
 have I:T.ends=S.ends:=by rw[hT,FK.fY hR Y];rfl
 have d7:S.complete t=(T.wake id).settle id:=by
  unfold FK.En.complete;rw[ht];show(((S.leave id (k:Int).toNat).onS id (k:Int).toNat λs=>{s with state:=5}).wake id).settle id=_;rw[Int.toNat_natCast,FK.rH _ (FK.je hR Y) (FK.dM Y),hT]
 rw[<-hT];obtain⟨R2,t6,f7,t7⟩:=FK.IC f9;have K:=f8.fl;have Fd:=f8.len;have In:=f7.len;obtain⟨LB,LC,t8,LD,LE,wf,LF,LG⟩:=FK.uz T id;refine sG<|sM Z<|bX 0 Z<|aE Z Z Z Z ?_
 refine bV Z (uA f9 (by rw[Fd,K];exact d8) (by rw[K];exact d9) (by rw[K];exact hn) (by rw[mt];exact hq)) aN ?_;refine ae<|sN<|sG<|sM Z<|bX 0 Z<|aE Z Z Z Z ?_
 refine bV Z (qp t6 ai (by rw[K,mt] at t7;omega) (by rw[t8];exact BT) (by rw[wf,I];exact d6)) aN ?_;refine ae<|aq ?_
 exact bm [aG e p (S.complete t)] rfl ⟨rfl,rfl⟩ (by rw[d7];exact Ent.cons Ent.drop)
end Go.Y

namespace Go.Y
open Go.Proofs Go.RowKit Go.SL
variable {G:Env->Prop}
abbrev bS (run:Nat) (node I:Int) (token:Nat):List Value:=[.int .u64 run,.int .i64 node,.int .i64 I,.int .u64 token]
abbrev jR (run:Nat) (node I:Int) (token:Nat):Value:=.agg (bS run node I token).toArray
theorem DK {e:Nat} {p:EA} {S:FK.En} {x:FK.Pl} {q:List FK.Pl} (h:S.Lx=x::q):dZ G 125 [qP e] [aG e p S] λv m=>v=.tuple #[iW x,.bool true]/\m=[aG e p {S with Lx:=q}]:=
 nT (R:=λv m=>v=.tuple #[iW x,.bool true]/\m=[dV e (ja S p) q]) (by rw[h];exact uO e _) λ_ _ ⟨I,O⟩=>⟨q,O,I,rfl⟩
section
variable {P:Program} {E:Env} {n:Nat} {D:List Deferred} {ts:List (Nat×Value)} {l r:List HP} {Q:Exit->Act->World->Prop} {ty:TypeId} {pos:String} {af:Array Edge} {g:Option (Nat×Bool)} {t:TypeId} {x y z:Operand} {e:Nat} {p:EA} {S:FK.En} {K:Act->World->Prop} [H:HasEng l e p S r]
theorem uX {tok:Nat} {q:FK.Pl} {t I O:TypeId} {d:Option Tmp} (hd:d=none) (T:P.underlying t=some (.map I O)) (Y:KeyK P I Nat aV) (hx:ev ts x=some (.map (some p.tm))) (hy:ev ts y=some (aV tok)) (hz:ev ts z=some (iW q)) (hn:∀t∈S.Ly,t.1≠tok)
 (h:At E n D ts (aG e p {S with Ly:=S.Ly++[(tok,q)]}::r) K):At E n D ts l (λac w=>(Oper.mk d (.mapUpdate t x y z) ty pos af g).wp P ac w K Q):=by
 refine al (Ent.sel H.sel)<|bl ?_
 show At E n D ts (HP.pure (ep S)::dV e (ja S p) S.Lx::cA aV p.rm (eV S p)::fw p S.runs::cA aV p.tm (dH S)::dx p.w S.now S.sets S.tms::r) _;have hv:er (dH S) tok=none:=by
  rw[lN];cases hf:S.Ly.find? (·.1==tok) with
  | none=>rfl
  | some u=>exact absurd (by simpa using List.find?_some hf) (hn u (List.mem_of_find?_eq_some hf))
 refine vQ (b:=p.tm) (a:=tok) (v:=iW q) hd T Y hx hy hz lp hv ?_;refine al ?_ h;have hm:dH S++[(tok,iW q)]=dH {S with Ly:=S.Ly++[(tok,q)]}:=by simp[dH]
 rw[hm];refine Ent.trans ?_<|Ent.all (m:=j0 e p {S with Ly:=S.Ly++[(tok,q)]})
 exact(dd bM bM bM).trans (Ent.cons (Ent.cons (Ent.cons gfE1)))
end
theorem AO {e:Nat} {p:EA} {S:FK.En} {id k:Nat} {q:List FK.Pl} {R:FK.Rn} {s:FK.Sp} {nd:FK.Node} (h:S.Lx=⟨id,(k:Int),0⟩::q) (hR:S.getR id=some R) (hs:R.Lv[k]?=some s) (hnd:R.fl.Lw[k]?=some nd) (LH:S.now<=4611686018427387904) (Fd:0<=nd.close) (hc:nd.close<=4611686018427387904) (hb:nd.beat<=4611686018427387904) (In:S.sets+1<9223372036854775807) (hl:S.tms.length<=99997) (LJ:S.Ls<9223372036854775807) (d9:∀t∈S.Ly,t.1<=S.Ls) (LK:0<=s.Lu) (LL:s.Lu<9223372036854775807) :
 dZ G 71 [aX e] [aG e p S] λv m=>v=.tuple #[jR id k (s.Lu+1) (S.Ls+1),.bool true]/\m=[aG e p (S.hand ⟨id,(k:Int),0⟩ q R s nd)]:=by
 have hk:=(gfGet.1 hs).1;have LB:=(gfGet.1 hnd).1;have mt:∀(T:FK.En) n,T.now<=4611686018427387904->T.now<=T.later n:=λT n h=>by unfold FK.En.later;omega
 have f8:∀(T:FK.En) n,T.later n<=4611686018427387904:=λT n=>by unfold FK.En.later;omega
 refine bz Tryz.func71 Z λE fr hE=>ae ?_;refine eK (λw hw=>m7 hR hnd hw) λhA=>?_;obtain⟨A,c,hu,-⟩:=hA;refine sS<|sO (cX (z:=.agg #[.int .u64 0,.int .i64 0,.int .i64 0,.int .u64 0]) Z λb2=>(sB Z (sS (sM Z (dA Z (bX 3 Z ?_))))))
 refine bV Z (DK h) gfE1 ?_;refine ae<|sM Z<|bG Z Z<|bG Z Z<|sO (cX (z:=.agg #[.int .u64 0,.int .i64 0,.int .i64 0]) Z λb4=>?_)
 refine sO<|aZ (vs:=iq ⟨id,(k:Int),0⟩) Z (m:=3) Z Z Z Z fx (by show 0+3<=3;omega) ?_
 refine sB Z<|sQ<|bg Z<|sP (dp Z Z)<|sN<|ak Z<|ah<|sT<|sQ ?_
 obtain⟨S1,O⟩:∃S1,S1={S with Lx:=q}:=⟨_,rfl⟩;rw[<-O];have d6:S1.getR id=some R:=by rw[O];exact hR
 refine al (l':=blk b4 157 (iq ⟨id,(k:Int),0⟩).toArray::aG e p S1::blk b2 78 (bS 0 0 0 0).toArray::fr) aN ?_;refine sZ Z<|eI Z Z<|dv 1 Z Z Z ?_
 refine iJ 3 Z (aF Z) (bc λ_ _ _=>rfl) ?_;refine dr 4 Z (bL 0 Z)<|bZ Z (aF Z) (ag Z)<|bZ Z (gO (a:=id) (v:=aX (p.fb id)) Z fy Z Z (gV d6)) eH<|bF Z (aQ Z)<|dE<|sT<|sQ<|sZ Z<|eI Z Z<|dv 3 Z Z Z<|bZ Z (aF (v:=(p.ra id).sv R) Z) (cz d6 Z)<|bF Z (bL 1 Z)<|bZ Z (aF Z) (ag Z)<|bF Z (bp (z:=3) Z Z Z Z hk)<|cJ Z Z<|dv 0 Z Z Z<|bF Z (bL 1 Z)<|bZ Z (aF (v:=(p.ra id).nv R) Z) (cz d6 Z) ?_
 refine dr 12 Z (bL 1 Z)<|bZ Z (aF Z) (ag Z)<|bF Z (bp (z:=7) Z Z Z Z LB)<|bZ Z (bR (vs:=aP nd (.slice A nd.after.length c)) Z) (fG d6 hnd hu)<|tV Z (cX (z:=.agg #[.int .i64 0,.int .i64 0,.int .i64 0,.int .i64 0,.int .i64 0,.int .i64 0,.slice none 0 0]) Z λb8=>(dK [true,true,true,true,true] (aa (fG d6 hnd hu) (aa (ag Z) (aa (cz d6 Z) (aa (ag Z) (aa (cz d6 Z) ab))))) (bF Z (aQ Z) ?_)))
 refine cK 18 Z<|aZ (vs:=aP nd (.slice A nd.after.length c)) Z (m:=7) Z Z Z Z (by simp[aP,Value.oneCell']) (by show 0+7<=7;omega) ?_
 refine dK [false,false,false,false,false] ab<|dE<|sT<|sQ ?_
 have t6:S1.Ls=S.Ls:=by rw[O]
 refine sG<|dS 8 Z Z ?_
 refine cE (aF (v:=.int .u64 S1.Ls) Z) (bc λ_ _ _=>rfl) ?_;refine sP (aT (r:=((S1.Ls+1:Nat):Int)) Z Z (by rw[mM];omega))<|dA Z<|bX 8 Z ?_
 refine sO<|kZ (S:=S1) (S':={S1 with Ls:=S1.Ls+1}) Z Z Z ai Z (λ_ _ _=>rfl) Z Z Z Z Z Z ?_
 refine sN<|sQ ?_
 obtain⟨I,Y⟩:∃I,I={S1 with Ls:=S1.Ls+1}:=⟨_,rfl⟩;rw[<-Y];have f9:I.getR id=some R:=by rw[Y];exact d6
 have d8:I.Ls=S.Ls+1:=by rw[Y,t6]
 refine sZ Z<|eI Z Z<|cJ Z Z<|dv 1 Z Z Z<|bZ Z (aF (v:=.int .i64 s.Lu) Z) (gI f9 hs Z)<|bF Z (aT (r:=s.Lu+1) Z Z (by rw[iI ai]))<|cJ Z Z<|dv 8 Z Z Z ?_
 refine iJ 9 Z (aF (v:=.int .u64 I.Ls) Z) (bc λ_ _ _=>rfl) ?_;refine dr 10 Z (bT (cs:=#[.int .i64 3,.int .i64 (s.Lu+1),.int .u64 I.Ls]) Z Z Z Z Z)<|bF Z (cv Z)<|tV Z<|D0 (s':=⟨3,s.Lu+1,I.Ls⟩) f9 hs Z Z Z Z<|dK [false,false] ab<|dE<|sT<|sQ ?_
 obtain⟨R1,f7⟩:∃R1,R1=R.setS k ⟨3,s.Lu+1,I.Ls⟩:=⟨_,rfl⟩;have hs1:R1.Lv[k]?=some ⟨3,s.Lu+1,I.Ls⟩:=by rw[f7];exact FK.dM hs
 rw[<-f7];obtain⟨S3,d7⟩:∃S3,S3=I.setR id R1:=⟨_,rfl⟩;rw[<-d7];have t7:S3.getR id=some R1:=by rw[d7];exact FK.dG f9
 have LC:S3.Ly=S.Ly:=by rw[d7,Y,O];rfl
 refine sZ Z<|eI Z Z<|dv 2 Z Z Z ?_
 refine iJ 3 Z (aF Z) (bc λ_ _ _=>rfl) ?_;refine dr 4 Z (bn Z)<|dv 2 Z Z Z<|bZ Z (aF (v:=.int .u64 I.Ls) Z) (gI t7 hs1 Z)<|bZ Z (bR (vs:=iq ⟨id,(k:Int),0⟩) Z) (aR Z) ?_
 refine cK 9 Z<|uX (tok:=I.Ls) (q:=⟨id,(k:Int),0⟩) Z Z fy Z Z Z (λt ht=>by rw[LC] at ht;have:=d9 t ht;omega) ?_
 refine dK [false,false,false] ab<|dE<|sT<|sQ ?_
 obtain⟨U,hU⟩:∃U,U={S3 with Ly:=S3.Ly++[(I.Ls,(⟨id,(k:Int),0⟩:FK.Pl))]}:=⟨_,rfl⟩;rw[<-hU];have LD:U.getR id=some R1:=by rw[hU];exact t7
 have LE:U.now=S.now:=by rw[hU,d7,Y,O];rfl
 have LF:U.sets=S.sets:=by rw[hU,d7,Y,O];rfl
 have t8:U.tms=S.tms:=by rw[hU,d7,Y,O];rfl
 refine sZ Z<|eI Z Z<|dv 6 Z Z Z ?_
 refine iJ 3 Z (aF Z) (bc λ_ _ _=>rfl) ?_;refine dr 4 Z (bL 0 Z)<|bZ Z (aF Z) (ag Z)<|bF Z (bL 1 Z)<|bZ Z (aF Z) (ag Z)<|bF Z (bT (cs:=#[.int .u64 id,.int .i64 (k:Int),.int .i64 1]) Z Z Z Z Z)<|cJ Z Z<|bF Z (bL 1 Z)<|bZ Z (aF Z) (ag Z) ?_
 refine cK 12 Z<|cF Z (mu (S:=U) nd.close ai Fd hc) aN ?_
 rintro v m ⟨rfl,rfl⟩;refine ae ?_;refine dK [false,true,true,true] (aa (ag Z) (aa (ag Z) (aa (bc λ_ _ _=>rfl) ab))) ?_;refine cK 13 Z<|cF Z (oH ⟨id,(k:Int),1⟩ (U.later nd.close.toNat) (mt U _ ai) (f8 U _) ai (by rw[t8];omega)) aN ?_
 rintro v m ⟨rfl,rfl⟩;refine ae<|dK [true,true,false] (aa (ag Z) (aa (ag Z) ab))<|dE<|sT<|sQ ?_
 obtain⟨V,hV⟩:∃V,V=U.setT ⟨id,(k:Int),1⟩ (U.later nd.close.toNat):=⟨_,rfl⟩;rw[<-hV];have LG:V.getR id=some R1:=by rw[hV];exact LD
 have LM:V.now=S.now:=by rw[hV];exact LE
 have LN:V.sets=S.sets+1:=by rw[hV];show U.sets+1=_;rw[LF]
 have LO:V.tms.length<=S.tms.length+1:=by
  rw[hV];show(U.tms.filter (λx:FK.KD=>x.1 !=⟨id,(k:Int),1⟩)++[((⟨id,(k:Int),1⟩:FK.Pl),U.later nd.close.toNat)]).length<=_;have:=List.length_filter_le (λx:FK.KD=>x.1 !=⟨id,(k:Int),1⟩) U.tms;rw[List.length_append,List.length_singleton,<-t8];omega
 refine sG<|sM Z<|cE (bR (vs:=iq ⟨id,(k:Int),0⟩) Z) (aR Z)<|cE (bR (vs:=aP nd (.slice A nd.after.length c)) Z) (aR Z) ?_
 refine bV Z (vc (S:=V) ⟨id,(k:Int),0⟩ nd (.slice A nd.after.length c) ai hb ai ai) aN ?_;refine ae<|sN<|sQ ?_
 obtain⟨X,hX⟩:∃X,X=V.life ⟨id,(k:Int),0⟩ nd:=⟨_,rfl⟩;have wf:X.getR id=some R1:=by rw[hX,life_R];exact LG
 rw[<-hX];refine sZ Z<|dr 0 Z (bL 0 Z)<|bZ Z (aF Z) (ag Z)<|bF Z (bL 1 Z)<|bZ Z (aF Z) (ag Z)<|cJ Z Z<|dv 1 Z Z Z<|bZ Z (aF (v:=.int .i64 (s.Lu+1)) Z) (gI wf hs1 Z)<|cJ Z Z<|dv 2 Z Z Z<|bZ Z (aF (v:=.int .u64 I.Ls) Z) (gI wf hs1 Z)<|bF Z (bT (cs:=(bS id k (s.Lu+1) I.Ls).toArray) Z Z Z Z Z) ?_
 refine cK 13 Z<|aZ (vs:=bS id k (s.Lu+1) I.Ls) Z (m:=4) Z Z Z Z fx (by show 0+4<=4;omega) ?_
 refine dK [false,false,false,false] ab<|dr 14 Z (aQ Z)<|dE<|sT<|an ?_
 have BT:X=S.hand ⟨id,(k:Int),0⟩ q R s nd:=by rw[hX,hV,hU,d7,f7,d8,Y,O];rfl
 exact eb [aG e p X] rfl (ce (vs:=bS id k (s.Lu+1) I.Ls) Z Z Z Z (aR Z)) (da Z) ⟨by rw[d8],by rw[BT]⟩<|Ent.drop.trans<|Ent.cons<|Ent.drop.trans Ent.drop
end Go.Y

namespace Go.Y
open Go.Proofs Go.RowKit Go.SL
variable {G:Env->Prop}
section
variable {E:Env} {l r:List HP} {p:EA} {L:List (Nat×FK.Rn)}
theorem lP {i:Nat} {x:Nat×FK.Rn} {v:Value} (s:Sel (fw p L) l r) (I:x∈L) (K:(xj (p.ra x.1) x.2)[i]?=some v):∀w,Holds E w l->cR ⟨p.fb x.1,i,none⟩ v w:=λw hw=>by
 obtain⟨F1,_,_,_,_,O,_⟩:=(hw.sel s).star;have T:Star w (iw p L) F1:=O;have Y:(kV (p.fb x.1) (p.ra x.1) x.2).sat w F1:=Star.mem T (List.mem_map.2 ⟨x,I,rfl⟩);have h3:Star w (oz (p.fb x.1) (p.ra x.1) x.2) F1:=Y;have h4:(zP (p.fb x.1) (p.ra x.1) x.2).sat w F1:=Star.mem h3 cP;have:=h4.2;simp only[cR,World.cell?,this];exact K
theorem GB {K:Type} {enc:K->Value} {O b:Nat} {m left:List (K×Value)} {I:Option (K×Value)} (s:Sel (dC enc O b m left I) l r):∀w,Holds E w l->j7 enc b m w:=λw hw=>by
 obtain⟨T,c,_,Y,a2,a3,a4,_⟩:=kX s w hw;exact⟨T,c,Y,a2,a3,a4⟩
end
theorem Gs {S:FK.En} {p:EA} {x:Nat×FK.Rn} (h:x∈S.runs):er (eV S p) x.1=some (aX (p.fb x.1)):=by
 unfold eV;rw[mf S.runs (λk _=>aX (p.fb k)) x.1];cases hf:S.runs.find? (·.1==x.1) with
 | none=>exact absurd (List.find?_eq_none.1 hf x h) cP
 | some y=>rfl
abbrev oldL (e:Nat) (p:EA) (S:FK.En) (K:Nat) (left:List (Nat×FK.Rn)) (I:Option (Nat×Value)):List HP:=[HP.pure (ep S),dV e (ja S p) S.Lx,dC aV K p.rm (eV S p) (left.map λr=>(r.1,aX (p.fb r.1))) I,fw p S.runs,cA aV p.tm (dH S),dx p.w S.now S.sets S.tms]
theorem qt {e:Nat} {p:EA} {S:FK.En}:dZ G 121 [aX e] [aG e p S] λv m=>(∃o,FK.Kg S o/\v=.tuple #[aV ((o.map (·.1)).getD 0),.bool o.isSome])/\m=[aG e p S]:=by
 refine bz Tryz.func121 Z λE fr hE=>ae<|sS<|sA Z<|sB Z<|sQ<|sQ ?_
 refine al (Ent.unall (m:=j0 e p S)) ?_;show At E _ _ _ (HP.pure (ep S)::dV e (ja S p) S.Lx::cA aV p.rm (eV S p)::fw p S.runs::cA aV p.tm (dH S)::dx p.w S.now S.sets S.tms::fr) _;refine sG<|dS 1 Z Z ?_
 refine cE (aF (v:=.map (some p.rm)) Z) (FX λ_ _ _=>rfl) ?_;refine sO (l6 (b:=p.rm) Z Z Z dj λit=>(sN (aj ?_)));refine aL (X:=List (Nat×FK.Rn)×Option (Nat×Value)×Option (Nat×FK.Rn)) (λx=>[(10,.pointer (some ⟨it,0,none⟩)),(2,aV ((x.2.2.map (·.1)).getD 0)),(3,.bool x.2.2.isSome),(0,aX e)]) (λx=>oldL e p S it x.1 x.2.1++fr) (λx=>(∀r∈x.1,r∈S.runs)/\(∀r∈S.runs,r∈x.1\/(0<r.2.ended->∃m,x.2.2=some m/\m.2.ended<=r.2.ended))/\∀m,x.2.2=some m->m∈S.runs/\0<m.2.ended) (λx=>x.1.length) (S.runs,none,none) ⟨λ_ h=>h,λ_ h=>.inl h,λ_ h=>by cases h⟩ cf (dd bM bM .head) ?_;rintro⟨left,f7,o⟩ ⟨T,I,ho⟩;replace T:∀r∈left,r∈S.runs:=T;replace I:∀r∈S.runs,r∈left\/(0<r.2.ended->∃m,o=some m/\m.2.ended<=r.2.ended):=I;replace ho:∀m,o=some m->m∈S.runs/\0<m.2.ended:=ho;refine al (l':=HP.pure (ep S)::dV e (ja S p) S.Lx::dC aV it p.rm (eV S p) (left.map λr=>(r.1,aX (p.fb r.1))) f7::fw p S.runs::cA aV p.tm (dH S)::dx p.w S.now S.sets S.tms::fr) aN ?_;refine sQ ?_
 by_cases HL:left=[]
 ·
  subst HL;refine sG ?_;refine sO<|jt Z Z dj (λ_=>?_) (λj q hj=>by simp at hj)
  refine bG Z Z<|sN<|sQ<|ak Z<|aK<|av<|au<|ao<|sT<|bg Z<|sM Z<|sA Z<|sB Z<|an ?_
  exact db [aG e p S] rfl rfl rfl ⟨⟨o,⟨ho,λr K h=>(by rcases I r K with h'|h';cases h';exact h' h)⟩,rfl⟩,rfl⟩ ((Ent.ranged.trans (aY bM bM)).trans (Ent.all (m:=j0 e p S)))
 ·
  refine sG ?_;refine sO<|jt Z Z dj (λh=>absurd (List.map_eq_nil_iff.1 h) HL) λj q hj=>?_
  obtain⟨x,hx,rfl⟩:∃x,left[j]?=some x/\(x.1,aX (p.fb x.1))=q:=by
   rw[List.getElem?_map] at hj;cases hl:left[j]? with
   | none=>rw[hl] at hj;cases hj
   | some x=>rw[hl] at hj;injection hj with hj;exact⟨x,rfl,hj⟩
  have Y:=T x (du hx);have d6:=(gfGet.1 hx).1;rw[<-ik];refine bG Z Z<|sN<|sQ<|aO Z<|ah<|sT<|aj<|sS<|cE (lJ (p:=(x.1,aX (p.fb x.1))) Z) (kX .head)<|bG Z Z<|bG Z Z<|sA Z<|sB Z<|sQ ?_
  by_cases HA:0<x.2.ended
  ·
   by_cases HB:o=none
   ·
    subst HB;refine sZ Z<|eI Z Z<|dv 4 Z Z Z<|bZ Z (aF (v:=.int .u64 x.2.ended) Z) (lP gC Y Z)<|bF Z (eS Z Z (zR ai))<|cJ Z Z<|em 6 Z (bn Z)<|em 7 Z (dp Z Z)<|em 8 Z (bn Z)<|eQ 9 Z Z<|eQ 10 Z Z<|eQ 11 Z Z<|eQ 12 Z Z<|eQ 13 Z Z<|eQ 14 Z Z<|eQ 15 Z Z<|eQ 16 Z Z<|eQ 17 Z Z<|eQ 18 Z Z ?_
    refine eQ 19 Z Z<|eQ 20 Z Z<|eQ 21 Z Z<|eQ 22 Z Z<|em 23 Z (aS Z Z Z)<|bF Z (aS Z Z Z)<|dE<|sT<|aO Z<|sG<|sM Z<|sA Z<|sA Z<|aq<|am ?_
    exact aC (left.eraseIdx j,some (x.1,aX (p.fb x.1)),some x) ⟨λr K=>T r ((List.eraseIdx_sublist _ _).subset K),λr K=>(by
     rcases I r K with h|h
     · rcases FK.lQ hx h with rfl|h
       · exact .inr λ_=>⟨r,rfl,cm _⟩
       · exact .inl h
     · exact .inr λh'=>(by obtain⟨m,O,_⟩:=h h';cases O)),λm O=>(by injection O with O;subst O;exact⟨Y,HA⟩)⟩ (by show(left.eraseIdx j).length<left.length;rw[List.length_eraseIdx,if_pos d6];omega) ⟨rfl,rfl,rfl,rfl,trivial⟩ (aY bM bM)
   ·
    obtain⟨m,rfl⟩:=Option.ne_none_iff_exists'.1 HB;obtain⟨d7,f8⟩:=ho m rfl;refine sZ Z<|eI Z Z<|dv 4 Z Z Z<|bZ Z (aF (v:=.int .u64 x.2.ended) Z) (lP gC Y Z)<|bF Z (eS Z Z (zR ai))<|cJ Z Z<|em 6 Z (bn Z)<|em 7 Z (dp Z Z)<|em 8 Z (bn Z)<|em 9 Z (bn Z)<|em 10 Z (cv Z)<|em 11 Z (bL 4 Z)<|kU 12 Z (aF (v:=.int .u64 x.2.ended) Z) (lP gC Y Z)<|em 13 Z (bn Z)<|em 14 Z (cv Z)<|em 15 Z (bL 1 Z) ?_
    refine kU 16 Z (aF (v:=.map (some p.rm)) Z) (FX λ_ _ _=>rfl) ?_;refine em 17 Z (bn Z)<|kU 18 Z (gO (a:=m.1) (v:=aX (p.fb m.1)) Z fy Z Z (Gs d7)) (GB .head)<|em 19 Z (cv Z)<|em 20 Z (bL 4 Z)<|kU 21 Z (aF (v:=.int .u64 m.2.ended) Z) (lP gC d7 Z)<|em 22 Z (bB Z Z Z)<|em 23 Z (aS Z Z Z)<|bF Z (aS Z Z Z)<|dE<|sT ?_
    refine aA Z (λd9=>?_) λd9=>?_
    ·
     refine sG<|sM Z<|sA Z<|sA Z<|aq<|am ?_
     have d8:x.2.ended<m.2.ended:=ai;exact aC (left.eraseIdx j,some (x.1,aX (p.fb x.1)),some x) ⟨λr K=>T r ((List.eraseIdx_sublist _ _).subset K),λr K=>(by
      rcases I r K with h|h
      · rcases FK.lQ hx h with rfl|h
        · exact .inr λ_=>⟨r,rfl,cm _⟩
        · exact .inl h
      · exact .inr λh'=>(by obtain⟨m',O,f9⟩:=h h';injection O with O;subst O;exact⟨x,rfl,ai⟩)),λm O=>(by injection O with O;subst O;exact⟨Y,HA⟩)⟩ (by show(left.eraseIdx j).length<left.length;rw[List.length_eraseIdx,if_pos d6];omega) ⟨rfl,rfl,rfl,rfl,trivial⟩ (aY bM bM)
    ·
     refine ah<|am ?_
     have d8:¬x.2.ended<m.2.ended:=ai;exact aC (left.eraseIdx j,some (x.1,aX (p.fb x.1)),some m) ⟨λr K=>T r ((List.eraseIdx_sublist _ _).subset K),λr K=>(by
      rcases I r K with h|h
      · rcases FK.lQ hx h with rfl|h
        · exact .inr λ_=>⟨m,rfl,ai⟩
        · exact .inl h
      · exact .inr h),λm' O=>ho m' O⟩ (by show(left.eraseIdx j).length<left.length;rw[List.length_eraseIdx,if_pos d6];omega) ⟨rfl,rfl,rfl,rfl,trivial⟩ (aY bM bM)
  ·
   refine sZ Z<|eI Z Z<|dv 4 Z Z Z<|bZ Z (aF (v:=.int .u64 x.2.ended) Z) (lP gC Y Z)<|bF Z (eS Z Z (Dg ai))<|cJ Z Z<|eQ 6 Z Z<|eQ 7 Z Z<|eQ 8 Z Z<|eQ 9 Z Z<|eQ 10 Z Z<|eQ 11 Z Z<|eQ 12 Z Z<|eQ 13 Z Z<|eQ 14 Z Z<|eQ 15 Z Z<|eQ 16 Z Z<|eQ 17 Z Z<|eQ 18 Z Z ?_
   refine eQ 19 Z Z<|eQ 20 Z Z<|eQ 21 Z Z<|eQ 22 Z Z<|eQ 23 Z Z<|bF Z (aS Z Z Z)<|dE<|sT<|ak Z<|ah<|am ?_
   exact aC (left.eraseIdx j,some (x.1,aX (p.fb x.1)),o) ⟨λr K=>T r ((List.eraseIdx_sublist _ _).subset K),λr K=>(by
    rcases I r K with h|h
    · rcases FK.lQ hx h with rfl|h
      · exact .inr λh=>absurd h HA
      · exact .inl h
    · exact .inr h),ho⟩ (by show(left.eraseIdx j).length<left.length;rw[List.length_eraseIdx,if_pos d6];omega) ⟨rfl,rfl,rfl,rfl,trivial⟩ (aY bM bM)
theorem DL {e:Nat} {p:EA} {S:FK.En}:dZ G 64 [aX e] [aG e p S] λv m=>v=.bool (S.runs.any (λr=>decide (0<r.2.ended))||decide (S.runs.length<6))/\m=[aG e p S]:=by
 refine bz Tryz.func64 Z λE fr hE=>ae<|sS<|sB Z<|bg Z ?_
 refine ch Z qt aN ?_;rintro v m ⟨⟨o,O,rfl⟩,rfl⟩;refine ae<|sM Z<|bG Z Z<|bG Z Z<|sA Z<|sB Z<|sQ ?_
 by_cases T:o=none
 ·
  subst T;have I:(S.runs.any λr=>decide (0<r.2.ended))=false:=by
   rw[List.any_eq_false];intro r hr;simp only[decide_eq_true_eq];intro h;obtain⟨m,Y,_⟩:=O.2 r hr h;cases Y
  refine sG<|sM Z<|sM Z<|iC Z<|eJ (cv Z)<|eJ (bL 1 Z) ?_
  refine mJ (aF (v:=.map (some p.rm)) Z) (bc λ_ _ _=>rfl) ?_;refine iK Z Z Z<|ko Z (rr (m:=eV S p) Z Z) eH ?_
  refine eJ (bB (r:=decide (S.runs.length<6)) Z Z (by rw[List.length_map];exact decide_eq_decide.2 ai)) ?_;refine sP (aS Z Z Z)<|sB Z<|an ?_
  exact aw [aG e p S] rfl Z ⟨by rw[I];rfl,rfl⟩ aN
 ·
  obtain⟨x,rfl⟩:=Option.ne_none_iff_exists'.1 T;obtain⟨hx,K⟩:=O.1 x rfl;have I:(S.runs.any λr=>decide (0<r.2.ended))=true:=by
   rw[List.any_eq_true];exact⟨x,hx,by simpa using K⟩
  refine sG<|sM Z<|sM Z<|bQ Z<|bQ Z<|bQ Z<|bQ Z<|bQ Z<|bQ Z<|sP (aS Z Z Z)<|sB Z<|an ?_
  exact aw [aG e p S] rfl Z ⟨by rw[I];rfl,rfl⟩ aN
end Go.Y
