/- The engine in memory: runs, tasks, queue, timers. -/
import Derived.Test.YtmeegfamopaljaaGreatDoorRuF
import Derived.Test.YtmeegfamopaljaaGreatDoorRuA
import Derived.Test.YtmeegfamopaljaaGreatDoorRuE
import Derived.Test.YtmeegfamopaljaaGreatDoorRuD
set_option maxHeartbeats 2000000
set_option maxRecDepth 10000
variable {S:FK.En} {b c e i id j k n:Nat} {G:Go.SL.Env->Prop} {R:FK.Rn} {Q:Go.Exit->Go.Act->Go.World->Prop} {g:Option (Nat×Bool)} {ts:List (Nat×Go.Value)} {r:List Go.SL.HP} {K:Go.Act->Go.World->Prop} {D:List Go.Deferred} {t ty:Go.TypeId} {P:Go.Program} {s:FK.Sp} {af:Array Go.Edge} {u v:Go.Value} {E:Go.SL.Env} {d:Option Go.Tmp} {l:List FK.Sp} {R':Go.Value->List Go.SL.HP->Prop} {xs:List Go.Value} {w:Go.World} {F:Nat->Prop} {st wh:Int} {f:Go.FuncId} {x:Nat×FK.Rn} {α:Type} {o:Go.Obj}
namespace Go.Y
open Go.Proofs Go.RowKit Go.SL
class HasRing (e:Nat) (l:List HP) (C:outParam EC) (q:outParam (List FK.Pl)) (r:outParam (List HP)):Prop where
 sel:Sel (ee e C q) l r
instance HasRing.head {e:Nat} {C:EC} {q:List FK.Pl} {l:List HP}:HasRing e (ee e C q::l) C q l:=⟨.head⟩
instance (priority:=low) HasRing.tail {e:Nat} {C:EC} {q:List FK.Pl} {l r:List HP} {p:HP} [h:HasRing e l C q r]:HasRing e (p::l) C q (p::r):=⟨.tail h.sel⟩
class HasMap {K:Type} (enc:K->Value) (b:Nat) (l:List HP) (m:outParam (List (K×Value))) (r:outParam (List HP)):Prop where
 sel:Sel (cP enc b m) l r
instance HasMap.head {K:Type} {enc:K->Value} {b:Nat} {m:List (K×Value)} {l:List HP}:HasMap enc b (cP enc b m::l) m l:=⟨.head⟩
instance (priority:=low) HasMap.tail {K:Type} {enc:K->Value} {b:Nat} {m:List (K×Value)} {l r:List HP} {p:HP} [h:HasMap enc b l m r]:HasMap enc b (p::l) m (p::r):=⟨.tail h.sel⟩
class HasRow (g:Nat) (l:List HP) (e:outParam TypeId) (size n m c:outParam Nat) (xs:outParam (List Value)) (r:outParam (List HP)):Prop where
 sel:Sel (row e size (dp g n c) m xs) l r
instance HasRow.head {g:Nat} {e:TypeId} {size n m c:Nat} {xs:List Value} {l:List HP}:HasRow g (row e size (dp g n c) m xs::l) e size n m c xs l:=⟨.head⟩
instance (priority:=low) HasRow.tail {g:Nat} {e:TypeId} {size n m c:Nat} {xs:List Value} {l r:List HP} {p:HP} [h:HasRow g l e size n m c xs r]:HasRow g (p::l) e size n m c xs (p::r):=⟨.tail h.sel⟩
section
variable {l:List HP}
theorem FB {C:EC} {q:List FK.Pl} [h:HasRing e l C q r] (I:∀rv f n,(vB C rv f n)[i]?=some v):∀w,Holds E w l->cq ⟨e,i,none⟩ v w:=λw hw=>by
 obtain⟨F1,_,_,_,_,J,_⟩:=(hw.sel h.sel).star;obtain⟨⟨rv,N,f,rg⟩,O,T,_,_,_,_,Y,G4,_,_,_,K,_⟩:=J;have:=K.2;simp only[cq,World.cell?,this];exact I _ _ _
theorem EX {g o:Nat} {e:TypeId} {size m:Nat} {vs:List Value} [s:HasRow g l e size m m c xs r] (h:∀j u,vs[j]?=some u->xs[o+j]?=some u):∀w,Holds E w l->gV g o vs w:=l7 s.sel h
theorem fX {g o:Nat} {e:TypeId} {size m:Nat} [s:HasRow g l e size m m c xs r] (h:xs[o]?=some u):∀w,Holds E w l->cq ⟨g,o,none⟩ u w:=il s.sel h
end
theorem Gn {l:List HP} {pos:String} {x y:Operand} {C C':EC} {q:List FK.Pl} [h:HasRing e l C q r]
 (T:df P t 1) (Y:ev ts x=some (.pointer (some ⟨e,i,none⟩))) (hy:ev ts y=some v) (hv:v.oneCell'=true) (hi:i<10) (hC:∀rv f n,(vB C rv f n).setIfInBounds i v=vB C' rv f n) (hk:At E n D ts (ee e C' q::r) K):At E n D ts l (λa w=>(Oper.mk none (.store t x y) ty pos af g).wp P a w K Q):=by
 refine dI h.sel λ⟨rv,N,f,rg⟩=>?_;refine bH ?_;show At E n D ts (HP.pure (FK.RingOk N f q rg)::og e C rv f q.length::row 268 3 rv N (rV N rg)::r) _;refine fg .head λhR=>?_;refine co (b:=e) (cs:=vB C rv f q.length) Z T Y hy hv (by simpa using hi) ?_;rw[hC];exact aq (gp hR) hk
abbrev aQ (n:Nat):Value:=.int .u64 (n:Int)
theorem fc:KeyK Tryz.prog 51 Nat aQ:=Kx eA
abbrev vv (s:FK.Sp):List Value:=[aw s.state,aw s.KU,.int .u64 s.token]
def vu (l:List FK.Sp):List Value:=l.flatMap vv
theorem ol (l:List FK.Sp):(vu l).length=l.length*3:=cM (k:=3) (λ_=>rfl) l
theorem vE (h:l[i]?=some s) (j:Nat) (u:Value) (I:(vv s)[j]?=some u):(vu l)[0+i*3+j]?=some u:=by
 rw[Nat.zero_add];exact eJ (k:=3) (λ_=>rfl) j h I
theorem KB:fd Tryz.prog 265 (.agg #[aw 0,aw 0,.int .u64 0]) 3 24:=by unfold fd;kernel_rfl
theorem pD {f:α->List Value} (I:∀x,(f x).length=3) {l:List α} {L:List Value} (hl:L.length=l.length*3) (h:∀i x j u,l[i]?=some x->(f x)[j]?=some u->L[i*3+j]?=some u):L=l.flatMap f:=by
 apply List.ext_getElem?;intro k
 by_cases hk:k<l.length*3
 · have T:k/3<l.length:=am
   have Y:k%3<3:=Nat.mod_lt _ am;have J:l[k/3]?=some l[k/3]:=List.getElem?_eq_getElem T;have h3:(f l[k/3])[k%3]?=some ((f l[k/3])[k%3]'(by rw[I];exact Y)):=List.getElem?_eq_getElem _;have K:=h (k/3) _ (k%3) _ J h3;have O:=eJ I (k%3) J h3;rw[show k/3*3+k%3=k by omega] at K O;rw[K,O]
 · rw[List.getElem?_eq_none am,List.getElem?_eq_none (by rw[cM I];omega)]
theorem Il (hi:i<l.length) (s:FK.Sp):kG (vu l) (0+i*3) (vv s)=vu (l.set i s):=by
 refine pD (λ_=>rfl) (by rw[gK,ol,List.length_set]) λk x j u I J=>?_;have K:j<3:=by have:=(gfGet.1 J).1;simpa using this
 by_cases h:k=i
 · subst h
   rw[List.getElem?_set_self hi] at I;injection I with I;subst I;rw[show k*3+j=(0+k*3)+j by omega];exact m8 (vv s) (vu l) (0+k*3) j u (by rw[ol];simp;omega) J
 · rw[List.getElem?_set_ne (Ne.symm h)] at I
   rw[jB _ _ _ _ (by simp;omega)];have:=vE I j u J
   rwa [Nat.zero_add] at this
theorem rX {s':FK.Sp} (O:l[i]?=some s) (Y:j<3) (h:(vv s).set j v=vv s'):(vu l).set (0+i*3+j) v=vu (l.set i s'):=by
 have hi:=(gfGet.1 O).1;refine pD (λ_=>rfl) (by rw[List.length_set,ol,List.length_set]) λk x m u J I=>?_;have T:m<3:=by have:=(gfGet.1 I).1;simpa using this
 by_cases hk:k=i
 · subst hk
   rw[List.getElem?_set_self hi] at J;injection J with J;subst J;rw[<-h] at I
   by_cases K:m=j
   · subst K
     rw[List.getElem?_set_self (by simpa using T)] at I;rw[show 0+k*3+m=k*3+m by omega,List.getElem?_set_self (by rw[ol];omega)];exact I
   · rw[List.getElem?_set_ne (Ne.symm K)] at I
     rw[List.getElem?_set_ne am];have:=vE O m u I
     rwa [Nat.zero_add] at this
 · rw[List.getElem?_set_ne (Ne.symm hk)] at J
   rw[List.getElem?_set_ne am];have:=vE J m u I
   rwa [Nat.zero_add] at this
abbrev fh (vs:List Value) (l:List FK.Node):HP:=HP.all (dg vs l)
structure RA where
 gn:Nat
 cn:Nat
 gs:Nat
 cs:Nat
 vs:List Value
abbrev RA.nv (a:RA) (R:FK.Rn):Value:=.slice (some ⟨a.gn,0,none⟩) R.fl.KW.length a.cn
abbrev RA.sv (a:RA) (R:FK.Rn):Value:=.slice (some ⟨a.gs,0,none⟩) R.KV.length a.cs
abbrev Aa (a:RA) (R:FK.Rn):Array Value:=#[aw R.fl.deadline,a.nv R,aw R.state,a.sv R,.int .u64 R.ended]
abbrev Ad (I:Nat) (a:RA) (R:FK.Rn):HP:=blk I 263 (Aa a R)
abbrev o7 (I:Nat) (a:RA) (R:FK.Rn):List HP:=[HP.pure (a.vs.length=R.fl.KW.length),Ad I a R,row 46 7 (a.nv R) R.fl.KW.length (cL R.fl.KW a.vs),fh a.vs R.fl.KW,row 265 3 (a.sv R) R.KV.length (vu R.KV)]
def kR (I:Nat) (a:RA) (R:FK.Rn):HP:=HP.all (o7 I a R)
structure EA where
 rm:Nat
 tm:Nat
 w:Nat
 fb:Nat->Nat
 ra:Nat->RA
structure WOk (now sets:Nat) (tms:List FK.KD) (W:FK.WS):Prop where
 now:W.now=now
 seq:W.seq<=sets
 inv:FK.Inv W []
 tms:W.tms.map FK.kd=tms
def dC (w now sets:Nat) (tms:List FK.KD):HP:=HP.ex λW:FK.WS=>HP.all [HP.pure (WOk now sets tms W),cy w W]
abbrev eC (S:FK.En):Prop:=(S.runs.map (·.1)).Nodup
abbrev jw (S:FK.En) (p:EA):EC:=⟨S.seed,p.rm,p.tm,p.w,S.KT,S.KS,S.ends⟩
abbrev eM (S:FK.En) (p:EA):List (Nat×Value):=S.runs.map λr=>(r.1,aX (p.fb r.1))
abbrev dD (S:FK.En):List (Nat×Value):=S.KY.map λt=>(t.1,iz t.2)
abbrev gU (p:EA) (l:List (Nat×FK.Rn)):List HP:=l.map λr=>kR (p.fb r.1) (p.ra r.1) r.2
def fF (p:EA) (l:List (Nat×FK.Rn)):HP:=HP.all (gU p l)
abbrev jV (e:Nat) (p:EA) (S:FK.En):List HP:=[HP.pure (eC S),ee e (jw S p) S.KX,cP aQ p.rm (eM S p),fF p S.runs,cP aQ p.tm (dD S),dC p.w S.now S.sets S.tms]
def aN (e:Nat) (p:EA) (S:FK.En):HP:=HP.all (jV e p S)
class HasEng (l:List HP) (e:outParam Nat) (p:outParam EA) (S:outParam FK.En) (r:outParam (List HP)):Prop where
 sel:Sel (aN e p S) l r
instance HasEng.head {e:Nat} {p:EA} {S:FK.En} {l:List HP}:HasEng (aN e p S::l) e p S l:=⟨.head⟩
instance (priority:=low) HasEng.tail {e:Nat} {p:EA} {S:FK.En} {l r:List HP} {x:HP} [h:HasEng l e p S r]:HasEng (x::l) e p S (x::r):=⟨.tail h.sel⟩
theorem sh (h:S.getR id=some R):(id,R)∈S.runs:=by
 unfold FK.En.getR at h;cases hf:S.runs.find? (·.1==id) with
 | none=>rw[hf] at h;cases h
 | some x=>
  rw[hf] at h;injection h with h;have I:=List.find?_some hf;have J:=List.mem_of_find?_eq_some hf;obtain⟨a,b⟩:=x;have:a=id:=by simpa using I
  subst this;have:b=R:=h;subst this;exact J
theorem mw {size m g o:Nat} {vs:List Value} (h:(row t size (dp g m c) m xs).sat w F) (I:∀j u,vs[j]?=some u->xs[o+j]?=some u):gV g o vs w:=λj v J=>by
 have:=h.1.cells (g:=g) rfl (o+j) v (I j v J)
 rwa [add_plain,Nat.zero_add] at this
class SeesEng (l:List HP) (e:outParam Nat) (p:outParam EA) (S:outParam FK.En):Prop where
 star:∀{E:Env} {w:World},Holds E w l->∃F,Star w (jV e p S) F
instance SeesEng.has {e:Nat} {p:EA} {S:FK.En} {l r:List HP} [h:HasEng l e p S r]:SeesEng l e p S:=⟨λhw=>by
 obtain⟨F1,_,_,_,_,hp,_⟩:=(hw.sel h.sel).star;exact⟨F1,hp⟩⟩
instance (priority:=low) SeesEng.head {n e:Nat} {p:EA} {S:FK.En} {l:List HP}:SeesEng (SL.under n (aN e p S)::l) e p S:=⟨λhw=>by
 obtain⟨F1,_,_,_,_,hp,_⟩:=hw.star;exact⟨_,hp⟩⟩
instance (priority:=low) SeesEng.tail {e:Nat} {p:EA} {S:FK.En} {l:List HP} {x:HP} [h:SeesEng l e p S]:SeesEng (x::l) e p S:=⟨λhw=>h.star (hw.ent Ent.drop)⟩
section
variable {l:List HP} {p:EA} [H:SeesEng l e p S]
section
include H
theorem mK (hw:Holds E w l):∃F,Star w (jV e p S) F:=H.star hw
theorem nV (hw:Holds E w l):eC S:=by
 obtain⟨F,h⟩:=mK (H:=H) hw;have:=Star.mem (p:=HP.pure (eC S)) h cY;exact this
theorem bE (I:∀rv f n,(vB (jw S p) rv f n)[i]?=some v):∀w,Holds E w l->cq ⟨e,i,none⟩ v w:=λw hw=>by
 obtain⟨F,h⟩:=mK (H:=H) hw;obtain⟨⟨rv,N,f,rg⟩,J⟩:=Star.mem (p:=ee e (jw S p) S.KX) h cY;have K:(og e (jw S p) rv f S.KX.length).sat w F:=Star.mem (l:=[HP.pure (FK.RingOk N f S.KX rg),og e (jw S p) rv f S.KX.length,row 268 3 rv N (rV N rg)]) J cY;have:=K.2;simp only[cq,World.cell?,this];exact I _ _ _
theorem dZ:∀w,Holds E w l->jQ aQ p.rm (eM S p) w:=λw hw=>by
 obtain⟨F,h⟩:=mK (H:=H) hw;exact(Star.mem (p:=cP aQ p.rm (eM S p)) h cY).2
theorem Eu {I:FK.En} (h:S.runs=I.runs):∀w,Holds E w l->jQ aQ p.rm (eM I p) w:=λw hw=>by
 have:=dZ (H:=H) w hw;unfold eM at this;rw[h] at this;exact this
theorem nu:∀w,Holds E w l->jQ aQ p.tm (dD S) w:=λw hw=>by
 obtain⟨F,h⟩:=mK (H:=H) hw;exact(Star.mem (p:=cP aQ p.tm (dD S)) h cY).2
theorem lh (I:S.getR id=some R) (hw:Holds E w l):∃F,Star w (o7 (p.fb id) (p.ra id) R) F:=by
 obtain⟨F,h⟩:=mK (H:=H) hw;have J:Star w (gU p S.runs) F:=Star.mem (p:=fF p S.runs) h cY;have K:(kR (p.fb id) (p.ra id) R).sat w F:=Star.mem (l:=gU p S.runs) J (List.mem_map.2 ⟨(id,R),sh I,rfl⟩);exact⟨F,K⟩
theorem Fi (I:S.getR id=some R) (hw:Holds E w l):(p.ra id).vs.length=R.fl.KW.length:=by
 obtain⟨F,h⟩:=lh (H:=H) I hw;have:=Star.mem (p:=HP.pure ((p.ra id).vs.length=R.fl.KW.length)) h cY;exact this
theorem cK (I:S.getR id=some R) (J:(Aa (p.ra id) R)[i]?=some v):∀w,Holds E w l->cq ⟨p.fb id,i,none⟩ v w:=λw hw=>by
 obtain⟨F,h⟩:=lh (H:=H) I hw;have K:(Ad (p.fb id) (p.ra id) R).sat w F:=Star.mem h cY;have:=K.2;simp only[cq,World.cell?,this];exact J
theorem xt (I:S.getR id=some R) (J:R.KV[k]?=some s):∀w,Holds E w l->gV (p.ra id).gs (0+k*3) (vv s) w:=λw hw=>by
 obtain⟨F,h⟩:=lh (H:=H) I hw;exact mw (Star.mem (p:=row 265 3 ((p.ra id).sv R) R.KV.length (vu R.KV)) h cY) (λj u K=>vE J j u K)
theorem e9 (I:S.getR id=some R) (J:R.KV[k]?=some s) (K:(vv s)[j]?=some v):∀w,Holds E w l->cq ⟨(p.ra id).gs,0+k*3+j,none⟩ v w:=λw hw=>by
 have:=xt (H:=H) I J w hw j v K;exact this
theorem fw {nd:FK.Node} (J:S.getR id=some R) (O:R.fl.KW[k]?=some nd) (T:(p.ra id).vs[k]?=some u):∀w,Holds E w l->gV (p.ra id).gn (0+k*7) (bk nd u) w:=λw hw=>by
 obtain⟨F,h⟩:=lh (H:=H) J hw;exact mw (Star.mem (p:=row 46 7 ((p.ra id).nv R) R.fl.KW.length (cL R.fl.KW (p.ra id).vs)) h cY) (λj v K=>by
  have I:j<7:=by have:=(gfGet.1 K).1;simpa[bk] using this
  rw[Nat.zero_add,ly _ _ _ _ _ _ (Fi (H:=H) J hw) O T I];exact K)
theorem mL {nd:FK.Node} (T:S.getR id=some R) (Y:R.fl.KW[k]?=some nd) (hw:Holds E w l):∃A c,(p.ra id).vs[k]?=some (.slice A nd.after.length c)/\(A=none->nd.after.length=0/\c=0)/\(∀K,A=some K->∃g,K=⟨g,0,none⟩)/\nd.after.length<=c/\c<=maxLen:=by
 have hv:=Fi (H:=H) T hw;have hk:=(gfGet.1 Y).1;obtain⟨u,O⟩:∃u,(p.ra id).vs[k]?=some u:=⟨(p.ra id).vs[k]'am,by simp[hv,hk]⟩;obtain⟨F,h⟩:=lh (H:=H) T hw;have h1:=Star.mem (p:=fh (p.ra id).vs R.fl.KW) h cY;have hz:((p.ra id).vs.zip R.fl.KW)[k]?=some (u,nd):=by simp[List.getElem?_zip_eq_some,Y,O]
 have h2:(bG u nd.after).sat w F:=Star.mem (l:=dg (p.ra id).vs R.fl.KW) h1 (List.mem_map.2 ⟨(u,nd),bY hz,rfl⟩);obtain⟨mt,J⟩:=h2.1;rcases J with⟨rfl,h0⟩|⟨g,cap,wf,rfl,_,hg,hm,hc,hs,ht⟩
 · exact⟨none,0,by rw[O,h0],λ_=>⟨h0,rfl⟩,λ_ I=>(by cases I),am,Nat.zero_le _⟩
 · exact⟨_,cap,O,λI=>(by cases I),λK I=>(by injection I with I;exact⟨g,I.symm⟩),hm,hc⟩
theorem yk {g:Nat} {nd:FK.Node} {x:Int} (I:S.getR id=some R) (J:R.fl.KW[k]?=some nd) (K:(p.ra id).vs[k]?=some (dp g nd.after.length c)) (O:nd.after[j]?=some x):∀w,Holds E w l->cq ⟨g,0+j*1,none⟩ (aw x) w:=λw hw=>by
 obtain⟨F,h⟩:=lh (H:=H) I hw;have T:=Star.mem (p:=fh (p.ra id).vs R.fl.KW) h cY;have Y:((p.ra id).vs.zip R.fl.KW)[k]?=some (dp g nd.after.length c,nd):=by simp[List.getElem?_zip_eq_some,J,K]
 have h2:(bG (dp g nd.after.length c) nd.after).sat w F:=Star.mem (l:=dg (p.ra id).vs R.fl.KW) T (List.mem_map.2 ⟨_,bY Y,rfl⟩);have h3:=mw (o:=0) (vs:=eu nd.after) h2 (λj u hj=>by rwa [Nat.zero_add]);have h4:=h3 j (aw x) (by simp[eu,O])
 rwa [Nat.mul_one]
end
end
end Go.Y
variable {p:Go.Y.EA}
namespace Go.SL
open Go.RowKit
theorem Does.part {args:Array Value} {pre c:List HP} {R:Value->List HP->Prop} (h:Does P G f args pre R) (e:Ent r (pre++c)) (T:∀v m,R v m->∃J,R' v J/\Ent (m++c) J):Does P G f args r R':=λE w fr Y hw=>by
 have O:=(h.frame c).mono (R':=R') λv m ⟨J,O,h2⟩=>by subst h2;exact T v J O
 exact O E w fr Y<|hw.ent<|e.append fr
end Go.SL
namespace Go.Y
open Go.Proofs Go.RowKit Go.SL
theorem setR_keys (S:FK.En) (id:Nat) (R:FK.Rn):(S.setR id R).runs.map (·.1)=S.runs.map (·.1):=by
 unfold FK.En.setR;simp only[List.map_map];refine List.map_congr_left λx _=>?_;simp only[Function.comp_apply]
 split<;>rfl
theorem kB (h:S.getR id=some R) (Y:eC S):∃a b,S.runs=a++(id,R)::b/\∀R',(S.setR id R').runs=a++(id,R')::b:=by
 obtain⟨a,b,J⟩:=List.append_of_mem (sh h);refine⟨a,b,J,λR'=>?_⟩;have O:=Y;unfold eC at O;rw[J,List.map_append,List.map_cons] at O;have T:=List.nodup_append.1 O;have ha:∀x∈a,(x.1==id)=false:=λx I=>by
  have:=T.2.2 x.1 (List.mem_map_of_mem I) id cY;simpa using this
 have hb:∀x∈b,(x.1==id)=false:=λx I=>by
  have h1:=(List.nodup_cons.1 T.2.1).1;have:x.1≠id:=λe=>h1 (List.mem_map.2 ⟨x,I,e⟩);simpa using this
 have ma:(a.map λr=>if r.1==id then(r.1,R') else r)=a:=by
  conv=>rhs;rw[<-List.map_id a]
  exact List.map_congr_left λx I=>by simp[ha x I]
 have mb:(b.map λr=>if r.1==id then(r.1,R') else r)=b:=by
  conv=>rhs;rw[<-List.map_id b]
  exact List.map_congr_left λx I=>by simp[hb x I]
 show S.runs.map _=_;rw[J,List.map_append,List.map_cons,ma,mb];simp
theorem Ip (h:eC S):eC (S.setR id R):=by
 unfold eC;rw[setR_keys];exact h
theorem Kb (S:FK.En) (id:Nat) (R:FK.Rn) (p:EA):eM (S.setR id R) p=eM S p:=by
 have h:∀l:List (Nat×FK.Rn),(l.map λr=>(r.1,aX (p.fb r.1)))=(l.map (·.1)).map λk=>(k,aX (p.fb k)):=λl=>by rw[List.map_map];rfl
 unfold eM;rw[h,h,setR_keys]
abbrev nJ (e:Nat) (p:EA) (S:FK.En) (a b:List (Nat×FK.Rn)):List HP:=[ee e (jw S p) S.KX,cP aQ p.rm (eM S p),fF p (a++b),cP aQ p.tm (dD S),dC p.w S.now S.sets S.tms]
theorem kO {a b:List (Nat×FK.Rn)} (h:S.runs=a++(id,R)::b):Ent (aN e p S::r) (o7 (p.fb id) (p.ra id) R++(nJ e p S a b++r)):=by
 refine Ent.unall.trans ?_;refine(Ent.drop (p:=HP.pure (eC S))).trans ?_;have J:Ent (fF p S.runs::cP aQ p.tm (dD S)::dC p.w S.now S.sets S.tms::r) (kR (p.fb id) (p.ra id) R::fF p (a++b)::cP aQ p.tm (dD S)::dC p.w S.now S.sets S.tms::r):=by
  refine(Ent.unall (m:=gU p S.runs)).trans ?_;have O:((gU p S.runs)++(cP aQ p.tm (dD S)::dC p.w S.now S.sets S.tms::r)).Perm (kR (p.fb id) (p.ra id) R::(gU p (a++b)++(cP aQ p.tm (dD S)::dC p.w S.now S.sets S.tms::r))):=by
   rw[h];have I:=(List.perm_middle (a:=(id,R)) (l₁:=a) (l₂:=b)).map λr=>kR (p.fb r.1) (p.ra r.1) r.2;rw[List.map_cons] at I;exact I.append_right _
  exact(Ent.perm O).trans (Ent.cons (Ent.all (m:=gU p (a++b))))
 refine(Ent.cons (Ent.cons J)).trans ?_;exact gfE2.trans<|Ent.unall (m:=o7 (p.fb id) (p.ra id) R)
theorem j4 {R':FK.Rn} {a b:List (Nat×FK.Rn)} (J:eC S) (h:(S.setR id R').runs=a++(id,R')::b):Ent (o7 (p.fb id) (p.ra id) R'++(nJ e p S a b++r)) (aN e p (S.setR id R')::r):=by
 refine(Ent.all (m:=o7 (p.fb id) (p.ra id) R')).trans ?_;have O:Ent (kR (p.fb id) (p.ra id) R'::fF p (a++b)::cP aQ p.tm (dD S)::dC p.w S.now S.sets S.tms::r) (fF p (S.setR id R').runs::cP aQ p.tm (dD S)::dC p.w S.now S.sets S.tms::r):=by
  refine(Ent.cons (Ent.unall (m:=gU p (a++b)))).trans ?_;have T:(kR (p.fb id) (p.ra id) R'::(gU p (a++b)++(cP aQ p.tm (dD S)::dC p.w S.now S.sets S.tms::r))).Perm ((gU p (S.setR id R').runs)++(cP aQ p.tm (dD S)::dC p.w S.now S.sets S.tms::r)):=by
   rw[h];have I:=((List.perm_middle (a:=(id,R')) (l₁:=a) (l₂:=b)).map λr=>kR (p.fb r.1) (p.ra r.1) r.2).symm;rw[List.map_cons] at I;exact I.append_right _
  exact(Ent.perm T).trans (Ent.all (m:=gU p (S.setR id R').runs))
 refine(cF bJ bJ .head).trans ((Ent.cons (Ent.cons O)).trans ?_);refine(Ent.pure (Ip (id:=id) (R:=R') J)).trans ?_;have Y:cP aQ p.rm (eM S p)=cP aQ p.rm (eM (S.setR id R') p):=by rw[Kb]
 rw[Y];exact Ent.all (m:=jV e p (S.setR id R'))
section
variable {l:List HP} {pos:String} {x y:Operand} [H:HasEng l e p S r]
theorem li {o:Nat} {s':FK.Sp} (Y:S.getR id=some R) (O:R.KV[k]?=some s) (hz:df P t 1) (hx:ev ts x=some (.pointer (some ⟨(p.ra id).gs,o,none⟩))) (hy:ev ts y=some v) (ho:o=0+k*3+j) (hj:j<3) (hv:v.oneCell'=true) (I:(vv s).set j v=vv s')
 (hk:At E n D ts (aN e p (S.setR id (R.setS k s'))::r) K):At E n D ts l (λa w=>(Oper.mk none (.store t x y) ty pos af g).wp P a w K Q):=by
 refine bt (p:=eC S) (λw hw=>nV hw) λT=>?_;obtain⟨a,b,J,hset'⟩:=kB Y T;refine aq ((Ent.sel H.sel).trans (kO J)) ?_;have mt:=(gfGet.1 O).1;refine fD (l:=o7 (p.fb id) (p.ra id) R++(nJ e p S a b++r)) kT hz hx hy hv am ?_;refine aq ?_ hk;subst ho;rw[rX O hj I];refine Ent.trans ?_<|j4 T<|hset'<|R.setS k s'
 have hl:(R.setS k s').KV.length=R.KV.length:=by simp[FK.Rn.setS]
 refine((cF bJ bJ bJ).trans (Ent.cons (Ent.cons (Ent.cons gfE1)))).trans ?_;show Ent (HP.pure ((p.ra id).vs.length=R.fl.KW.length)::Ad (p.fb id) (p.ra id) R::row 46 7 ((p.ra id).nv R) R.fl.KW.length (cL R.fl.KW (p.ra id).vs)::fh (p.ra id).vs R.fl.KW::row 265 3 ((p.ra id).sv R) R.KV.length (vu (R.KV.set k s'))::(nJ e p S a b++r)) (HP.pure ((p.ra id).vs.length=R.fl.KW.length)::blk (p.fb id) 263 #[aw R.fl.deadline,(p.ra id).nv R,aw R.state,.slice (some ⟨(p.ra id).gs,0,none⟩) (R.setS k s').KV.length (p.ra id).cs,.int .u64 R.ended]::row 46 7 ((p.ra id).nv R) R.fl.KW.length (cL R.fl.KW (p.ra id).vs)::fh (p.ra id).vs R.fl.KW::row 265 3 (.slice (some ⟨(p.ra id).gs,0,none⟩) (R.setS k s').KV.length (p.ra id).cs) (R.setS k s').KV.length (vu (R.KV.set k s'))::(nJ e p S a b++r));rw[hl];exact aT
theorem DY {o:Nat} {s':FK.Sp} (Y:S.getR id=some R) (hs:R.KV[k]?=some s) (hz:df P t 3) (hx:ev ts x=some (.pointer (some ⟨(p.ra id).gs,o,none⟩))) (hy:ev ts y=some (.agg (vv s').toArray)) (ho:o=0+k*3)
 (hk:At E n D ts (aN e p (S.setR id (R.setS k s'))::r) K):At E n D ts l (λa w=>(Oper.mk none (.store t x y) ty pos af g).wp P a w K Q):=by
 refine bt (p:=eC S) (λw hw=>nV hw) λO=>?_;obtain⟨a,b,I,hset'⟩:=kB Y O;refine aq ((Ent.sel H.sel).trans (kO I)) ?_;have J:=(gfGet.1 hs).1;refine eX (l:=o7 (p.fb id) (p.ra id) R++(nJ e p S a b++r)) (vs:=vv s') kT hz rfl hx hy (by intro u T;simp only[List.mem_cons,List.not_mem_nil,or_false] at T;rcases T with rfl|rfl|rfl<;>rfl) am ?_;refine aq ?_ hk;subst ho;rw[Il J];refine Ent.trans ?_<|j4 O<|hset'<|R.setS k s'
 have hl:(R.setS k s').KV.length=R.KV.length:=by simp[FK.Rn.setS]
 refine((cF bJ bJ bJ).trans (Ent.cons (Ent.cons (Ent.cons gfE1)))).trans ?_;show Ent (HP.pure ((p.ra id).vs.length=R.fl.KW.length)::Ad (p.fb id) (p.ra id) R::row 46 7 ((p.ra id).nv R) R.fl.KW.length (cL R.fl.KW (p.ra id).vs)::fh (p.ra id).vs R.fl.KW::row 265 3 ((p.ra id).sv R) R.KV.length (vu (R.KV.set k s'))::(nJ e p S a b++r)) (HP.pure ((p.ra id).vs.length=R.fl.KW.length)::blk (p.fb id) 263 #[aw R.fl.deadline,(p.ra id).nv R,aw R.state,.slice (some ⟨(p.ra id).gs,0,none⟩) (R.setS k s').KV.length (p.ra id).cs,.int .u64 R.ended]::row 46 7 ((p.ra id).nv R) R.fl.KW.length (cL R.fl.KW (p.ra id).vs)::fh (p.ra id).vs R.fl.KW::row 265 3 (.slice (some ⟨(p.ra id).gs,0,none⟩) (R.setS k s').KV.length (p.ra id).cs) (R.setS k s').KV.length (vu (R.KV.set k s'))::(nJ e p S a b++r));rw[hl];exact aT
theorem CH {R':FK.Rn} (hR:S.getR id=some R) (hz:df P t 1) (hx:ev ts x=some (.pointer (some ⟨p.fb id,i,none⟩))) (hy:ev ts y=some v) (hi:i<5) (hv:v.oneCell'=true) (J:R'.fl=R.fl) (O:R'.KV=R.KV) (I:(Aa (p.ra id) R).setIfInBounds i v=Aa (p.ra id) R')
 (hk:At E n D ts (aN e p (S.setR id R')::r) K):At E n D ts l (λa w=>(Oper.mk none (.store t x y) ty pos af g).wp P a w K Q):=by
 refine bt (p:=eC S) (λw hw=>nV hw) λY=>?_;obtain⟨a,b,T,hset'⟩:=kB hR Y;refine aq ((Ent.sel H.sel).trans (kO T)) ?_;refine aq gfE1 ?_;refine co (b:=p.fb id) (cs:=Aa (p.ra id) R) Z hz hx hy hv (by simpa using hi) ?_;rw[I];refine aq ?_ hk;refine Ent.trans ?_<|j4 Y<|hset' R'
 refine gfE1.trans ?_;unfold o7 RA.nv RA.sv;rw[J,O];exact aT
theorem re {S':FK.En} (J:df P t 1) (O:ev ts x=some (.pointer (some ⟨e,i,none⟩))) (T:ev ts y=some v) (hi:i<10) (Y:v.oneCell'=true) (I:∀rv f n,(vB (jw S p) rv f n).setIfInBounds i v=vB (jw S' p) rv f n)
 (h1:S'.KX=S.KX) (h2:S'.runs=S.runs) (h3:S'.KY=S.KY) (h4:S'.now=S.now) (h5:S'.sets=S.sets) (h6:S'.tms=S.tms) (hk:At E n D ts (aN e p S'::r) K):At E n D ts l (λa w=>(Oper.mk none (.store t x y) ty pos af g).wp P a w K Q):=by
 refine aq (Ent.sel H.sel)<|bH ?_
 refine Gn (h:=⟨.tail .head⟩) (e:=e) (i:=i) (C:=jw S p) (C':=jw S' p) J O T Y hi I ?_;refine aq ?_ hk;refine Ent.trans ?_<|Ent.all (m:=jV e p S')
 unfold jV eC eM dD;rw[h1,h2,h3,h4,h5,h6];exact gfE1
end
theorem nC {args:Array Value} {R:Value->List HP->Prop} (h:Does Tryz.prog G f args [ee e (jw S p) S.KX] R) (I:∀v m,R v m->∃q,m=[ee e (jw S p) q]/\R' v [aN e p {S with KX:=q}]):Does Tryz.prog G f args [aN e p S] R':=by
 refine Does.part (c:=[HP.pure (eC S),cP aQ p.rm (eM S p),fF p S.runs,cP aQ p.tm (dD S),dC p.w S.now S.sets S.tms]) h ((Ent.unall (m:=jV e p S)).trans gfE1) λv m J=>?_;obtain⟨q,rfl,O⟩:=I v m J;exact⟨_,O,gfE1.trans (Ent.all (m:=jV e p {S with KX:=q}))⟩
theorem DI (q:FK.Pl) (I:S.KX.length<=400):dx G 175 [qE e,iz q] [aN e p S] λv m=>v=.tuple #[]/\m=[aN e p {S with KX:=S.KX++[q]}]:=
 nC (tf e _ q I) λ_ _ ⟨J,O⟩=>⟨_,O,J,rfl⟩
theorem r6:dx G 161 [qE e] [aN e p S] λv m=>v=aw S.KX.length/\m=[aN e p S]:=
 nC (DL e _) λ_ _ ⟨I,J⟩=>⟨S.KX,J,I,rfl⟩
theorem Iy {q:FK.Pl} (I:S.KX[k]?=some q):dx G 162 [qE e,aw k] [aN e p S] λv m=>v=iz q/\m=[aN e p S]:=
 nC (Gb e _ I) λ_ _ ⟨J,O⟩=>⟨S.KX,O,J,rfl⟩
theorem sH {now sets:Nat} {tms:List FK.KD} (h:(dC id now sets tms).sat w F):∃W,WOk now sets tms W/\(cy id W).sat w F:=by
 obtain⟨W,J⟩:=h;refine⟨W,?_,?_⟩
 · have:=Star.mem (p:=HP.pure (WOk now sets tms W)) (l:=[HP.pure (WOk now sets tms W),cy id W]) J cY
   exact this
 · exact Star.mem (l:=[HP.pure (WOk now sets tms W),cy id W]) J cY
theorem lT {args:Array Value} (h:∀W,WOk S.now S.sets S.tms W->Does Tryz.prog G f args [cy p.w W] λv m=>∃I now sets tms,m=[cy p.w I]/\WOk now sets tms I/\R' v [aN e p {S with now:=now,sets:=sets,tms:=tms}]):Does Tryz.prog G f args [aN e p S] R':=by
 refine Does.part (pre:=[dC p.w S.now S.sets S.tms]) (R:=λv m=>∃now sets tms,m=[dC p.w now sets tms]/\R' v [aN e p {S with now:=now,sets:=sets,tms:=tms}]) (c:=[HP.pure (eC S),ee e (jw S p) S.KX,cP aQ p.rm (eM S p),fF p S.runs,cP aQ p.tm (dD S)]) ?_ ((Ent.unall (m:=jV e p S)).trans gfE5) ?_
 · intro E w fr hE hw
   obtain⟨F1,F2,T,Y,hd,hp,hl⟩:=hw.star;obtain⟨W,hW,hs⟩:=sH hp;refine(((h W hW).mono (R':=λv m=>∃now sets tms,m=[dC p.w now sets tms]/\R' v [aN e p {S with now:=now,sets:=sets,tms:=tms}]) ?_)) E w fr hE ⟨hw.is,F1,F2,T,Y,hd,hs,hl⟩;rintro v m ⟨I,now,sets,tms,rfl,J,O⟩;refine⟨_,⟨now,sets,tms,rfl,O⟩,?_⟩;exact(Ent.pure J).trans ((Ent.all (m:=[HP.pure (WOk now sets tms I),cy p.w I])).trans (Ent.ex (f:=λW:FK.WS=>HP.all [HP.pure (WOk now sets tms W),cy p.w W]) I))
 · rintro v m ⟨now,sets,tms,rfl,O⟩
   refine⟨_,O,?_⟩;refine Ent.trans ?_<|Ent.all (m:=jV e p {S with now:=now,sets:=sets,tms:=tms})
   exact(cF bJ bJ bJ).trans (Ent.cons (Ent.cons (Ent.cons (bo bJ bJ))))
theorem vX:dx G 180 [aX p.w] [aN e p S] λv m=>v=.int .u64 S.now/\m=[aN e p S]:=by
 refine lT λW I=>(Gs p.w).mono ?_;rintro v m ⟨rfl,rfl⟩;exact⟨_,⟨W,S.now,S.sets,S.tms,rfl,I,by rw[I.now],rfl⟩,aT⟩
theorem sy (k:FK.Pl) (hl:S.tms.length<=99999):dx G 202 [aX p.w,iz k] [aN e p S] λv m=>v=.tuple #[]/\m=[aN e p (S.unset k)]:=by
 refine lT λW I=>(ye p.w k I.inv (by have:=congrArg List.length I.tms;rw[List.length_map] at this;omega)).mono ?_;rintro v m ⟨rfl,J,O,T,h3,Y,rfl⟩;exact⟨_,⟨J,S.now,S.sets,S.tms.filter λx=>x.1 !=k,rfl,⟨T.trans I.now,h3▸I.seq,O,by rw[Y,I.tms]⟩,rfl,rfl⟩,aT⟩
theorem qT (k:FK.Pl) (a:Nat) (J:S.now<=a) (O:a<=4611686018427387904) (h3:S.sets<9223372036854775807) (hl:S.tms.length<=99998):dx G 158 [aX p.w,iz k,.int .u64 a] [aN e p S] λv m=>v=.tuple #[]/\m=[aN e p (S.setT k a)]:=by
 refine lT λW I=>(Io p.w k a I.inv (I.now▸J) O (Nat.lt_of_le_of_lt I.seq h3) (by have:=congrArg List.length I.tms;rw[List.length_map] at this;omega)).mono ?_;rintro v m ⟨rfl,T,Y,g2,g3,g4,rfl⟩;exact⟨_,⟨T,S.now,S.sets+1,S.tms.filter (λx=>x.1 !=k)++[(k,a)],rfl,⟨g2.trans I.now,by rw[g3];exact Nat.succ_le_succ I.seq,Y,by rw[g4,I.tms]⟩,rfl,rfl⟩,aT⟩
theorem BF (xs:List Int) (A:Option Addr) (c:Nat) (v:Int):dx G 254 [.slice A xs.length c,aw v] [bG (.slice A xs.length c) xs] λu m=>(∃i:Int,u=aw i/\(0<=i<->v∈xs))/\m=[bG (.slice A xs.length c) xs]:=by
 refine bA Tryz.func254 Z λE fr hE=>aa<|aK .head ?_
 intro A' c' hA O J wf T _;injection hA with hA _ mt;subst hA;subst mt;replace T:c<=9223372036854775807:=T;refine sS<|sB Z<|sQ<|bq Z<|sP (bp Z Z)<|sM Z<|sN<|ag<|aO (X:=Nat) (λk=>[(8,aw k),(7,aw xs.length),(0,.slice A xs.length c),(1,aw v)]) (λ_=>bG (.slice A xs.length c) xs::fr) (λk=>k<=xs.length/\∀j,j<k->xs[j]?≠some v) (λk=>xs.length-k) 0 ⟨am,λj hj=>by omega⟩ bV aT ?_
 rintro k ⟨hk,Y⟩;refine sS<|sP (bz Z Z Z)<|sN<|sQ<|aB Z (λc9=>?_) λc9=>?_
 ·
  have K:k<xs.length:=am;obtain⟨g,rfl⟩:∃g,A=some ⟨g,0,none⟩:=by
   cases A with
   | none=>have:=(O rfl).1;omega
   | some ad=>obtain⟨g,rfl⟩:=J ad rfl;exact⟨g,rfl⟩
  obtain⟨o,ho⟩:∃o,xs[k]?=some o:=⟨xs[k],by simp[K]⟩;refine ae<|sT<|sQ<|ag<|bq Z<|sB Z<|bq Z<|sM Z<|ch Z (aS (z:=1) Z Z Z Z K)<|bF (au Z) (il .head (by rw[Nat.zero_add,Nat.mul_one,eu,List.getElem?_map,ho];rfl)) ?_
  refine sP (aY Z Z Z)<|sN<|aB Z (λI=>?_) λI=>?_
  ·
   subst I;refine bq Z<|sB Z<|an<|aH<|aC<|bP<|aH<|aC<|ar [_] rfl Z ⟨⟨_,rfl,by simp[bY ho]⟩,rfl⟩ aT
  ·
   refine ae<|al<|sT<|sG<|sP (bc (r:=((k+1:Nat):Int)) Z Z dP)<|sM Z<|ao<|aE (k+1) ⟨K,λj hj=>(by rcases Nat.lt_succ_iff_lt_or_eq.1 hj with h|rfl;exact Y j h;rw[ho];intro h;injection h with h;exact I h.symm)⟩ am bV aT
 ·
  refine aL<|aA<|az<|ap<|sT<|sS<|sB Z<|an<|ar [_] rfl Z ⟨⟨_,rfl,?_⟩,rfl⟩ aT
  have:v∉xs:=λh=>by
   obtain⟨j,hj,e⟩:=List.getElem_of_mem h;exact Y j am (by simp[hj,e])
  simp[this]
theorem ue (xs:List Int) (A:Option Addr) (c:Nat) (v:Int):dx G 231 [.slice A xs.length c,aw v] [bG (.slice A xs.length c) xs] λu m=>u=.bool (decide (v∈xs))/\m=[bG (.slice A xs.length c) xs]:=by
 refine bA Tryz.func231 Z λE fr I=>aa<|sS<|sB Z<|bq Z<|sM Z<|bU Z (BF xs A c v) aT ?_
 rintro v m ⟨⟨i,rfl,hi⟩,rfl⟩;refine aa<|sP (mA Z Z Z)<|sB Z<|an<|ar [_] rfl Z ⟨by congr 1;exact decide_eq_decide.2 hi,rfl⟩ aT
theorem Fv {X:HP} {gs cs:Nat} (xs:List Int) (A:Option Addr) (c:Nat) (J:∀E w r,Holds E w (X::r)->cq ⟨e,3,none⟩ (dp gs n cs) w) (K:∀E w r,Holds E w (X::r)->cq ⟨gs,0+k*3+0,none⟩ (aw st) w) (hk:k<n):dx G 204 [aX e,aw k,.slice A xs.length c] [X,bG (.slice A xs.length c) xs] λu m=>u=.bool (decide (st∈xs))/\m=[X]:=by
 refine bA Tryz.func204 Z λE fr O=>aD<|sS<|sB Z<|bq Z<|cG 3 Z Z<|bF (au Z) (λw hw=>J _ _ _ hw)<|ch Z (aS Z Z Z Z hk)<|bn 0 Z<|bF (au Z) (λw hw=>K _ _ _ hw)<|bW Z (ue xs A c st) gfE1<|aa<|sB Z<|an<|ar [_] rfl Z ⟨rfl,rfl⟩ Ent.drop
theorem rh (xs:List Int) (A:Option Addr) (c:Nat) (E:S.getR id=some R) (I:R.KV[k]?=some s):dx G 204 [aX (p.fb id),aw k,.slice A xs.length c] [aN e p S,bG (.slice A xs.length c) xs] λu m=>u=.bool (decide (s.state∈xs))/\m=[aN e p S]:=
 Fv (n:=R.KV.length) (cs:=(p.ra id).cs) (gs:=(p.ra id).gs) xs A c (λ_ w _ hw=>cK (i:=3) E rfl w hw) (λ_ w _ hw=>e9 E I rfl w hw) (gfGet.1 I).1
theorem se {h:Nat} (xs:List Int) (A:Option Addr) (c:Nat) (E:S.getR id=some R) (I:R.KV[k]?=some s):dx G 204 [aX (p.fb id),aw k,.slice A xs.length c] [SL.under h (aN e p S),bG (.slice A xs.length c) xs] λu m=>u=.bool (decide (s.state∈xs))/\m=[SL.under h (aN e p S)]:=
 Fv (n:=R.KV.length) (cs:=(p.ra id).cs) (gs:=(p.ra id).gs) xs A c (λ_ w _ hw=>cK (i:=3) E rfl w hw) (λ_ w _ hw=>e9 E I rfl w hw) (gfGet.1 I).1
theorem lS (span:Int) (I:S.now<=4611686018427387904) (J:0<=span) (K:span<=4611686018427387904):dx G 159 [aX e,aw span] [aN e p S] λu m=>u=.int .u64 (S.later span.toNat)/\m=[aN e p S]:=by
 refine bA Tryz.func159 Z λE fr O=>aa<|sS<|sB Z<|sS<|cG 6 Z Z ?_
 refine bF (au (v:=aX p.w) Z) (bE λ_ _ _=>rfl) ?_;refine bW Z vX aT ?_;refine aa<|ch Z (dN (r:=span) Z Z Z (by rw[km];omega))<|sP (bc (r:=((S.now+span.toNat:Nat):Int)) Z Z (by rw[km];omega)) ?_
 refine sP (Fz (r:=((S.later span.toNat:Nat):Int)) Z Z (by unfold FK.En.later;omega)) ?_;exact sB Z<|an<|ar [_] rfl Z ⟨rfl,rfl⟩ aT
theorem uU (q:FK.Pl) (nd:FK.Node) (u:Value) (O:S.now<=4611686018427387904) (T:nd.beat<=4611686018427387904) (h3:S.sets<9223372036854775807) (Y:S.tms.length<=99998):dx G 164 [aX e,iz q,.agg (bk nd u).toArray] [aN e p S] λv m=>v=.tuple #[]/\m=[aN e p (S.life q nd)]:=by
 have J:∀n,S.now<=S.later n:=λn=>by unfold FK.En.later;omega
 have I:∀n,S.later n<=4611686018427387904:=λn=>by unfold FK.En.later;omega
 refine bA Tryz.func164 Z λE fr hE=>aa<|sS<|sO (cR Z Z λb4=>(sO (cR Z Z λb5=>(sN (sS (bn 2 Z (aR Z Z Z Z (sP (dY Z Z Z) (sN ?_)))))))))
 refine aB Z (λc8=>?_) λc8=>?_
 ·
  have K:0<nd.beat:=am;refine sZ Z<|dT Z Z<|dt 6 Z Z Z ?_
  refine jh 3 Z (au Z) (bE λ_ _ _=>rfl) ?_;refine dj 4 Z (bl 0 Z)<|bQ Z (au Z) (ah Z)<|bC Z (bl 1 Z)<|bQ Z (au Z) (ah Z)<|bC Z (bI (cs:=#[.int .u64 q.run,aw q.node,aw 2]) Z Z Z Z Z)<|cv Z Z<|bC Z (bl 2 Z)<|bQ Z (au Z) (ah Z) ?_
  refine dA 12 Z<|ed Z (lS nd.beat O am T) gfE2 ?_
  rintro v m ⟨rfl,rfl⟩;refine aa ?_;refine dK [false,true,true,true] (ai (ah Z) (ai (ah Z) (ai (bE λ_ _ _=>rfl) ak))) ?_;refine dA 13 Z<|ed Z (qT ⟨q.run,q.node,2⟩ (S.later nd.beat.toNat) (J _) (I _) h3 Y) aT ?_
  rintro v m ⟨rfl,rfl⟩;refine aa<|dK [true,true,false] (ai (ah Z) (ai (ah Z) ak))<|dE ?_
  exact bD [aN e p (S.life q nd)] rfl ⟨rfl,rfl⟩ (by unfold FK.En.life;rw[if_pos K];exact Ent.cons (Ent.drop.trans Ent.drop))
 ·
  have K:¬0<nd.beat:=am;refine ae ?_;exact bD [aN e p (S.life q nd)] rfl ⟨rfl,rfl⟩ (by unfold FK.En.life;rw[if_neg K];exact Ent.drop.trans Ent.drop)
theorem lI (l:List (Nat×α)) (f:Nat->α->Value) (k:Nat):eh (l.map λr=>(r.1,f r.1 r.2)) k=((l.find? (·.1==k)).map λr=>f k r.2):=by
 unfold eh
 induction l with
 | nil=>rfl
 | cons x l E=>
  simp only[List.map_cons,List.find?_cons];cases h:x.1==k with
  | true=>
   have:x.1=k:=by simpa using h
   simp[this]
  | false=>exact E
theorem gi (h:S.getR id=some R):eh (eM S p) id=some (aX (p.fb id)):=by
 unfold eM;rw[lI S.runs (λk _=>aX (p.fb k)) id];unfold FK.En.getR at h;cases hf:S.runs.find? (·.1==id) with
 | none=>rw[hf] at h;cases h
 | some x=>rfl
theorem pq (h:S.getR id=none):eh (eM S p) id=none:=by
 unfold eM;rw[lI S.runs (λk _=>aX (p.fb k)) id];unfold FK.En.getR at h;cases hf:S.runs.find? (·.1==id) with
 | none=>rfl
 | some x=>rw[hf] at h;cases h
theorem lp {t:Nat}:eh (dD S) t=((S.KY.find? (·.1==t)).map λx=>iz x.2):=by
 unfold dD;rw[lI S.KY (λ_ q=>iz q) t]
theorem tj (I:S.getR id=some R) (J:R.KV[k]?=some s) (K:S.KX.length<=400):dx G 205 [aX e,iz ⟨id,(k:Int),wh⟩] [aN e p S] λv m=>v=.tuple #[]/\m=[aN e p (S.ready id k)]:=by
 have hk:=(gfGet.1 J).1;refine bA Tryz.func205 Z λE fr O=>aa<|sS<|sO (cR Z Z λT=>(sN (sQ (sZ Z (dT Z Z (bC Z (cI Z) (bC Z (bl 1 Z) (jh 3 Z (au Z) (bE λ_ _ _=>rfl) (dj 4 Z (bl 0 Z)<|bQ Z (au Z) (ah Z)<|bQ Z (gy Z fc Z Z (gi I)) dZ<|dt 3 Z Z Z<|bQ Z (au Z) (cK I Z)<|bC Z (bl 1 Z)<|bQ Z (au Z) (ah Z)<|bC Z (aS Z Z Z Z hk)<|bC Z (bl 0 Z) (dA 14 Z<|li (s':={s with state:=2}) I J Z Z Z Z am Z Z (dK [false,false,false,false,false] ak<|dE<|sT<|sS<|bn 2 Z<|bR Z Z Z Z (by show 2<3;omega)<|sN ?_)))))))))))
 refine sZ Z<|dT Z Z<|dt 3 Z Z Z<|bQ Z (bO Z) (bm Z)<|dA 4 Z<|ed Z (DI ⟨id,(k:Int),0⟩ (by exact K)) gfE1 ?_
 rintro v m ⟨rfl,rfl⟩;refine aa<|dK [false] ak<|dE<|bD [aN e p (S.ready id k)] rfl ⟨rfl,rfl⟩ (by unfold FK.En.ready;rw[FK.rN _ I J];exact Ent.cons Ent.drop)
theorem yw (S:FK.En) (t:Nat):(dD S).eraseP (·.1==t)=dD {S with KY:=S.KY.eraseP (·.1==t)}:=by
 unfold dD;rw[List.eraseP_map]
 rfl
section
variable {l:List HP} {pos:String} {x y:Operand} [H:HasEng l e p S r]
theorem DZ {tok:Nat} {t I J:TypeId} (O:d=none) (T:P.underlying t=some (.map I J)) (hk:KeyK P I Nat aQ) (Y:ev ts x=some (.map (some p.tm))) (hy:ev ts y=some (aQ tok))
 (h:At E n D ts (aN e p {S with KY:=S.KY.eraseP (·.1==tok)}::r) K):At E n D ts l (λac w=>(Oper.mk d (.call {callee:=.builtin .delete,args:=#[x,y],argTypes:=#[t,I]}) ty pos af g).wp P ac w K Q):=by
 refine aq (Ent.sel H.sel)<|bH ?_
 show At E n D ts (HP.pure (eC S)::ee e (jw S p) S.KX::cP aQ p.rm (eM S p)::fF p S.runs::cP aQ p.tm (dD S)::dC p.w S.now S.sets S.tms::r) _;refine vI (b:=p.tm) (a:=tok) O T hk Y hy kT ?_;rw[yw];refine aq ?_ h;refine Ent.trans ?_<|Ent.all (m:=jV e p {S with KY:=S.KY.eraseP (·.1==tok)})
 exact(cF bJ bJ bJ).trans (Ent.cons (Ent.cons (Ent.cons gfE1)))
end
theorem lO (I:S.getR id=some R) (J:R.KV[k]?=some s) (T:S.tms.length<=99999):dx G 232 [aX e,iz ⟨id,(k:Int),wh⟩] [aN e p S] λv m=>v=.pointer (some ⟨(p.ra id).gs,0+k*3,none⟩)/\m=[aN e p (S.leave id k)]:=by
 have hk:=(gfGet.1 J).1;refine bA Tryz.func232 Z λE fr Y=>aa<|sS<|sO (cR Z Z λb3=>(sB Z (sQ (sZ Z (dT Z Z (bC Z (cI Z) (bC Z (bl 1 Z) ?_)))))))
 refine jh 3 Z (au Z) (bE λ_ _ _=>rfl) ?_;refine dj 4 Z (bl 0 Z)<|bQ Z (au Z) (ah Z)<|bQ Z (gy (a:=id) (v:=aX (p.fb id)) Z fc Z Z (gi I)) dZ<|dt 3 Z Z Z<|bQ Z (au (v:=(p.ra id).sv R) Z) (cK I Z)<|bC Z (bl 1 Z)<|bQ Z (au Z) (ah Z)<|bC Z (aS (z:=3) Z Z Z Z hk)<|bC Z (aU Z)<|dE<|sT<|sQ<|sZ Z<|dT Z Z<|dt 2 Z Z Z ?_
 refine jh 3 Z (au Z) (bE λ_ _ _=>rfl) ?_;refine dj 4 Z (bd Z)<|dt 2 Z Z Z<|bQ Z (au (v:=.int .u64 s.token) Z) (e9 I J Z)<|vw Z<|DZ (tok:=s.token) Z Z fc Z Z<|dK [false,false] ak<|dE<|sT<|sQ ?_
 have O:{S with KY:=S.KY.eraseP (·.1==s.token)}.getR id=some R:=I;refine sG<|cG 2 Z Z ?_
 refine sO<|li (s':={s with token:=0}) O J Z Z Z Z am Z Z ?_
 refine sN<|sQ<|sZ Z<|dT Z Z<|dt 6 Z Z Z ?_
 refine jh 3 Z (au Z) (bE λ_ _ _=>rfl) ?_;refine dj 4 Z (bl 0 Z)<|bQ Z (au Z) (ah Z)<|bC Z (bl 1 Z)<|bQ Z (au Z) (ah Z)<|bC Z (bI (cs:=#[.int .u64 id,aw (k:Int),aw 1]) Z Z Z Z Z) ?_
 refine dA 9 Z<|ed Z (sy ⟨id,(k:Int),1⟩ (by exact T)) aT ?_
 rintro v m ⟨rfl,rfl⟩;refine aa<|dK [true,true,false] (ai (ah Z) (ai (ah Z) ak))<|dE<|sT<|sQ<|sZ Z<|dT Z Z<|dt 6 Z Z Z ?_
 refine jh 3 Z (au Z) (bE λ_ _ _=>rfl) ?_;refine dj 4 Z (bl 0 Z)<|bQ Z (au Z) (ah Z)<|bC Z (bl 1 Z)<|bQ Z (au Z) (ah Z)<|bC Z (bI (cs:=#[.int .u64 id,aw (k:Int),aw 2]) Z Z Z Z Z) ?_
 refine dA 9 Z<|ed Z (sy ⟨id,(k:Int),2⟩ (Nat.le_trans (List.length_filter_le _ _) (by exact T))) aT ?_
 rintro v m ⟨rfl,rfl⟩;refine aa<|dK [true,true,false] (ai (ah Z) (ai (ah Z) ak))<|dE<|sT<|bq Z<|sB Z<|an ?_
 exact ar [aN e p (S.leave id k)] rfl Z ⟨rfl,rfl⟩ (by rw[FK.fe I J];exact Ent.cons Ent.drop)
theorem Er [BEq α] {enc:α->Value} {J:TypeId} {x y:Operand} {m:List (α×Value)} {a:α} {z:Value} {o:Bool} (O:P.underlying t=some (.map ty J)) (hk:KeyK P ty α enc) (T:iD P J z) (Y:ev ts x=some (.map (some b))) (hy:ev ts y=some (enc a)) (hv:(eh m a).getD z=v) (ho:(eh m a).isSome=o) :
 Ev P ts (.lookup t x y true) (.tuple #[v,.bool o]) (jQ enc b m):=by
 subst hv;subst ho;exact xZ O hk T Y hy
theorem yj:dx G 99 [aX e] [aN e p S] λv m=>v=.bool (decide (0<S.KX.length))/\m=[aN e p S]:=by
 refine bA Tryz.func99 Z λE fr I=>aa<|sS<|sB Z<|sS<|cG 3 Z Z ?_
 refine bW Z r6 aT ?_;refine aa<|sP (dY Z Z Z)<|sB Z<|an ?_
 exact ar [_] rfl Z ⟨by congr 1;simp,rfl⟩ aT
theorem sF (t:Nat):dx G 165 [aX e,aQ t] [aN e p S] λv m=>v=.bool (S.KY.any (·.1==t))/\m=[aN e p S]:=by
 have J:(eh (dD S) t).isSome=S.KY.any (·.1==t):=by rw[lp];simp[List.isSome_find?]
 obtain⟨q,I⟩:∃q:FK.Pl,(eh (dD S) t).getD (iz ⟨0,0,0⟩)=iz q:=by
  rw[lp];cases S.KY.find? (·.1==t) with
  | none=>exact⟨⟨0,0,0⟩,rfl⟩
  | some x=>exact⟨x.2,rfl⟩
 refine bA Tryz.func165 Z λE fr O=>aa<|sS<|sB Z<|sS<|cG 2 Z Z ?_
 refine bF (au (v:=.map (some p.tm)) Z) (bE λ_ _ _=>rfl) ?_;refine sM Z<|bF (Er (m:=dD S) Z fc Z Z Z I J) nu<|sM Z<|bT Z Z<|bT Z Z<|sO (cH (z:=.agg #[.int .u64 0,aw 0,aw 0]) Z λT=>?_)
 refine sO<|bh Z (m:=3) Z Z Z Z er Af ?_
 exact sB Z<|bq Z<|sB Z<|an<|ar [aN e p S] rfl Z ⟨rfl,rfl⟩ Ent.drop
theorem AU (id:Nat) (I:S.getR id=none):dx G 103 [aX e,aQ id] [aN e p S] λv m=>v=.bool false/\m=[aN e p S]:=by
 have J:=pq (p:=p) I;refine bA Tryz.func103 Z λE fr O=>aa<|sS<|sB Z<|sS<|cG 1 Z Z ?_
 refine bF (au (v:=.map (some p.rm)) Z) (bE λ_ _ _=>rfl) ?_;refine sM Z<|bF (kf (m:=eM S p) Z fc Z Z Z J) dZ<|sM Z<|bT Z Z<|bT Z Z<|sA Z<|sB Z<|bq Z<|sM Z<|bg Z<|bg Z<|bg Z<|bg Z<|bg Z<|sP (aF Z Z Z)<|sA Z ?_
 exact sN<|an<|ar [aN e p S] rfl Z ⟨rfl,rfl⟩ aT
theorem AT (id:Nat) (I:S.getR id=some R):dx G 103 [aX e,aQ id] [aN e p S] λv m=>v=.bool (R.state==1)/\m=[aN e p S]:=by
 have J:=gi (p:=p) I;refine bA Tryz.func103 Z λE fr O=>aa<|sS<|sB Z<|sS<|cG 1 Z Z ?_
 refine bF (au (v:=.map (some p.rm)) Z) (bE λ_ _ _=>rfl) ?_;refine sM Z<|bF (lA (m:=eM S p) Z fc Z Z J) dZ<|sM Z<|bT Z Z<|bT Z Z<|sA Z<|sB Z<|bq Z<|sM Z<|db Z<|ci (cI Z)<|ci (bl 2 Z)<|fN (au (v:=aw R.state) Z) (cK I Z)<|ci (aY Z Z Z)<|sP (aF Z Z Z)<|sA Z ?_
 exact sN<|an<|ar [aN e p S] rfl Z ⟨rfl,rfl⟩ aT
theorem uG (id:Nat):dx G 103 [aX e,aQ id] [aN e p S] λv m=>v=.bool (match S.getR id with|some R=>R.state==1|none=>false)/\m=[aN e p S]:=by
 rcases hR:S.getR id with _|R
 · exact AU id hR
 · exact AT id hR
theorem DE (I:Nat):dx G 211 [aX e,aQ I] [aN e p S] λv m=>v=.tuple #[]/\m=[aN e p {S with seed:=I}]:=by
 refine bA Tryz.func211 Z λE fr J=>aa<|sG<|sM Z<|cG 0 Z Z ?_
 refine sO<|re (S:=S) (S':={S with seed:=I}) Z Z Z am Z (λ_ _ _=>rfl) Z Z Z Z Z Z ?_
 exact ao<|bD [aN e p {S with seed:=I}] rfl ⟨rfl,rfl⟩ aT
theorem B9:dx G 135 [aX e] [aN e p S] λv m=>v=.tuple #[.int .u64 S.now,.int .u64 S.seed]/\m=[aN e p S]:=by
 refine bA Tryz.func135 Z λE fr I=>aa<|sS<|sA Z<|sB Z<|sQ<|sZ Z<|dT Z Z<|dt 6 Z Z Z ?_
 refine jh 3 Z (au Z) (bE λ_ _ _=>rfl) ?_;refine dj 5 Z (bd Z)<|dt 0 Z Z Z ?_
 refine jh 8 Z (au Z) (bE λ_ _ _=>rfl) ?_;refine dA 4 Z<|ed Z vX aT ?_
 rintro v m ⟨rfl,rfl⟩;refine aa ?_;refine dK [true,false] (ai (bE λ_ _ _=>rfl) ak) ?_;exact dj 9 Z (aU Z)<|bC Z (aU Z)<|dE<|sT<|an<|ea [aN e p S] rfl Z Z ⟨rfl,rfl⟩ aT
theorem uT {q:FK.Pl} {nd:FK.Node}:(S.life q nd).runs=S.runs:=by
 unfold FK.En.life
 split<;>rfl
theorem life_R {q:FK.Pl} {nd:FK.Node}:(S.life q nd).getR id=S.getR id:=by
 unfold FK.En.getR;rw[uT]
theorem EO {t:Nat} {nd:FK.Node} (I:(S.KY.find? (·.1==t)).map (·.2)=some ⟨id,(k:Int),wh⟩) (J:S.getR id=some R) (O:R.fl.KW[k]?=some nd) (Y:S.now<=4611686018427387904) (h2:nd.beat<=4611686018427387904) (h3:S.sets<9223372036854775807) (hl:S.tms.length<=99998):dx G 206 [aX e,aQ t] [aN e p S] λv m=>v=.tuple #[]/\m=[aN e p (S.life ⟨id,(k:Int),wh⟩ nd)]:=by
 have hk:=(gfGet.1 O).1;have T:eh (dD S) t=some (iz ⟨id,(k:Int),wh⟩):=by
  rw[lp];cases hf:S.KY.find? (·.1==t) with
  | none=>rw[hf] at I;cases I
  | some x=>rw[hf] at I;injection I with I;simp only[Option.map_some,I]
 refine bA Tryz.func206 Z λE fr hE=>aa ?_;refine bt (λw hw=>mL J O hw) λhA=>?_;obtain⟨A,c,hu,-⟩:=hA;refine sS<|cG 2 Z Z ?_
 refine bF (au (v:=.map (some p.tm)) Z) (bE λ_ _ _=>rfl) ?_;refine sM Z<|bF (gy (m:=dD S) Z fc Z Z T) nu<|sO (cH (z:=.agg #[.int .u64 0,aw 0,aw 0]) Z λb4=>?_)
 refine sO<|bh Z (m:=3) Z Z Z Z er Af ?_
 refine sN<|sZ Z<|dT Z Z<|bQ Z (bO (vs:=ir ⟨id,(k:Int),wh⟩) Z) (bm Z)<|cv Z Z<|dt 1 Z Z Z ?_
 refine jh 5 Z (au Z) (bE λ_ _ _=>rfl) ?_;refine dj 6 Z (bl 0 Z)<|bQ Z (au Z) (ah Z)<|bQ Z (gy (a:=id) (v:=aX (p.fb id)) Z fc Z Z (gi J)) dZ<|dt 0 Z Z Z<|bC Z (bl 1 Z)<|bQ Z (au (v:=(p.ra id).nv R) Z) (cK J Z)<|bC Z (bl 1 Z)<|bQ Z (au Z) (ah Z)<|bC Z (aS (z:=7) Z Z Z Z hk)<|bQ Z (bO (vs:=bk nd (.slice A nd.after.length c)) Z) (fw J O hu) ?_
 refine dA 17 Z<|ed Z (uU ⟨id,(k:Int),wh⟩ nd (.slice A nd.after.length c) Y h2 h3 hl) gfE1 ?_
 rintro v m ⟨rfl,rfl⟩;refine aa ?_;refine dK [false,true,true,true,true,true,false] (ai (ah Z) (ai (cK (life_R.trans J) Z) (ai (Eu uT) (ai (ah Z) (ai (bE (S:=S.life ⟨id,(k:Int),wh⟩ nd) λ_ _ _=>rfl) ak))))) ?_;exact dE<|bD [aN e p (S.life ⟨id,(k:Int),wh⟩ nd)] rfl ⟨rfl,rfl⟩<|Ent.cons Ent.drop
theorem iq {xs:List Int} (h:xs.length<=maxLen):Ent (blk b 3 (eu xs).toArray::r) (bG (dp b xs.length xs.length) xs::r):=
 eV (cu _) h (by simp[eu]) (by rw[List.take_of_length_le (by simp[eu])])
abbrev tU (fl:FK.Flow):Prop:=∀nd∈fl.KW,∀x∈nd.after,0<=x/\x<(fl.KW.length:Int)
theorem uw (hR:S.getR id=some R) (K3:R.KV.length=R.fl.KW.length) (K4:tU R.fl) (hn:R.fl.KW.length<=100) (hq:S.KX.length<=300):dx G 160 [aX e,aQ id] [aN e p S] λv m=>v=.tuple #[]/\m=[aN e p (S.wake id)]:=by
 refine bA Tryz.func160 Z λE fr hE=>aa<|zq<|sS<|cG 1 Z Z ?_
 refine bF (au (v:=.map (some p.rm)) Z) (bE λ_ _ _=>rfl) ?_;refine sM Z<|bF (gy (m:=eM S p) Z fc Z Z (gi hR)) dZ<|sB Z<|sQ<|zu<|sT<|sS<|cG 0 Z Z<|bn 1 Z<|bF (au (v:=(p.ra id).nv R) Z) (cK hR Z)<|sP (bp Z Z)<|sM Z<|sN<|ag ?_
 refine aO (X:=Nat) (λk=>[(21,aw k),(20,aw R.fl.KW.length),(19,(p.ra id).nv R),(4,aX (p.fb id)),(0,aX e),(1,aQ id)]) (λk=>aN e p (S.wakeN id k)::fr) (λk=>k<=R.fl.KW.length) (λk=>R.fl.KW.length-k) 0 (Nat.zero_le _) bV aT ?_;intro k hk;refine sS<|sP (bz Z Z Z)<|sN<|sQ ?_
 refine aB Z (λK7=>?_) λK7=>?_
 ·
  have K:k<R.fl.KW.length:=am;obtain⟨T,J,O,Lg⟩:=FK.wakeN_on hR k;obtain⟨nd,hnd⟩:∃nd,R.fl.KW[k]?=some nd:=⟨R.fl.KW[k],by simp[K]⟩;have I:T.fl.KW[k]?=some nd:=by rw[O.fl];exact hnd
  obtain⟨s,hs⟩:∃s,T.KV[k]?=some s:=⟨T.KV[k]'(by rw[O.len];omega),by simp[O.len,K3,K]⟩;refine bt (λw hw=>mL J I hw) λhA=>?_;obtain⟨A,c,hu,Lc,Ld,Lh,K5⟩:=hA;replace K5:c<=9223372036854775807:=K5;refine ae<|sT<|sQ<|ag<|bq Z<|sP (aS (z:=7) Z Z Z Z K)<|bF (bO (vs:=bk nd (.slice A nd.after.length c)) Z) (fw J I hu)<|sO (cH (z:=.agg #[aw 0,aw 0,aw 0,aw 0,aw 0,aw 0,cx]) Z λb6=>(sA Z ?_))
  refine sO<|bh (vs:=bk nd (.slice A nd.after.length c)) Z (m:=7) Z Z Z Z (by simp[bk,Value.oneCell']) (by show 0+7<=7;omega) ?_
  refine aq (l':=blk b6 46 (bk nd (.slice A nd.after.length c)).toArray::aN e p (S.wakeN id k)::fr) aT ?_;refine sN<|sQ<|bq Z<|sM Z<|sO (eI Z Z Z Z Z Z λK8=>?_)
  refine bW Z (rh [1] (some ⟨K8,0,none⟩) 1 J hs) ((bo de .head).trans (Ent.cons (iq (xs:=[1]) (show 1<=9223372036854775807 by omega)))) ?_;refine aa<|sP (cD Z Z)<|sN ?_
  refine ce Z (λmt=>?_) λmt=>?_
  ·
   have hs1:s.state≠1:=by simpa using mt
   refine aL<|aA<|ap<|sT<|sG<|sP (bc (r:=((k+1:Nat):Int)) Z Z dP)<|sM Z<|ao ?_
   exact aE (k+1) K am bV (by
    rw[FK.wakeN_succ,FK.mC J,FK.nr hs I,if_neg (by simp[hs1])];exact Ent.cons Ent.drop)
  ·
   have hs1:s.state=1:=by simpa using mt
   refine ae<|sT<|sQ<|sS<|bn 6 Z<|aR Z Z Z Z<|sP (bp Z Z)<|sM Z<|sN<|ag ?_
   refine aO (X:=Nat) (λj=>[(34,aw j),(33,aw nd.after.length),(32,.slice A nd.after.length c),(21,aw k),(20,aw R.fl.KW.length),(19,(p.ra id).nv R),(4,aX (p.fb id)),(0,aX e),(1,aQ id),(5,aw k)]) (λj=>aN e p (S.wakeN id k)::fr) (λj=>j<=nd.after.length/\∀i x,i<j->nd.after[i]?=some x->FK.cO T.KV x.toNat 5=true) (λj=>nd.after.length-j) 0 ⟨Nat.zero_le _,λi x h=>by omega⟩ bV (Ent.cons Ent.drop) ?_;rintro j ⟨hj,Y⟩;refine sS<|sP (bz Z Z Z)<|sN<|sQ ?_
   refine aB Z (λK9=>?_) λK9=>?_
   ·
    have Fd:j<nd.after.length:=am;obtain⟨g,rfl⟩:∃g,A=some ⟨g,0,none⟩:=by
     cases A with
     | none=>have:=(Lc rfl).1;omega
     | some ad=>obtain⟨g,rfl⟩:=Ld ad rfl;exact⟨g,rfl⟩
    obtain⟨x,hx⟩:∃x,nd.after[j]?=some x:=⟨nd.after[j],by simp[Fd]⟩;obtain⟨Li,Lj⟩:=K4 nd (bY hnd) x (bY hx);obtain⟨u,rfl⟩:∃u:Nat,x=(u:Int):=⟨x.toNat,am⟩;obtain⟨s2,BT⟩:∃s2,T.KV[u]?=some s2:=⟨T.KV[u]'(by rw[O.len];omega),by simp⟩;refine ae<|sT<|sQ<|ag<|sS<|sP (aS (z:=1) Z Z Z Z Fd)<|bF (au (v:=aw (u:Int)) Z) (yk J I hu hx)<|sB Z<|bq Z<|sM Z<|sO (eI Z Z Z Z Z Z λLb=>?_)
    refine bW Z (rh [5] (some ⟨Lb,0,none⟩) 1 J BT) ((bo bJ .head).trans (Ent.cons (iq (xs:=[5]) (show 1<=9223372036854775807 by omega)))) ?_;refine aa<|sP (cD Z Z)<|sN ?_
    refine ce Z (λwf=>?_) λwf=>?_
    ·
     have In:s2.state≠5:=by simpa using wf
     have hno:(nd.after.all λu=>FK.cO T.KV u.toNat 5)=false:=by
      rw[List.all_eq_false];exact⟨_,bY hx,by rw[Int.toNat_natCast,FK.fk BT];simpa using In⟩
     refine aL<|dU Z<|aA<|az<|dU Z<|aA<|ap<|sT<|sG<|sP (bc (r:=((k+1:Nat):Int)) Z Z dP)<|sM Z<|ao ?_
     exact aE (k+1) K am bV (by
      rw[FK.wakeN_succ,FK.mC J,FK.nr hs I,hno,if_neg cY];exact aT)
    ·
     have In:s2.state=5:=by simpa using wf
     refine ae<|al<|sT<|sG<|sP (bc (r:=((j+1:Nat):Int)) Z Z dP)<|sM Z<|ao ?_
     exact aE (j+1) ⟨Fd,λi y hi hy=>(by
      rcases Nat.lt_succ_iff_lt_or_eq.1 hi with h|rfl
      · exact Y i y h hy
      · rw[hx] at hy;injection hy with hy;subst hy;rw[Int.toNat_natCast,FK.fk BT];simpa using In)⟩ am ⟨rfl,rfl,rfl,rfl,rfl,rfl,rfl,rfl,rfl,rfl,trivial⟩ aT
   ·
    have K6:(nd.after.all λu=>FK.cO T.KV u.toNat 5)=true:=by
     rw[List.all_eq_true];intro y hy;obtain⟨i,hi,rfl⟩:=List.getElem_of_mem hy;exact Y i _ am<|List.getElem?_eq_getElem hi
    refine aL<|aA<|az<|ap<|sT<|sG<|sM Z<|sM Z<|ch Z (bI (cs:=#[.int .u64 id,aw (k:Int),aw 0]) Z Z Z Z Z) ?_
    refine bW Z (tj (wh:=0) J hs am) aT ?_;refine aa<|ao<|al<|sT<|sG<|sP (bc (r:=((k+1:Nat):Int)) Z Z dP)<|sM Z<|ao ?_
    exact aE (k+1) K am bV (by
     rw[FK.wakeN_succ,FK.mC J,FK.nr hs I,K6,if_pos (by simp[hs1])];exact aT)
 ·
  have Le:k=R.fl.KW.length:=am;refine aL<|aA<|az<|ap<|uc<|bD [aN e p (S.wake id)] rfl ⟨rfl,rfl⟩ ?_
  have:S.wake id=S.wakeN id k:=by unfold FK.En.wake;rw[hR,Le]
  rw[this];exact aT
end Go.Y
namespace FK
theorem qr {q:List Pl} {x:Pl} (id:Nat):(q++[x]).filter (λp=>p.run !=id)=q.filter (λp=>p.run !=id)++if x.run !=id then[x] else[]:=by
 rw[List.filter_append];simp[List.filter_cons]
end FK
namespace Go.Y
open Go.Proofs
open Go Go.RowKit Go.SL
theorem neI (a b:Nat):(a !=b)=decide ((a:Int)≠(b:Int)):=by
 by_cases h:a=b
 · subst h;simp
 · rw[vA am];simpa using h
theorem wT (c id:Nat) (q:FK.Pl):dx G 259 [iz q,aX c] [blk c 51 #[aQ id]] λv m=>v=.bool (q.run !=id)/\m=[blk c 51 #[aQ id]]:=by
 refine bA Tryz.func259 Z λE fr I=>aa<|sS<|sO (cR Z Z λJ=>(sB Z (sS (bn 0 Z (aR Z Z Z Z (aR Z Z Z Z (sP (dc Z Z Z) (sB Z (an ?_)))))))))
 exact ar [_] rfl Z ⟨by rw[neI],rfl⟩ Ent.drop
theorem Kd {l:List HP} {C:EC} {q:List FK.Pl} (s:Sel (ee e C q) l r):∀w,Holds E w l->cq ⟨e,5,none⟩ (aw q.length) w:=λw hw=>by
 obtain⟨F1,_,_,_,_,I,_⟩:=(hw.sel s).star;obtain⟨⟨rv,N,f,rg⟩,J⟩:=I;have K:(og e C rv f q.length).sat w F1:=Star.mem (l:=[HP.pure (FK.RingOk N f q rg),og e C rv f q.length,row 268 3 rv N (rV N rg)]) J cY;have:=K.2;simp only[cq,World.cell?,this]
 rfl
theorem Ed {q:List FK.Pl} (e:Nat) (C:EC) (c id:Nat) (hq:q.length<=400):dx G 258 [qE e,.func (.func 259) #[] #[aX c]] [ee e C q,blk c 51 #[aQ id]] λv m=>v=.tuple #[]/\m=[ee e C (q.filter λp=>p.run !=id)]:=by
 refine bA Tryz.func258 Z λE fr O=>aD<|sS<|cG 2 Z Z<|bF (au (v:=aw q.length) Z) (Kd .head)<|sB Z<|ag ?_
 refine aO (X:=List FK.Pl×List FK.Pl) (λx=>[(4,aw x.2.length),(0,qE e),(1,.func (.func 259) #[] #[aX c])]) (λx=>ee e C (x.2++x.1.filter λp=>p.run !=id)::blk c 51 #[aQ id]::fr) (λx=>x.1++x.2=q) (λx=>x.2.length) ([],q) Z bV (by
 show Ent _ (ee e C (q++[])::_);rw[List.append_nil];exact aT) ?_
 rintro⟨done,left⟩ I;simp only at I ⊢;refine sQ<|bq Z<|sP (dY Z Z Z)<|sN ?_
 refine aB Z (λJ=>?_) λJ=>?_
 ·
  obtain⟨x,left,rfl⟩:∃x l,left=x::l:=by
   cases left with
   | nil=>simp at J
   | cons x l=>exact⟨x,l,rfl⟩
  have Y:done.length+(left.length+1)=q.length:=by rw[<-I];simp
  have mt:=List.length_filter_le (λp:FK.Pl=>p.run !=id) done;refine ae<|sT<|sQ<|ag<|bq Z ?_
  refine bW Z (uI e C) aT ?_;refine aa<|sM Z<|bT Z Z<|bT Z Z<|sO (cH (z:=.agg #[.int .u64 0,aw 0,aw 0]) Z λT=>?_)
  refine sO<|bh (vs:=ir x) Z (m:=3) Z Z Z Z er (by show 0+3<=3;omega) ?_
  refine aq (l':=blk T 268 (ir x).toArray::ee e C (left++done.filter λp=>p.run !=id)::blk c 51 #[aQ id]::fr) aT ?_;refine sB Z<|bq Z<|bF (bO (vs:=ir x) Z) (bm Z) ?_
  refine sO<|jl Z Z Z Z O (wT c id x) gfE2 ?_
  rintro v m ⟨rfl,rfl⟩;refine aa<|sN ?_
  refine ce Z (λK=>?_) λK=>?_
  ·
   refine sG<|sM Z<|bF (bO (vs:=ir x) Z) (bm Z) ?_
   refine bW Z (tf e C x (by rw[List.length_append];omega)) gfE2 ?_;refine aa<|ao<|al<|sT<|sG<|ch Z (cV (r:=(left.length:Int)) Z Z (by rw[jf (by simp;omega)];simp))<|sA Z<|ao ?_
   exact aE (done++[x],left) (by rw[<-I];simp) cY bV (by
    show Ent _ (ee e C (left++(done++[x]).filter λp=>p.run !=id)::_);rw[FK.qr,if_pos K,<-List.append_assoc];exact Ent.cons (Ent.cons Ent.drop))
  ·
   refine ae<|al<|sT<|sG<|ch Z (cV (r:=(left.length:Int)) Z Z (by rw[jf (by simp;omega)];simp))<|sA Z<|ao ?_
   exact aE (done++[x],left) (by rw[<-I];simp) cY bV (by
    show Ent _ (ee e C (left++(done++[x]).filter λp=>p.run !=id)::_);rw[FK.qr,if_neg (by simp[K]),List.append_nil];exact gfE2.trans (Ent.cons (Ent.cons Ent.drop)))
 ·
  obtain rfl:left=[]:=by
   cases left with
   | nil=>rfl
   | cons x l=>simp at J
  rw[List.append_nil] at I;subst I;exact aL<|aA<|az<|ap<|bD [_] rfl ⟨rfl,rfl⟩<|Ent.cons Ent.drop
theorem GF (c id:Nat) (I:S.KX.length<=400):dx G 258 [qE e,.func (.func 259) #[] #[aX c]] [aN e p S,blk c 51 #[aQ id]] λv m=>v=.tuple #[]/\m=[aN e p {S with KX:=S.KX.filter λp=>p.run !=id}]:=by
 refine Does.part (c:=[HP.pure (eC S),cP aQ p.rm (eM S p),fF p S.runs,cP aQ p.tm (dD S),dC p.w S.now S.sets S.tms]) (Ed e (jw S p) c id I) ?_ ?_
 · refine(Ent.unall (m:=jV e p S)).trans ((bo bJ Ae).trans ?_)
   exact aT
 · rintro v m ⟨rfl,rfl⟩
   exact⟨_,⟨rfl,rfl⟩,gfE1.trans (Ent.all (m:=jV e p {S with KX:=S.KX.filter λp=>p.run !=id}))⟩
section
variable {l:List HP} {pos:String}
theorem xH {e:TypeId} {z:Value} {x y:Operand} (hi:Nat.blt i n=true) (J:P.underlying t=some (.slice e)) (O:df P e 1) (I:iD P e z) (T:ev ts x=some v) (Y:v.oneCell'=true) (hy:ev ts y=some u) (hu:u.oneCell'=true)
 (h:∀b,At E n D ((i,dp b 2 2)::ts) (blk b e #[v,u]::l) K):At E n D ts l (λa w=>(Oper.mk (some i) (.buildSlice t 2 #[(0,x),(1,y)]) ty pos af g).wp P a w K Q):=
 dh (ps:=[(0,x),(1,y)]) (vs:=[v,u]) (cs:=#[v,u]) hi J O I am am (by simp[qA,T,hy]) (by
  have e1:Array.range (2*1)=#[0,1]:=rfl;rw[e1];simp[Instr.fill,kg Y,kg hu]) h
end
theorem mV (hR:S.getR id=some R) (hn:R.KV.length<=100) (hq:S.KX.length<=400) (hl:S.tms.length<=99999) (In:S.ends<9223372036854775807):dx G 235 [aX e,aQ id,aw st] [aN e p S] λv m=>v=.tuple #[]/\m=[aN e p (S.finish id st)]:=by
 refine bA Tryz.func235 Z λE fr hE=>aa<|sS<|sO (cR Z Z λb4=>(sN (sQ (sZ Z (dT Z Z (bC Z (cI Z) (bC Z (bl 1 Z) ?_)))))))
 refine jh 3 Z (au Z) (bE λ_ _ _=>rfl) ?_;refine jh 4 Z (au Z) (ah Z)<|bQ Z (gy (a:=id) (v:=aX (p.fb id)) Z fc Z Z (gi hR)) dZ<|bC Z (aU Z)<|dE<|sT<|sS<|cG 9 Z Z ?_
 refine bF (au (v:=.int .u64 S.ends) Z) (bE λ_ _ _=>rfl) ?_;refine sP (bc (r:=((S.ends+1:Nat):Int)) Z Z (by rw[km];omega))<|da Z<|bn 9 Z ?_
 refine sO<|re (S:=S) (S':={S with ends:=S.ends+1}) Z Z Z am Z (λ_ _ _=>rfl) Z Z Z Z Z Z ?_
 refine sN<|sQ ?_
 obtain⟨S1,I⟩:∃S1,S1={S with ends:=S.ends+1}:=⟨_,rfl⟩;have mt:S1.getR id=some R:=by rw[I];exact hR
 have K6:S1.ends=S.ends+1:=by rw[I]
 rw[<-I];refine sG<|sM Z<|sM Z<|sM Z<|cG 9 Z Z ?_
 refine bF (au (v:=.int .u64 ((S.ends+1:Nat):Int)) Z) (bE λ_ _ _=>by rw[<-K6];rfl) ?_;refine da Z<|bn 2 Z ?_
 refine sO<|CH (R':={R with state:=st}) mt Z Z Z am Z Z Z Z ?_
 refine da Z<|bn 4 Z ?_
 refine sO<|CH (S:=S1.setR id {R with state:=st}) (R:={R with state:=st}) (R':={R with state:=st,ended:=S.ends+1}) (FK.dO mt) Z Z Z am Z Z Z Z ?_
 refine sN<|sQ<|sZ Z<|dT Z Z<|dt 6 Z Z Z ?_
 refine jh 3 Z (au Z) (bE λ_ _ _=>rfl) ?_;refine jh 4 Z (au Z) (ah Z)<|bC Z (bI (cs:=#[.int .u64 id,aw (-1),aw 0]) Z Z Z Z Z) ?_
 refine dA 6 Z<|ed Z (sy ⟨id,-1,0⟩ (by rw[I];exact hl)) aT ?_
 rintro v m ⟨rfl,rfl⟩;refine aa<|dK [true,false] (ai (ah Z) ak)<|dE<|sT<|sQ<|sQ ?_
 obtain⟨T,hT⟩:∃T,T=(S1.setR id {R with state:=st,ended:=S.ends+1}).unset ⟨id,-1,0⟩:=⟨_,rfl⟩;have BT:T.getR id=some {R with state:=st,ended:=S.ends+1}:=by rw[hT];exact FK.dO mt
 have Lc:T.tms.length<=99999:=by rw[hT,I];exact Nat.le_trans (List.length_filter_le _ _) hl
 have K7:T.KX=S.KX:=by rw[hT,I];rfl
 rw[FK.setR_setR,<-hT];refine sG<|cG 3 Z Z<|bF (au (v:=(p.ra id).sv R) Z) (cK BT Z)<|sP (bp Z Z)<|sM Z<|sN<|ag ?_
 refine aO (X:=Nat) (λk=>[(45,aw k),(44,aw R.KV.length),(6,aX (p.fb id)),(0,aX e),(4,aX b4)]) (λk=>aN e p (T.endN id k)::blk b4 51 #[aQ id]::fr) (λk=>k<=R.KV.length) (λk=>R.KV.length-k) 0 (Nat.zero_le _) bV aT ?_;intro k hk;obtain⟨R1,J,Y,Lb,K5⟩:=FK.C6 BT k hk;have K9:R1.KV.length=R.KV.length:=Y.len;refine sS<|sP (bz Z Z Z)<|sN<|sQ ?_
 refine aB Z (λK3=>?_) λK3=>?_
 ·
  have Fd:k<R.KV.length:=am;obtain⟨s,K⟩:∃s,R1.KV[k]?=some s:=⟨R1.KV[k]'am,by simp⟩;refine ae<|sT<|sQ<|ag<|bq Z<|sB Z<|bq Z<|aR Z Z Z Z<|ch Z (bI (cs:=#[.int .u64 id,aw (k:Int),aw 0]) Z Z Z Z Z) ?_
  refine bW Z (lO (wh:=0) J K am) aT ?_;refine aa<|sB Z<|bq Z<|sM Z<|sO (xH Z Z Z Z Z Z Z Z λK4=>?_)
  refine bW Z (rh [5,6] (some ⟨K4,0,none⟩) 2 (FK.jm J K) (FK.setS_at K)) ((bo bJ .head).trans (Ent.cons (iq (xs:=[5,6]) (show 2<=9223372036854775807 by omega)))) ?_;refine aa<|sP (cD Z Z)<|sN ?_
  refine ce Z (λO=>?_) λO=>?_
  ·
   have wf:¬(s.state=5\/s.state=6):=by simpa using O
   refine sG<|cG 0 Z Z ?_
   refine sO<|li (S:=(T.endN id k).leave id k) (R:=R1.setS k {s with token:=0}) (s:={s with token:=0}) (j:=0) (s':={s with token:=0,state:=7}) (FK.jm J K) (FK.setS_at K) Z Z Z Z am Z Z ?_
   refine ao<|al<|sT<|sG<|sP (bc (r:=((k+1:Nat):Int)) Z Z dP)<|sM Z<|ao ?_
   exact aE (k+1) Fd am bV (by
    rw[FK.ny,FK.rp J K];unfold FK.endS;rw[if_neg wf];exact aT)
  ·
   have wf:s.state=5\/s.state=6:=Decidable.byContradiction λh=>by simp only[not_or] at h;simp[h.1,h.2] at O
   refine ae<|al<|sT<|sG<|sP (bc (r:=((k+1:Nat):Int)) Z Z dP)<|sM Z<|ao ?_
   exact aE (k+1) Fd am bV (by
    rw[FK.ny,FK.rp J K];unfold FK.endS;rw[if_pos wf,FK.setS_setS,FK.BC J K];exact aT)
 ·
  have K8:k=R.KV.length:=am;refine aL<|aA<|az<|ap<|sT<|sG<|cG 3 Z Z ?_
  refine sP (gP Z Z) ?_;refine bW Z (GF b4 id (by rw[K5,K7];exact hq)) aT ?_;refine aa<|ao<|bD [aN e p (S.finish id st)] rfl ⟨rfl,rfl⟩ ?_
  rw[FK.va hR,K8,hT,I];exact aT
end Go.Y
namespace FK
theorem uF (E:S.getR id=some R):S.settle id=if R.KV.all over then S.finish id (if R.KV.all λs=>s.state==5 then 2 else 3) else S:=by
 unfold En.settle;rw[E]
theorem H9 (E:S.getR id=some R):∃R',(S.wake id).getR id=some R'/\SameR R R'/\(S.wake id).KX.length<=S.KX.length+R.fl.KW.length:=by
 have:S.wake id=S.wakeN id R.fl.KW.length:=by unfold En.wake;rw[E]
 rw[this];exact wakeN_on E _
theorem Gm (S:En) (id k:Nat) (g:Sp->Sp):(S.onS id k g).now=S.now/\(S.onS id k g).seed=S.seed/\(S.onS id k g).tms=S.tms/\(S.onS id k g).sets=S.sets/\(S.onS id k g).KY=S.KY/\(S.onS id k g).ends=S.ends/\(S.onS id k g).KT=S.KT/\(S.onS id k g).KS=S.KS:=by
 unfold En.onS
 split
 · split<;>exact⟨rfl,rfl,rfl,rfl,rfl,rfl,rfl,rfl⟩
 · exact⟨rfl,rfl,rfl,rfl,rfl,rfl,rfl,rfl⟩
theorem An (S:En) (id k:Nat):(En.wakeK id S k).now=S.now/\(En.wakeK id S k).seed=S.seed/\(En.wakeK id S k).tms=S.tms/\(En.wakeK id S k).sets=S.sets/\(En.wakeK id S k).KY=S.KY/\(En.wakeK id S k).ends=S.ends/\(En.wakeK id S k).KT=S.KT/\(En.wakeK id S k).KS=S.KS:=by
 unfold En.wakeK
 split
 · split
   · exact Gm S id k _
   · exact⟨rfl,rfl,rfl,rfl,rfl,rfl,rfl,rfl⟩
 · exact⟨rfl,rfl,rfl,rfl,rfl,rfl,rfl,rfl⟩
theorem sJ (S:En) (id:Nat):∀n,(S.wakeN id n).now=S.now/\(S.wakeN id n).seed=S.seed/\(S.wakeN id n).tms=S.tms/\(S.wakeN id n).sets=S.sets/\(S.wakeN id n).KY=S.KY/\(S.wakeN id n).ends=S.ends/\(S.wakeN id n).KT=S.KT/\(S.wakeN id n).KS=S.KS
 | 0=>⟨rfl,rfl,rfl,rfl,rfl,rfl,rfl,rfl⟩
 | n+1=>by
  rw[wakeN_succ];obtain⟨a,b,c,d,e,f,g,h⟩:=An (S.wakeN id n) id n;obtain⟨E,I,J,K,O,T,Y,h'⟩:=sJ S id n;exact⟨a.trans E,b.trans I,c.trans J,d.trans K,e.trans O,f.trans T,g.trans Y,h.trans h'⟩
theorem ni (S:En) (id:Nat):(S.wake id).now=S.now/\(S.wake id).seed=S.seed/\(S.wake id).tms=S.tms/\(S.wake id).sets=S.sets/\(S.wake id).KY=S.KY/\(S.wake id).ends=S.ends/\(S.wake id).KT=S.KT/\(S.wake id).KS=S.KS:=by
 unfold En.wake
 split
 · exact sJ S id _
 · exact⟨rfl,rfl,rfl,rfl,rfl,rfl,rfl,rfl⟩
end FK
namespace Go.Y
open Go.Proofs
open Go Go.RowKit Go.SL
theorem pX (Y:S.getR id=some R) (hn:R.KV.length<=100) (hq:S.KX.length<=400) (hl:S.tms.length<=99999) (mt:S.ends<9223372036854775807):dx G 233 [aX e,aQ id] [aN e p S] λv m=>v=.tuple #[]/\m=[aN e p (S.settle id)]:=by
 refine bA Tryz.func233 Z λE fr hE=>aa<|sS<|cG 1 Z Z ?_
 refine bF (au (v:=.map (some p.rm)) Z) (bE λ_ _ _=>rfl) ?_;refine sM Z<|bF (gy (m:=eM S p) Z fc Z Z (gi Y)) dZ<|sB Z<|sS<|sB Z<|sQ<|sS<|cG 3 Z Z<|bF (au (v:=(p.ra id).sv R) Z) (cK Y Z)<|sP (bp Z Z)<|sM Z<|ao ?_
 refine sT<|ag ?_
 refine aO (X:=Nat) (λk=>[(18,aw k),(17,aw R.KV.length),(5,aw (if (R.KV.take k).all (λs=>s.state==5) then 2 else 3)),(4,aX (p.fb id)),(0,aX e),(1,aQ id)]) (λ_=>aN e p S::fr) (λk=>k<=R.KV.length/\(R.KV.take k).all FK.over=true) (λk=>R.KV.length-k) 0 ⟨Nat.zero_le _,by simp⟩ bV aT ?_;rintro k ⟨hk,J⟩;refine sS<|sP (bz Z Z Z)<|sN<|sQ ?_
 refine aB Z (λBT=>?_) λBT=>?_
 ·
  have T:k<R.KV.length:=am;obtain⟨s,hs⟩:∃s,R.KV[k]?=some s:=⟨R.KV[k],by simp[T]⟩;have K:R.KV.take (k+1)=R.KV.take k++[s]:=by rw[List.take_add_one,hs];rfl
  refine ae<|sT<|sQ<|ag<|bq Z<|sB Z<|sS<|cG 3 Z Z<|bF (au (v:=(p.ra id).sv R) Z) (cK Y Z)<|ch Z (aS (z:=3) Z Z Z Z T)<|bn 0 Z<|bF (au (v:=aw s.state) Z) (e9 Y hs Z) ?_
  refine sN<|ag<|sS<|sP (aY Z Z Z)<|sB Z ?_
  refine aB Z (λO=>?_) λO=>?_
  ·
   refine ae<|al<|al<|sT<|sG<|sP (bc (r:=((k+1:Nat):Int)) Z Z dP)<|sM Z<|ao ?_
   exact aE (k+1) ⟨T,by rw[K,List.all_append,J];simp[FK.over,O]⟩ am ⟨rfl,rfl,by rw[show(if (R.KV.take (k+1)).all (λs=>s.state==5) then(2:Int) else 3)=(if (R.KV.take k).all (λs=>s.state==5) then(2:Int) else 3) by rw[K,List.all_append];simp[O]];rfl,rfl,rfl,rfl,trivial⟩ aT
  ·
   refine sQ<|sS<|sP (aY Z Z Z)<|sB Z ?_
   refine aB Z (λI=>?_) λI=>?_
   ·
    refine ae<|sT ?_
    refine aB Z (λI=>?_) λI=>?_
    ·
     refine sG<|sA Z<|ao<|al<|al<|sT<|sG<|sP (bc (r:=((k+1:Nat):Int)) Z Z dP)<|sM Z<|ao ?_
     exact aE (k+1) ⟨T,by rw[K,List.all_append,J];simp[FK.over,I]⟩ am ⟨rfl,rfl,by rw[show(if (R.KV.take (k+1)).all (λs=>s.state==5) then(2:Int) else 3)=3 by rw[K,List.all_append];simp[O]];rfl,rfl,rfl,rfl,trivial⟩ aT
    ·
     refine an<|aH<|aH<|aC<|bP<|aH<|aC ?_
     exact absurd (by assumption) I
   ·
    refine sG<|sP (aY Z Z Z)<|sB Z ?_
    refine aB Z (λI=>?_) λI=>?_
    ·
     refine sG<|sA Z<|ao<|al<|al<|sT<|sG<|sP (bc (r:=((k+1:Nat):Int)) Z Z dP)<|sM Z<|ao ?_
     exact aE (k+1) ⟨T,by rw[K,List.all_append,J];simp[FK.over,I]⟩ am ⟨rfl,rfl,by rw[show(if (R.KV.take (k+1)).all (λs=>s.state==5) then(2:Int) else 3)=3 by rw[K,List.all_append];simp[O]];rfl,rfl,rfl,rfl,trivial⟩ aT
    ·
     refine an<|aH<|aH<|aC<|bP<|aH<|aC<|bD [aN e p (S.settle id)] rfl ⟨rfl,rfl⟩ ?_
     have:¬R.KV.all FK.over=true:=λh=>by
      have:=List.all_eq_true.1 h s (bY hs);simp[FK.over] at this;omega
     rw[FK.uF Y,if_neg this];exact aT
 ·
  have wf:k=R.KV.length:=am;rw[wf,List.take_length] at J;have Fd:R.KV.take k=R.KV:=by rw[wf,List.take_length]
  rw[Fd];refine aL<|aA<|az<|ap<|sT<|sG<|sM Z<|sM Z<|sM Z ?_
  refine bW Z (mV Y hn hq hl mt) aT ?_;refine aa<|ao ?_
  exact bD [aN e p (S.settle id)] rfl ⟨rfl,rfl⟩ (by rw[FK.uF Y,if_pos J];exact aT)
theorem Fe {t:Nat} {q:FK.Pl} (E:(S.KY.find? (·.1==t)).map (·.2)=some q):eh (dD S) t=some (iz q):=by
 rw[lp];cases hf:S.KY.find? (·.1==t) with
 | none=>rw[hf] at E;cases E
 | some x=>rw[hf] at E;injection E with E;simp only[Option.map_some,E]
theorem ug {t:Nat} (ht:(S.KY.find? (·.1==t)).map (·.2)=some ⟨id,(k:Int),wh⟩) (hR:S.getR id=some R) (O:R.KV[k]?=some s) (wf:R.KV.length=R.fl.KW.length) (BT:tU R.fl) (hn:R.fl.KW.length<=100) (hq:S.KX.length<=300) (hl:S.tms.length<=99999) (Y:S.ends<9223372036854775807):dx G 207 [aX e,aQ t] [aN e p S] λv m=>v=.tuple #[]/\m=[aN e p (S.complete t)]:=by
 refine bA Tryz.func207 Z λE fr hE=>aa<|sS<|cG 2 Z Z ?_
 refine bF (au (v:=.map (some p.tm)) Z) (bE λ_ _ _=>rfl) ?_;refine sM Z<|bF (gy (m:=dD S) Z fc Z Z (Fe ht)) nu<|sO (cH (z:=.agg #[.int .u64 0,aw 0,aw 0]) Z λb4=>?_)
 refine sO<|bh (vs:=ir ⟨id,(k:Int),wh⟩) Z (m:=3) Z Z Z Z er (by show 0+3<=3;omega) ?_
 refine aq (l':=blk b4 268 (ir ⟨id,(k:Int),wh⟩).toArray::aN e p S::fr) aT ?_;refine sN<|bq Z<|bF (bO (vs:=ir ⟨id,(k:Int),wh⟩) Z) (bm Z) ?_
 refine bW Z (lO (wh:=wh) hR O hl) gfE1 ?_;refine aa<|da Z<|bn 0 Z ?_
 refine sO<|li (S:=S.leave id k) (R:=R.setS k {s with token:=0}) (s:={s with token:=0}) (j:=0) (s':={s with token:=0,state:=5}) (FK.jm hR O) (FK.setS_at O) Z Z Z Z am Z Z ?_
 refine sN<|sQ ?_
 obtain⟨T,hT⟩:∃T,T=(S.leave id k).setR id ((R.setS k {s with token:=0}).setS k {s with token:=0,state:=5}):=⟨_,rfl⟩;obtain⟨R1,K⟩:∃R1,R1=(R.setS k {s with token:=0}).setS k {s with token:=0,state:=5}:=⟨_,rfl⟩;have In:FK.SameR R R1:=by rw[K];exact(FK.SameR.setS R k _).trans (FK.SameR.setS _ k _)
 have K3:T.getR id=some R1:=by rw[hT,K];exact FK.dO (FK.jm hR O)
 have K4:T.KX=S.KX:=by rw[hT];exact FK.mT
 have K9:T.tms.length<=99999:=by rw[hT];exact Nat.le_trans FK.np hl
 have I:T.ends=S.ends:=by rw[hT,FK.fe hR O];rfl
 have mt:S.complete t=(T.wake id).settle id:=by
  unfold FK.En.complete;rw[ht];show(((S.leave id (k:Int).toNat).onS id (k:Int).toNat λs=>{s with state:=5}).wake id).settle id=_;rw[Int.toNat_natCast,FK.rN _ (FK.jm hR O) (FK.setS_at O),hT]
 rw[<-hT];obtain⟨R2,K5,Fd,K6⟩:=FK.H9 K3;have J:=In.fl;have Lb:=In.len;have Lc:=Fd.len;obtain⟨Ld,Le,K7,Lg,Lh,K8,Li,Lj⟩:=FK.ni T id;refine sG<|sM Z<|bn 0 Z<|aR Z Z Z Z ?_
 refine bW Z (uw K3 (by rw[Lb,J];exact wf) (by rw[J];exact BT) (by rw[J];exact hn) (by rw[K4];exact hq)) aT ?_;refine aa<|sN<|sG<|sM Z<|bn 0 Z<|aR Z Z Z Z ?_
 refine bW Z (pX K5 am (by rw[J,K4] at K6;omega) (by rw[K7];exact K9) (by rw[K8,I];exact Y)) aT ?_;refine aa<|ao ?_
 exact bD [aN e p (S.complete t)] rfl ⟨rfl,rfl⟩ (by rw[mt];exact Ent.cons Ent.drop)
abbrev cd (run:Nat) (node I:Int) (token:Nat):List Value:=[.int .u64 run,aw node,aw I,.int .u64 token]
abbrev fR (run:Nat) (node I:Int) (token:Nat):Value:=.agg (cd run node I token).toArray
theorem DJ {x:FK.Pl} {q:List FK.Pl} (h:S.KX=x::q):dx G 163 [qE e] [aN e p S] λv m=>v=.tuple #[iz x,.bool true]/\m=[aN e p {S with KX:=q}]:=
 nC (R:=λv m=>v=.tuple #[iz x,.bool true]/\m=[ee e (jw S p) q]) (by rw[h];exact uI e _) λ_ _ ⟨I,J⟩=>⟨q,J,I,rfl⟩
section
variable {l:List HP} {pos:String} {x y z:Operand} [H:HasEng l e p S r]
theorem D0 {tok:Nat} {q:FK.Pl} {t I J:TypeId} (O:d=none) (T:P.underlying t=some (.map I J)) (hk:KeyK P I Nat aQ) (Y:ev ts x=some (.map (some p.tm))) (hy:ev ts y=some (aQ tok)) (hz:ev ts z=some (iz q)) (hn:∀t∈S.KY,t.1≠tok)
 (h:At E n D ts (aN e p {S with KY:=S.KY++[(tok,q)]}::r) K):At E n D ts l (λac w=>(Oper.mk d (.mapUpdate t x y z) ty pos af g).wp P ac w K Q):=by
 refine aq (Ent.sel H.sel)<|bH ?_
 show At E n D ts (HP.pure (eC S)::ee e (jw S p) S.KX::cP aQ p.rm (eM S p)::fF p S.runs::cP aQ p.tm (dD S)::dC p.w S.now S.sets S.tms::r) _;have hv:eh (dD S) tok=none:=by
  rw[lp];cases hf:S.KY.find? (·.1==tok) with
  | none=>rfl
  | some u=>exact absurd (by simpa using List.find?_some hf) (hn u (List.mem_of_find?_eq_some hf))
 refine vH (b:=p.tm) (a:=tok) (v:=iz q) O T hk Y hy hz kT hv ?_;refine aq ?_ h;have hm:dD S++[(tok,iz q)]=dD {S with KY:=S.KY++[(tok,q)]}:=by simp[dD]
 rw[hm];refine Ent.trans ?_<|Ent.all (m:=jV e p {S with KY:=S.KY++[(tok,q)]})
 exact(cF bJ bJ bJ).trans (Ent.cons (Ent.cons (Ent.cons gfE1)))
end
theorem Bl {q:List FK.Pl} {nd:FK.Node} (h:S.KX=⟨id,(k:Int),0⟩::q) (hR:S.getR id=some R) (hs:R.KV[k]?=some s) (hnd:R.fl.KW[k]?=some nd) (Ll:S.now<=4611686018427387904) (Lb:0<=nd.close) (hc:nd.close<=4611686018427387904) (hb:nd.beat<=4611686018427387904) (Lc:S.sets+1<9223372036854775807) (hl:S.tms.length<=99997) (Lm:S.KS<9223372036854775807) (BT:∀t∈S.KY,t.1<=S.KS) (Ln:0<=s.KU) (Lo:s.KU<9223372036854775807) :
 dx G 101 [aX e] [aN e p S] λv m=>v=.tuple #[fR id k (s.KU+1) (S.KS+1),.bool true]/\m=[aN e p (S.hand ⟨id,(k:Int),0⟩ q R s nd)]:=by
 have hk:=(gfGet.1 hs).1;have Ld:=(gfGet.1 hnd).1;have K4:∀(T:FK.En) n,T.now<=4611686018427387904->T.now<=T.later n:=λT n h=>by unfold FK.En.later;omega
 have In:∀(T:FK.En) n,T.later n<=4611686018427387904:=λT n=>by unfold FK.En.later;omega
 refine bA Tryz.func101 Z λE fr hE=>aa ?_;refine bt (λw hw=>mL hR hnd hw) λhA=>?_;obtain⟨A,c,hu,-⟩:=hA;refine sS<|sO (cH (z:=.agg #[.int .u64 0,aw 0,aw 0,.int .u64 0]) Z λb2=>(sB Z (sS (sM Z (da Z (bn 3 Z ?_))))))
 refine bW Z (DJ h) gfE1 ?_;refine aa<|sM Z<|bT Z Z<|bT Z Z<|sO (cH (z:=.agg #[.int .u64 0,aw 0,aw 0]) Z λb4=>?_)
 refine sO<|bh (vs:=ir ⟨id,(k:Int),0⟩) Z (m:=3) Z Z Z Z er (by show 0+3<=3;omega) ?_
 refine sB Z<|sQ<|bq Z<|sP (cD Z Z)<|sN<|aj Z<|ae<|sT<|sQ ?_
 obtain⟨S1,J⟩:∃S1,S1={S with KX:=q}:=⟨_,rfl⟩;rw[<-J];have Y:S1.getR id=some R:=by rw[J];exact hR
 refine aq (l':=blk b4 268 (ir ⟨id,(k:Int),0⟩).toArray::aN e p S1::blk b2 55 (cd 0 0 0 0).toArray::fr) aT ?_;refine sZ Z<|dT Z Z<|dt 1 Z Z Z ?_
 refine jh 3 Z (au Z) (bE λ_ _ _=>rfl) ?_;refine dj 4 Z (bl 0 Z)<|bQ Z (au Z) (ah Z)<|bQ Z (gy (a:=id) (v:=aX (p.fb id)) Z fc Z Z (gi Y)) dZ<|bC Z (aU Z)<|dE<|sT<|sQ<|sZ Z<|dT Z Z<|dt 3 Z Z Z<|bQ Z (au (v:=(p.ra id).sv R) Z) (cK Y Z)<|bC Z (bl 1 Z)<|bQ Z (au Z) (ah Z)<|bC Z (aS (z:=3) Z Z Z Z hk)<|cv Z Z<|dt 0 Z Z Z<|bC Z (bl 1 Z)<|bQ Z (au (v:=(p.ra id).nv R) Z) (cK Y Z) ?_
 refine dj 12 Z (bl 1 Z)<|bQ Z (au Z) (ah Z)<|bC Z (aS (z:=7) Z Z Z Z Ld)<|bQ Z (bO (vs:=bk nd (.slice A nd.after.length c)) Z) (fw Y hnd hu)<|vw Z (cH (z:=.agg #[aw 0,aw 0,aw 0,aw 0,aw 0,aw 0,cx]) Z λb8=>(dK [true,true,true,true,true] (ai (fw Y hnd hu) (ai (ah Z) (ai (cK Y Z) (ai (ah Z) (ai (cK Y Z) ak))))) (bC Z (aU Z) ?_)))
 refine dA 18 Z<|bh (vs:=bk nd (.slice A nd.after.length c)) Z (m:=7) Z Z Z Z (by simp[bk,Value.oneCell']) (by show 0+7<=7;omega) ?_
 refine dK [false,false,false,false,false] ak<|dE<|sT<|sQ ?_
 have K5:S1.KS=S.KS:=by rw[J]
 refine sG<|cG 8 Z Z ?_
 refine bF (au (v:=.int .u64 S1.KS) Z) (bE λ_ _ _=>rfl) ?_;refine sP (bc (r:=((S1.KS+1:Nat):Int)) Z Z (by rw[km];omega))<|da Z<|bn 8 Z ?_
 refine sO<|re (S:=S1) (S':={S1 with KS:=S1.KS+1}) Z Z Z am Z (λ_ _ _=>rfl) Z Z Z Z Z Z ?_
 refine sN<|sQ ?_
 obtain⟨I,O⟩:∃I,I={S1 with KS:=S1.KS+1}:=⟨_,rfl⟩;rw[<-O];have K3:I.getR id=some R:=by rw[O];exact Y
 have wf:I.KS=S.KS+1:=by rw[O,K5]
 refine sZ Z<|dT Z Z<|cv Z Z<|dt 1 Z Z Z<|bQ Z (au (v:=aw s.KU) Z) (e9 K3 hs Z)<|bC Z (bc (r:=s.KU+1) Z Z (by rw[jf am]))<|cv Z Z<|dt 8 Z Z Z ?_
 refine jh 9 Z (au (v:=.int .u64 I.KS) Z) (bE λ_ _ _=>rfl) ?_;refine dj 10 Z (bI (cs:=#[aw 3,aw (s.KU+1),.int .u64 I.KS]) Z Z Z Z Z)<|bC Z (cI Z)<|vw Z<|DY (s':=⟨3,s.KU+1,I.KS⟩) K3 hs Z Z Z Z<|dK [false,false] ak<|dE<|sT<|sQ ?_
 obtain⟨R1,Fd⟩:∃R1,R1=R.setS k ⟨3,s.KU+1,I.KS⟩:=⟨_,rfl⟩;have hs1:R1.KV[k]?=some ⟨3,s.KU+1,I.KS⟩:=by rw[Fd];exact FK.setS_at hs
 rw[<-Fd];obtain⟨S3,mt⟩:∃S3,S3=I.setR id R1:=⟨_,rfl⟩;rw[<-mt];have K6:S3.getR id=some R1:=by rw[mt];exact FK.dO K3
 have Le:S3.KY=S.KY:=by rw[mt,O,J];rfl
 refine sZ Z<|dT Z Z<|dt 2 Z Z Z ?_
 refine jh 3 Z (au Z) (bE λ_ _ _=>rfl) ?_;refine dj 4 Z (bd Z)<|dt 2 Z Z Z<|bQ Z (au (v:=.int .u64 I.KS) Z) (e9 K6 hs1 Z)<|bQ Z (bO (vs:=ir ⟨id,(k:Int),0⟩) Z) (bm Z) ?_
 refine dA 9 Z<|D0 (tok:=I.KS) (q:=⟨id,(k:Int),0⟩) Z Z fc Z Z Z (λt ht=>by rw[Le] at ht;have:=BT t ht;omega) ?_
 refine dK [false,false,false] ak<|dE<|sT<|sQ ?_
 obtain⟨U,hU⟩:∃U,U={S3 with KY:=S3.KY++[(I.KS,(⟨id,(k:Int),0⟩:FK.Pl))]}:=⟨_,rfl⟩;rw[<-hU];have Lg:U.getR id=some R1:=by rw[hU];exact K6
 have Lh:U.now=S.now:=by rw[hU,mt,O,J];rfl
 have Li:U.sets=S.sets:=by rw[hU,mt,O,J];rfl
 have K7:U.tms=S.tms:=by rw[hU,mt,O,J];rfl
 refine sZ Z<|dT Z Z<|dt 6 Z Z Z ?_
 refine jh 3 Z (au Z) (bE λ_ _ _=>rfl) ?_;refine dj 4 Z (bl 0 Z)<|bQ Z (au Z) (ah Z)<|bC Z (bl 1 Z)<|bQ Z (au Z) (ah Z)<|bC Z (bI (cs:=#[.int .u64 id,aw (k:Int),aw 1]) Z Z Z Z Z)<|cv Z Z<|bC Z (bl 1 Z)<|bQ Z (au Z) (ah Z) ?_
 refine dA 12 Z<|ed Z (lS (S:=U) nd.close am Lb hc) aT ?_
 rintro v m ⟨rfl,rfl⟩;refine aa ?_;refine dK [false,true,true,true] (ai (ah Z) (ai (ah Z) (ai (bE λ_ _ _=>rfl) ak))) ?_;refine dA 13 Z<|ed Z (qT ⟨id,(k:Int),1⟩ (U.later nd.close.toNat) (K4 U _ am) (In U _) am (by rw[K7];omega)) aT ?_
 rintro v m ⟨rfl,rfl⟩;refine aa<|dK [true,true,false] (ai (ah Z) (ai (ah Z) ak))<|dE<|sT<|sQ ?_
 obtain⟨V,hV⟩:∃V,V=U.setT ⟨id,(k:Int),1⟩ (U.later nd.close.toNat):=⟨_,rfl⟩;rw[<-hV];have Lj:V.getR id=some R1:=by rw[hV];exact Lg
 have Lp:V.now=S.now:=by rw[hV];exact Lh
 have Lq:V.sets=S.sets+1:=by rw[hV];show U.sets+1=_;rw[Li]
 have Lr:V.tms.length<=S.tms.length+1:=by
  rw[hV];show(U.tms.filter (λx:FK.KD=>x.1 !=⟨id,(k:Int),1⟩)++[((⟨id,(k:Int),1⟩:FK.Pl),U.later nd.close.toNat)]).length<=_;have:=List.length_filter_le (λx:FK.KD=>x.1 !=⟨id,(k:Int),1⟩) U.tms;rw[List.length_append,List.length_singleton,<-K7];omega
 refine sG<|sM Z<|bF (bO (vs:=ir ⟨id,(k:Int),0⟩) Z) (bm Z)<|bF (bO (vs:=bk nd (.slice A nd.after.length c)) Z) (bm Z) ?_
 refine bW Z (uU (S:=V) ⟨id,(k:Int),0⟩ nd (.slice A nd.after.length c) am hb am am) aT ?_;refine aa<|sN<|sQ ?_
 obtain⟨X,hX⟩:∃X,X=V.life ⟨id,(k:Int),0⟩ nd:=⟨_,rfl⟩;have K8:X.getR id=some R1:=by rw[hX,life_R];exact Lj
 rw[<-hX];refine sZ Z<|dj 0 Z (bl 0 Z)<|bQ Z (au Z) (ah Z)<|bC Z (bl 1 Z)<|bQ Z (au Z) (ah Z)<|cv Z Z<|dt 1 Z Z Z<|bQ Z (au (v:=aw (s.KU+1)) Z) (e9 K8 hs1 Z)<|cv Z Z<|dt 2 Z Z Z<|bQ Z (au (v:=.int .u64 I.KS) Z) (e9 K8 hs1 Z)<|bC Z (bI (cs:=(cd id k (s.KU+1) I.KS).toArray) Z Z Z Z Z) ?_
 refine dA 13 Z<|bh (vs:=cd id k (s.KU+1) I.KS) Z (m:=4) Z Z Z Z er (by show 0+4<=4;omega) ?_
 refine dK [false,false,false,false] ak<|dj 14 Z (aU Z)<|dE<|sT<|an ?_
 have K9:X=S.hand ⟨id,(k:Int),0⟩ q R s nd:=by rw[hX,hV,hU,mt,Fd,wf,O,J];rfl
 exact dr [aN e p X] rfl (bM (vs:=cd id k (s.KU+1) I.KS) Z Z Z Z (bm Z)) (bL Z) ⟨by rw[wf],by rw[K9]⟩<|Ent.drop.trans<|Ent.cons<|Ent.drop.trans Ent.drop
section
variable {l:List HP} {L:List (Nat×FK.Rn)}
theorem lu (s:Sel (fF p L) l r) (I:x∈L) (J:(Aa (p.ra x.1) x.2)[i]?=some v):∀w,Holds E w l->cq ⟨p.fb x.1,i,none⟩ v w:=λw hw=>by
 obtain⟨F1,_,_,_,_,K,_⟩:=(hw.sel s).star;have O:Star w (gU p L) F1:=K;have T:(kR (p.fb x.1) (p.ra x.1) x.2).sat w F1:=Star.mem O (List.mem_map.2 ⟨x,I,rfl⟩);have h3:Star w (o7 (p.fb x.1) (p.ra x.1) x.2) F1:=T;have Y:(Ad (p.fb x.1) (p.ra x.1) x.2).sat w F1:=Star.mem h3 cY;have:=Y.2;simp only[cq,World.cell?,this];exact J
theorem Gc {enc:α->Value} {m left:List (α×Value)} {I:Option (α×Value)} (s:Sel (ek enc e b m left I) l r):∀w,Holds E w l->jQ enc b m w:=λw hw=>by
 obtain⟨O,c,_,T,Y,a3,a4,_⟩:=m0 s w hw;exact⟨O,c,T,Y,a3,a4⟩
end
theorem F7 (h:x∈S.runs):eh (eM S p) x.1=some (aX (p.fb x.1)):=by
 unfold eM;rw[lI S.runs (λk _=>aX (p.fb k)) x.1];cases hf:S.runs.find? (·.1==x.1) with
 | none=>exact absurd (List.find?_eq_none.1 hf x h) cY
 | some y=>rfl
abbrev oldL (e:Nat) (p:EA) (S:FK.En) (J:Nat) (left:List (Nat×FK.Rn)) (I:Option (Nat×Value)):List HP:=[HP.pure (eC S),ee e (jw S p) S.KX,ek aQ J p.rm (eM S p) (left.map λr=>(r.1,aX (p.fb r.1))) I,fF p S.runs,cP aQ p.tm (dD S),dC p.w S.now S.sets S.tms]
theorem qd:dx G 154 [aX e] [aN e p S] λv m=>(∃o,FK.JK S o/\v=.tuple #[aQ ((o.map (·.1)).getD 0),.bool o.isSome])/\m=[aN e p S]:=by
 refine bA Tryz.func154 Z λE fr hE=>aa<|sS<|sA Z<|sB Z<|sQ<|sQ ?_
 refine aq (Ent.unall (m:=jV e p S)) ?_;show At E _ _ _ (HP.pure (eC S)::ee e (jw S p) S.KX::cP aQ p.rm (eM S p)::fF p S.runs::cP aQ p.tm (dD S)::dC p.w S.now S.sets S.tms::fr) _;refine sG<|cG 1 Z Z ?_
 refine bF (au (v:=.map (some p.rm)) Z) (FB λ_ _ _=>rfl) ?_;refine sO (ox (b:=p.rm) Z Z Z de λit=>(sN (ag ?_)));refine aO (X:=List (Nat×FK.Rn)×Option (Nat×Value)×Option (Nat×FK.Rn)) (λx=>[(10,.pointer (some ⟨it,0,none⟩)),(2,aQ ((x.2.2.map (·.1)).getD 0)),(3,.bool x.2.2.isSome),(0,aX e)]) (λx=>oldL e p S it x.1 x.2.1++fr) (λx=>(∀r∈x.1,r∈S.runs)/\(∀r∈S.runs,r∈x.1\/(0<r.2.ended->∃m,x.2.2=some m/\m.2.ended<=r.2.ended))/\∀m,x.2.2=some m->m∈S.runs/\0<m.2.ended) (λx=>x.1.length) (S.runs,none,none) ⟨λ_ h=>h,λ_ h=>.inl h,λ_ h=>by cases h⟩ bV (cF bJ bJ .head) ?_;rintro⟨left,In,o⟩ ⟨O,I,ho⟩;replace O:∀r∈left,r∈S.runs:=O;replace I:∀r∈S.runs,r∈left\/(0<r.2.ended->∃m,o=some m/\m.2.ended<=r.2.ended):=I;replace ho:∀m,o=some m->m∈S.runs/\0<m.2.ended:=ho;refine aq (l':=HP.pure (eC S)::ee e (jw S p) S.KX::ek aQ it p.rm (eM S p) (left.map λr=>(r.1,aX (p.fb r.1))) In::fF p S.runs::cP aQ p.tm (dD S)::dC p.w S.now S.sets S.tms::fr) aT ?_;refine sQ ?_
 by_cases HL:left=[]
 ·
  subst HL;refine sG ?_;refine sO<|lD Z Z de (λ_=>?_) (λj q Y=>by simp at Y)
  refine bT Z Z<|sN<|sQ<|aj Z<|aL<|aA<|az<|ap<|sT<|bq Z<|sM Z<|sA Z<|sB Z<|an ?_
  exact ea [aN e p S] rfl rfl rfl ⟨⟨o,⟨ho,λr J h=>(by rcases I r J with h'|h';cases h';exact h' h)⟩,rfl⟩,rfl⟩ ((Ent.ranged.trans (bo bJ bJ)).trans (Ent.all (m:=jV e p S)))
 ·
  refine sG ?_;refine sO<|lD Z Z de (λh=>absurd (List.map_eq_nil_iff.1 h) HL) λj q Y=>?_
  obtain⟨x,hx,rfl⟩:∃x,left[j]?=some x/\(x.1,aX (p.fb x.1))=q:=by
   rw[List.getElem?_map] at Y;cases hl:left[j]? with
   | none=>rw[hl] at Y;cases Y
   | some x=>rw[hl] at Y;injection Y with Y;exact⟨x,rfl,Y⟩
  have T:=O x (bY hx);have mt:=(gfGet.1 hx).1;rw[<-iv];refine bT Z Z<|sN<|sQ<|aM Z<|ae<|sT<|ag<|sS<|bF (oI (p:=(x.1,aX (p.fb x.1))) Z) (m0 .head)<|bT Z Z<|bT Z Z<|sA Z<|sB Z<|sQ ?_
  by_cases HA:0<x.2.ended
  ·
   by_cases HB:o=none
   ·
    subst HB;refine sZ Z<|dT Z Z<|dt 4 Z Z Z<|bQ Z (au (v:=.int .u64 x.2.ended) Z) (lu gt T Z)<|bC Z (dY Z Z (vA am))<|cv Z Z<|dv 6 Z (bd Z)<|dv 7 Z (cD Z Z)<|dv 8 Z (bd Z)<|dy 9 Z Z<|dy 10 Z Z<|dy 11 Z Z<|dy 12 Z Z<|dy 13 Z Z<|dy 14 Z Z<|dy 15 Z Z<|dy 16 Z Z<|dy 17 Z Z<|dy 18 Z Z ?_
    refine dy 19 Z Z<|dy 20 Z Z<|dy 21 Z Z<|dy 22 Z Z<|dv 23 Z (aF Z Z Z)<|bC Z (aF Z Z Z)<|dE<|sT<|aM Z<|sG<|sM Z<|sA Z<|sA Z<|ao<|al ?_
    exact aE (left.eraseIdx j,some (x.1,aX (p.fb x.1)),some x) ⟨λr J=>O r ((List.eraseIdx_sublist _ _).subset J),λr J=>(by
     rcases I r J with h|h
     · rcases FK.iZ hx h with rfl|h
       · exact .inr λ_=>⟨r,rfl,cu _⟩
       · exact .inl h
     · exact .inr λh'=>(by obtain⟨m,K,_⟩:=h h';cases K)),λm K=>(by injection K with K;subst K;exact⟨T,HA⟩)⟩ (by show(left.eraseIdx j).length<left.length;rw[List.length_eraseIdx,if_pos mt];omega) ⟨rfl,rfl,rfl,rfl,trivial⟩ (bo bJ bJ)
   ·
    obtain⟨m,rfl⟩:=Option.ne_none_iff_exists'.1 HB;obtain⟨wf,K3⟩:=ho m rfl;refine sZ Z<|dT Z Z<|dt 4 Z Z Z<|bQ Z (au (v:=.int .u64 x.2.ended) Z) (lu gt T Z)<|bC Z (dY Z Z (vA am))<|cv Z Z<|dv 6 Z (bd Z)<|dv 7 Z (cD Z Z)<|dv 8 Z (bd Z)<|dv 9 Z (bd Z)<|dv 10 Z (cI Z)<|dv 11 Z (bl 4 Z)<|mg 12 Z (au (v:=.int .u64 x.2.ended) Z) (lu gt T Z)<|dv 13 Z (bd Z)<|dv 14 Z (cI Z)<|dv 15 Z (bl 1 Z) ?_
    refine mg 16 Z (au (v:=.map (some p.rm)) Z) (FB λ_ _ _=>rfl) ?_;refine dv 17 Z (bd Z)<|mg 18 Z (gy (a:=m.1) (v:=aX (p.fb m.1)) Z fc Z Z (F7 wf)) (Gc .head)<|dv 19 Z (cI Z)<|dv 20 Z (bl 4 Z)<|mg 21 Z (au (v:=.int .u64 m.2.ended) Z) (lu gt wf Z)<|dv 22 Z (bz Z Z Z)<|dv 23 Z (aF Z Z Z)<|bC Z (aF Z Z Z)<|dE<|sT ?_
    refine aB Z (λFd=>?_) λFd=>?_
    ·
     refine sG<|sM Z<|sA Z<|sA Z<|ao<|al ?_
     have BT:x.2.ended<m.2.ended:=am;exact aE (left.eraseIdx j,some (x.1,aX (p.fb x.1)),some x) ⟨λr J=>O r ((List.eraseIdx_sublist _ _).subset J),λr J=>(by
      rcases I r J with h|h
      · rcases FK.iZ hx h with rfl|h
        · exact .inr λ_=>⟨r,rfl,cu _⟩
        · exact .inl h
      · exact .inr λh'=>(by obtain⟨m',K,K4⟩:=h h';injection K with K;subst K;exact⟨x,rfl,am⟩)),λm K=>(by injection K with K;subst K;exact⟨T,HA⟩)⟩ (by show(left.eraseIdx j).length<left.length;rw[List.length_eraseIdx,if_pos mt];omega) ⟨rfl,rfl,rfl,rfl,trivial⟩ (bo bJ bJ)
    ·
     refine ae<|al ?_
     have BT:¬x.2.ended<m.2.ended:=am;exact aE (left.eraseIdx j,some (x.1,aX (p.fb x.1)),some m) ⟨λr J=>O r ((List.eraseIdx_sublist _ _).subset J),λr J=>(by
      rcases I r J with h|h
      · rcases FK.iZ hx h with rfl|h
        · exact .inr λ_=>⟨m,rfl,am⟩
        · exact .inl h
      · exact .inr h),λm' K=>ho m' K⟩ (by show(left.eraseIdx j).length<left.length;rw[List.length_eraseIdx,if_pos mt];omega) ⟨rfl,rfl,rfl,rfl,trivial⟩ (bo bJ bJ)
  ·
   refine sZ Z<|dT Z Z<|dt 4 Z Z Z<|bQ Z (au (v:=.int .u64 x.2.ended) Z) (lu gt T Z)<|bC Z (dY Z Z (pc am))<|cv Z Z<|dy 6 Z Z<|dy 7 Z Z<|dy 8 Z Z<|dy 9 Z Z<|dy 10 Z Z<|dy 11 Z Z<|dy 12 Z Z<|dy 13 Z Z<|dy 14 Z Z<|dy 15 Z Z<|dy 16 Z Z<|dy 17 Z Z<|dy 18 Z Z ?_
   refine dy 19 Z Z<|dy 20 Z Z<|dy 21 Z Z<|dy 22 Z Z<|dy 23 Z Z<|bC Z (aF Z Z Z)<|dE<|sT<|aj Z<|ae<|al ?_
   exact aE (left.eraseIdx j,some (x.1,aX (p.fb x.1)),o) ⟨λr J=>O r ((List.eraseIdx_sublist _ _).subset J),λr J=>(by
    rcases I r J with h|h
    · rcases FK.iZ hx h with rfl|h
      · exact .inr λh=>absurd h HA
      · exact .inl h
    · exact .inr h),ho⟩ (by show(left.eraseIdx j).length<left.length;rw[List.length_eraseIdx,if_pos mt];omega) ⟨rfl,rfl,rfl,rfl,trivial⟩ (bo bJ bJ)
theorem uJ:dx G 94 [aX e] [aN e p S] λv m=>v=.bool (S.runs.any (λr=>decide (0<r.2.ended))||decide (S.runs.length<6))/\m=[aN e p S]:=by
 refine bA Tryz.func94 Z λE fr hE=>aa<|sS<|sB Z<|bq Z ?_
 refine bU Z qd aT ?_;rintro v m ⟨⟨o,K,rfl⟩,rfl⟩;refine aa<|sM Z<|bT Z Z<|bT Z Z<|sA Z<|sB Z<|sQ ?_
 by_cases O:o=none
 ·
  subst O;have I:(S.runs.any λr=>decide (0<r.2.ended))=false:=by
   rw[List.any_eq_false];intro r hr;simp only[decide_eq_true_eq];intro h;obtain⟨m,T,_⟩:=K.2 r hr h;cases T
  refine sG<|sM Z<|sM Z<|db Z<|ci (cI Z)<|ci (bl 1 Z) ?_
  refine fN (au (v:=.map (some p.rm)) Z) (bE λ_ _ _=>rfl) ?_;refine jX Z Z Z<|j8 Z (C0 (m:=eM S p) Z Z) dZ ?_
  refine ci (bz (r:=decide (S.runs.length<6)) Z Z (by rw[List.length_map];exact decide_eq_decide.2 am)) ?_;refine sP (aF Z Z Z)<|sB Z<|an ?_
  exact ar [aN e p S] rfl Z ⟨by rw[I];rfl,rfl⟩ aT
 ·
  obtain⟨x,rfl⟩:=Option.ne_none_iff_exists'.1 O;obtain⟨Y,J⟩:=K.1 x rfl;have I:(S.runs.any λr=>decide (0<r.2.ended))=true:=by
   rw[List.any_eq_true];exact⟨x,Y,by simpa using J⟩
  refine sG<|sM Z<|sM Z<|bg Z<|bg Z<|bg Z<|bg Z<|bg Z<|bg Z<|sP (aF Z Z Z)<|sB Z<|an ?_
  exact ar [aN e p S] rfl Z ⟨by rw[I];rfl,rfl⟩ aT
end Go.Y
namespace Go.Y
open Go.Proofs Go.RowKit Go.SL
open FK (fQ dG cZ)
theorem AX (S:FK.En) (p:EA) (id:Nat):(eM S p).eraseP (·.1==id)=eM (S.unrun id) p:=by
 unfold eM FK.En.unrun;rw[List.eraseP_map]
 rfl
theorem Ent.sub:∀{a b:List HP} {r:List HP},b.Sublist a->Ent (a++r) (b++r)
 | _,_,_,.slnil=>aT
 | _::_,_,_,.cons _ h=>Ent.drop.trans (Ent.sub h)
 | _::_,_,_,.cons_cons _ h=>Ent.cons (Ent.sub h)
theorem DF {L M:List (Nat×FK.Rn)} (h:M.Sublist L):Ent (fF p L::r) (fF p M::r):=
 (Ent.unall (m:=gU p L)).trans ((Ent.sub (h.map _)).trans (Ent.all (m:=gU p M)))
section
variable {l:List HP} {pos:String} {x y z:Operand}
theorem Gp [H:HasEng l e p S r] {t I O:TypeId} (T:d=none) (Y:P.underlying t=some (.map I O)) (hk:KeyK P I Nat aQ) (hx:ev ts x=some (.map (some p.rm))) (hy:ev ts y=some (aQ id))
 (h:At E n D ts (aN e p (S.unrun id)::r) K):At E n D ts l (λac w=>(Oper.mk d (.call {callee:=.builtin .delete,args:=#[x,y],argTypes:=#[t,I]}) ty pos af g).wp P ac w K Q):=by
 refine bt (p:=eC S) (λw hw=>nV hw) λhn=>?_;refine aq (Ent.sel H.sel)<|bH ?_
 show At E n D ts (HP.pure (eC S)::ee e (jw S p) S.KX::cP aQ p.rm (eM S p)::fF p S.runs::cP aQ p.tm (dD S)::dC p.w S.now S.sets S.tms::r) _;refine vI (b:=p.rm) (a:=id) T Y hk hx hy de ?_;rw[AX];refine aq ?_ h;refine Ent.trans ?_<|Ent.all (m:=jV e p (S.unrun id))
 have J:eC (S.unrun id):=hn.sublist ((List.eraseP_sublist).map _);refine(Ent.drop1 bJ).trans (gfE1.trans ((Ent.cons (Ent.cons (DF (M:=(S.unrun id).runs) List.eraseP_sublist))).trans ?_));exact Ent.pure J
def EA.add (p:EA) (id b:Nat) (a:RA):EA:={p with fb:=fQ p.fb id b,ra:=fQ p.ra id a}
theorem Gr {a:RA} {t kt et:TypeId} (hd:d=none) (ht:P.underlying t=some (.map kt et)) (hk:KeyK P kt Nat aQ) (hx:ev ts x=some (.map (some p.rm))) (hy:ev ts y=some (aQ id)) (hz:ev ts z=some (aX b)) (J:∀r∈S.runs,r.1≠id)
 (h:At E n D ts (aN e (p.add id b a) {S with runs:=S.runs++[(id,R)]}::r) K):At E n D ts (kR b a R::aN e p S::r) (λac w=>(Oper.mk d (.mapUpdate t x y z) ty pos af g).wp P ac w K Q):=by
 refine bt (p:=eC S) (λw hw=>nV (l:=kR b a R::aN e p S::r) hw) λY=>?_;refine aq gfE1<|bH ?_
 show At E n D ts (HP.pure (eC S)::ee e (jw S p) S.KX::cP aQ p.rm (eM S p)::fF p S.runs::cP aQ p.tm (dD S)::dC p.w S.now S.sets S.tms::kR b a R::r) _;have T:eh (eM S p) id=none:=by
  refine pq ?_;unfold FK.En.getR;cases hf:S.runs.find? (·.1==id) with
  | none=>rfl
  | some u=>exact absurd (by simpa using List.find?_some hf) (J u (List.mem_of_find?_eq_some hf))
 refine vH (b:=p.rm) (a:=id) (v:=aX b) hd ht hk hx hy hz de T ?_;refine aq ?_ h;have hM:eM S p++[(id,aX b)]=eM {S with runs:=S.runs++[(id,R)]} (p.add id b a):=by
  unfold eM;rw[List.map_append];have h1:(S.runs.map λr=>(r.1,aX (p.fb r.1)))=S.runs.map λr=>(r.1,aX ((p.add id b a).fb r.1)):=List.map_congr_left λr I=>by
   show _=(r.1,aX (fQ p.fb id b r.1));rw[cZ _ _ (J r I)]
  rw[h1];show _=_++[(id,aX (fQ p.fb id b id))];rw[dG]
 have hL:gU p S.runs++[kR b a R]=gU (p.add id b a) (S.runs++[(id,R)]):=by
  unfold gU;rw[List.map_append];have h1:(S.runs.map λr=>kR (p.fb r.1) (p.ra r.1) r.2)=S.runs.map λr=>kR ((p.add id b a).fb r.1) ((p.add id b a).ra r.1) r.2:=List.map_congr_left λr I=>by
   show _=kR (fQ p.fb id b r.1) (fQ p.ra id a r.1) r.2;rw[cZ _ _ (J r I),cZ _ _ (J r I)]
  rw[h1];show _=_++[kR (fQ p.fb id b id) (fQ p.ra id a id) R];rw[dG,dG]
 have O:eC {S with runs:=S.runs++[(id,R)]}:=by
  unfold eC;rw[List.map_append,List.nodup_append];refine⟨Y,by simp,λu hu v T=>?_⟩;obtain⟨r,I,rfl⟩:=List.mem_map.1 hu;simp at T;subst T;exact J r I
 rw[hM];refine Ent.trans ?_<|Ent.all (m:=jV e (p.add id b a) {S with runs:=S.runs++[(id,R)]})
 have hX:Ent (kR b a R::fF p S.runs::cP aQ p.tm (dD S)::dC p.w S.now S.sets S.tms::r) (fF (p.add id b a) (S.runs++[(id,R)])::cP aQ p.tm (dD S)::dC p.w S.now S.sets S.tms::r):=by
  refine(Ent.cons (Ent.unall (m:=gU p S.runs))).trans ?_;have hp:(kR b a R::(gU p S.runs++(cP aQ p.tm (dD S)::dC p.w S.now S.sets S.tms::r))).Perm (gU (p.add id b a) (S.runs++[(id,R)])++(cP aQ p.tm (dD S)::dC p.w S.now S.sets S.tms::r)):=by
   rw[<-hL,List.append_assoc];exact List.perm_middle.symm
  exact(Ent.perm hp).trans (Ent.all (m:=gU (p.add id b a) (S.runs++[(id,R)])))
 refine(Ent.drop1 bJ).trans ?_;refine(cF bJ .head gt).trans ?_;exact(Ent.pure O).trans (Ent.cons (Ent.cons (Ent.cons hX)))
end
def p0 (E tm w:Nat):EA:=⟨E,tm,w,λ_=>0,λ_=>⟨0,0,0,0,[]⟩⟩
theorem ring0:FK.RingOk 0 0 [] (λ_=>⟨0,0,0⟩):=⟨cu _,Nat.zero_le _,.inr ⟨rfl,rfl⟩,λk p h=>by simp at h⟩
theorem IK:dx G 106 [] [] λv m=>∃e p,v=aX e/\m=[aN e p FK.En.fresh]:=by
 refine bA Tryz.func106 Z λE fr J=>aZ<|sS<|sB Z<|sS<|sO (kz aQ Z λI=>(sO (kz aQ Z λtm=>?_)))
 refine bU Z (Gt 0) aT ?_;rintro v m ⟨w,rfl,rfl⟩;refine aa<|sP (bI (cs:=vB ⟨0,I,tm,w,0,0,0⟩ cx 0 0) Z Z Z Z Z)<|sO (cR Z Z λe=>(sB Z (an (ar [aN e (p0 I tm w) FK.En.fresh] rfl Z ⟨e,p0 I tm w,rfl,rfl⟩ ?_))))
 have hw:Ent (cy w (EU 0)::fr) (dC w 0 0 []::fr):=(Ent.pure (⟨rfl,cu _,inv0 am,rfl⟩:WOk 0 0 [] (EU 0))).trans ((Ent.all (m:=[HP.pure (WOk 0 0 [] (EU 0)),cy w (EU 0)])).trans (Ent.ex (f:=λW:FK.WS=>HP.all [HP.pure (WOk 0 0 [] W),cy w W]) (EU 0)));refine(cF .head de bJ).trans ?_;refine Ent.trans (b:=og e ⟨0,I,tm,w,0,0,0⟩ cx 0 0::cP aQ I []::cP aQ tm []::dC w 0 0 []::fr) (Ent.cons (Ent.cons (Ent.cons hw))) ?_;refine Ent.trans (Ent.cons (Ent.row0 (e:=268) (size:=3))) ?_;refine(gp (e:=e) (C:=⟨0,I,tm,w,0,0,0⟩) (q:=[]) (N:=0) (f:=0) (rg:=λ_=>⟨0,0,0⟩) ring0).trans ?_;refine Ent.trans (b:=ee e ⟨0,I,tm,w,0,0,0⟩ []::cP aQ I []::fF (p0 I tm w) []::cP aQ tm []::dC w 0 0 []::fr) (Ent.cons (Ent.cons (Ent.all (m:=[])))) ?_;exact(Ent.pure (show eC FK.En.fresh from List.nodup_nil)).trans (Ent.all (m:=jV e (p0 I tm w) FK.En.fresh))
theorem Hi {T:FK.En} (h:FK.Cut S T):T.now=S.now/\T.seed=S.seed/\T.tms=S.tms/\T.sets=S.sets/\T.KX=S.KX/\T.KT=S.KT/\T.runs.Sublist S.runs:=by
 unfold FK.Cut at h
 split at h
 · obtain⟨o,_,rfl⟩:=h
   cases o with
   | none=>exact⟨rfl,rfl,rfl,rfl,rfl,rfl,List.Sublist.refl _⟩
   | some m=>exact⟨rfl,rfl,rfl,rfl,rfl,rfl,List.eraseP_sublist⟩
 · subst h;exact⟨rfl,rfl,rfl,rfl,rfl,rfl,List.Sublist.refl _⟩
def iR (n k:Nat):List FK.Sp:=List.replicate k FK.s1++List.replicate (n-k) FK.s0
theorem Az (h:k<=n):(iR n k).length=n:=by simp[iR];omega
theorem Dx (h:k<n):(iR n k)[k]?=some FK.s0:=by
 unfold iR;rw[List.getElem?_append_right cY,List.length_replicate,Nat.sub_self,List.getElem?_replicate,if_pos am]
theorem Ay (h:k<n):(iR n k).set k FK.s1=iR n (k+1):=by
 unfold iR;rw[List.set_append_right _ _ cY,List.length_replicate,Nat.sub_self];obtain⟨m,E⟩:∃m,n-k=m+1:=⟨n-k-1,am⟩;rw[E,List.replicate_succ,List.set_cons_zero,show n-(k+1)=m by omega,List.replicate_succ',List.append_assoc]
 rfl
theorem FV (n:Nat):((List.range n).flatMap λ_=>vv FK.s0)=vu (iR n 0):=by
 unfold vu iR;rw[List.flatMap_def,List.flatMap_def]
 congr 1
 simp only[List.replicate_zero,List.nil_append,Nat.sub_zero,List.map_replicate];apply List.ext_getElem<;>simp
theorem yz {fl:FK.Flow} {nv:Value} (Ll:1<=fl.KW.length) (K6:fl.KW.length<=100) (wf:tU fl) (K7:0<=fl.deadline) (hd:fl.deadline<=4611686018427387904) (Lj:S.now<=4611686018427387904) (hq:S.KX.length<=300) (hl:S.tms.length<=99998) (K8:S.sets<9223372036854775807) (BT:∀r∈S.runs,r.1<=S.KT) (Lm:S.KT<9223372036854775807) :
 dx G 97 [aX e,.agg #[aw fl.deadline,nv]] [aN e p S,nodesOwn nv fl.KW] λv m=>∃S0 p',FK.Cut S S0/\v=aQ (S.KT+1)/\m=[aN e p' (S0.submit fl)]:=by
 have In:∀(T:FK.En) n,T.now<=4611686018427387904->T.now<=T.later n:=λT n h=>by unfold FK.En.later;omega
 have mt:∀(T:FK.En) n,T.later n<=4611686018427387904:=λT n=>by unfold FK.En.later;omega
 refine bA Tryz.func97 Z λE fr hE=>aD (mc bJ λvs K9=>(aK .head ?_));rintro A c rfl a1 a2 a3 a4 _;obtain⟨I,rfl⟩:∃g,A=some ⟨g,0,none⟩:=by
  cases A with
  | none=>have:=(a1 rfl).1;omega
  | some ad=>obtain⟨g,rfl⟩:=a2 ad rfl;exact⟨g,rfl⟩
 refine aq (Ent.cons (Ent.all (m:=dg vs fl.KW))) ?_;refine aq (l':=row 46 7 (dp I fl.KW.length c) fl.KW.length (cL fl.KW vs)::fh vs fl.KW::aN e p S::fr) aT ?_;refine sS<|sO (cR Z Z λO=>(sB Z ?_))
 refine sQ<|cw (X:=FK.En) (λ_=>[(0,aX e),(3,aX O)]) (λT=>aN e p T::blk O 29 #[aw fl.deadline,dp I fl.KW.length c]::row 46 7 (dp I fl.KW.length c) fl.KW.length (cL fl.KW vs)::fh vs fl.KW::fr) (λT=>FK.Cut S T) ?_ ?_
 ·
  refine sS<|cG 1 Z Z ?_
  refine bF (au (v:=.map (some p.rm)) Z) (bE λ_ _ _=>rfl) ?_;refine bF (C0 (m:=eM S p) Z Z) dZ ?_;refine sP (aY (r:=decide (S.runs.length=6)) Z Z (by rw[List.length_map];exact decide_eq_decide.2 am)) ?_;refine sN ?_;refine aB Z (λJ=>?_) λJ=>?_
  ·
   refine bq Z ?_;refine bU Z qd gfE3 ?_;rintro v m ⟨⟨o,ho,rfl⟩,rfl⟩;refine aa<|sM Z<|bT Z Z<|bT Z Z<|sA Z<|sB Z<|sQ ?_
   by_cases HO:o=none
   ·
    subst HO;refine sG<|sM Z<|sN<|aj Z<|ae ?_
    exact aW S (by unfold FK.Cut;rw[if_pos J];exact⟨none,ho,rfl⟩) bV aT
   ·
    obtain⟨x,rfl⟩:=Option.ne_none_iff_exists'.1 HO;refine sG<|sM Z<|sN<|aM Z<|sG<|cG 1 Z Z ?_
    refine bF (au (v:=.map (some p.rm)) Z) (bE λ_ _ _=>rfl) ?_;refine sM Z<|sO<|Gp (id:=x.1) Z Z fc Z Z<|ao ?_
    exact aW (S.unrun x.1) (by unfold FK.Cut;rw[if_pos J];exact⟨some x,ho,rfl⟩) bV aT
  ·
   refine ae ?_;exact aW S (by unfold FK.Cut;rw[if_neg J]) bV gfE3
 intro T hT;obtain⟨k1,k2,k3,k4,k5,k6,k7⟩:=Hi hT;have Y:∀r∈T.runs,r.1<=T.KT:=λr hr=>by rw[k6];exact BT r (k7.subset hr)
 refine aq (l':=aN e p T::blk O 29 #[aw fl.deadline,dp I fl.KW.length c]::row 46 7 (dp I fl.KW.length c) fl.KW.length (cL fl.KW vs)::fh vs fl.KW::fr) aT ?_;refine sS<|cG 7 Z Z ?_
 refine bF (au (v:=.int .u64 T.KT) Z) (bE λ_ _ _=>rfl) ?_;refine sP (bc (r:=((T.KT+1:Nat):Int)) Z Z (by rw[km];omega))<|da Z<|bn 7 Z ?_
 refine sO<|re (S:=T) (S':={T with KT:=T.KT+1}) Z Z Z am Z (λ_ _ _=>rfl) Z Z Z Z Z Z ?_
 refine sN<|sQ<|sZ Z<|jh 0 Z (bO (vs:=[aw fl.deadline,dp I fl.KW.length c]) Z) (bm Z)<|bC Z (bl 1 Z)<|bQ Z (au Z) (ah Z)<|bC Z (bp Z Z) ?_
 refine dA 4 Z (CJ (zc:=vv FK.s0) Z Z KB Z Z am Z am am λgs=>?_);refine dK [true,true] (ai (ah Z) (ai (bm Z) ak))<|dj 5 Z (bI (cs:=#[aw fl.deadline,dp I fl.KW.length c,aw 1,dp gs fl.KW.length fl.KW.length,.int .u64 0]) Z Z Z Z Z)<|vw Z (cR Z Z λrb=>(dK [true,true] (ai (ah Z) (ai (bm Z) ak)) (bC Z (aU Z) (dE (sT (sQ (sQ ?_)))))))
 refine aq (l':=row 265 3 (dp gs fl.KW.length fl.KW.length) fl.KW.length (vu (iR fl.KW.length 0))::blk rb 263 #[aw fl.deadline,dp I fl.KW.length c,aw 1,dp gs fl.KW.length fl.KW.length,.int .u64 0]::aN e p {T with KT:=T.KT+1}::blk O 29 #[aw fl.deadline,dp I fl.KW.length c]::row 46 7 (dp I fl.KW.length c) fl.KW.length (cL fl.KW vs)::fh vs fl.KW::fr) ?_ ?_
 · refine gfE1.trans<|eV (cu _) (show fl.KW.length<=9223372036854775807 by omega) (by rw[List.size_toArray,cM (k:=3) (λ_=>rfl),List.length_range]) ?_
   rw[List.toList_toArray,FV,List.take_of_length_le (by rw[ol,Az (Nat.zero_le _)];omega)]
 refine sG<|cG 3 Z Z<|aR Z Z Z Z<|sP (bp Z Z)<|sM Z<|sN<|ag ?_
 refine aO (X:=Nat) (λk=>[(45,aw k),(44,aw fl.KW.length),(7,aX rb),(0,aX e),(3,aX O)]) (λk=>row 265 3 (dp gs fl.KW.length fl.KW.length) fl.KW.length (vu (iR fl.KW.length k))::blk rb 263 #[aw fl.deadline,dp I fl.KW.length c,aw 1,dp gs fl.KW.length fl.KW.length,.int .u64 0]::aN e p {T with KT:=T.KT+1}::blk O 29 #[aw fl.deadline,dp I fl.KW.length c]::row 46 7 (dp I fl.KW.length c) fl.KW.length (cL fl.KW vs)::fh vs fl.KW::fr) (λk=>k<=fl.KW.length) (λk=>fl.KW.length-k) 0 (Nat.zero_le _) bV aT ?_;intro k hk;refine sS<|sP (bz Z Z Z)<|sN<|sQ ?_
 refine aB Z (λLb=>?_) λLb=>?_
 ·
  have K:k<fl.KW.length:=am;refine ae<|sT<|sQ<|ag<|bq Z<|sB Z<|sG<|cG 3 Z Z<|aR Z Z Z Z<|ch Z (aS (z:=3) Z Z Z Z K)<|bn 0 Z ?_
  refine sO<|fD .head Z Z Z Z am ?_
  rw[show 0+k*3+0=0+k*3+0 from rfl,rX (j:=0) (s':=FK.s1) (Dx K) am rfl,Ay K];refine ao<|al<|sT<|sG<|sP (bc (r:=((k+1:Nat):Int)) Z Z dP)<|sM Z<|ao ?_
  exact aE (k+1) K am bV aT
 ·
  have Ld:k=fl.KW.length:=am;subst Ld;have Le:iR fl.KW.length fl.KW.length=(FK.Rn.begun fl).KV:=by unfold iR FK.Rn.begun;simp
  rw[Le];refine aL<|aA<|az<|ap<|sT<|sQ ?_
  have K3:(FK.Rn.begun fl).KV.length=fl.KW.length:=by unfold FK.Rn.begun;simp
  refine aq (l':=kR rb ⟨I,c,gs,fl.KW.length,vs⟩ (FK.Rn.begun fl)::aN e p {T with KT:=T.KT+1}::blk O 29 #[aw fl.deadline,dp I fl.KW.length c]::fr) ?_ ?_
  · refine Ent.trans ?_<|Ent.all (m:=o7 rb ⟨I,c,gs,fl.KW.length,vs⟩ (FK.Rn.begun fl))
    unfold o7 RA.sv RA.nv Ad Aa RA.sv RA.nv;rw[K3];refine(cF bJ gt gt).trans ?_;exact Ent.pure K9
  refine sZ Z<|dT Z Z<|dt 1 Z Z Z ?_
  refine jh 3 Z (au Z) (bE λ_ _ _=>rfl) ?_;refine dj 4 Z (bd Z)<|dt 7 Z Z Z ?_
  refine jh 7 Z (au Z) (bE λ_ _ _=>rfl) ?_;refine dj 8 Z (bd Z) ?_;refine dA 9 Z<|Gr (id:=T.KT+1) (b:=rb) (a:=⟨I,c,gs,fl.KW.length,vs⟩) (R:=FK.Rn.begun fl) Z Z fc Z Z Z (λr hr=>by have:=Y r hr;omega) ?_
  refine dK [false,false] ak<|dE<|sT<|sQ ?_
  obtain⟨p',Lc⟩:∃p',p'=p.add (T.KT+1) rb ⟨I,c,gs,fl.KW.length,vs⟩:=⟨_,rfl⟩;rw[<-Lc];refine aq (l':=aN e p' (T.begin fl)::blk O 29 #[aw fl.deadline,dp I fl.KW.length c]::fr) aT ?_;have Lu:(T.begin fl).now=S.now:=k1;have Lv:(T.begin fl).sets=S.sets:=k4;have Lg:(T.begin fl).tms=S.tms:=k3;refine sZ Z<|dT Z Z<|dt 6 Z Z Z ?_
  refine jh 3 Z (au Z) (bE λ_ _ _=>rfl) ?_;refine dj 4 Z (bd Z)<|dt 7 Z Z Z ?_
  refine jh 7 Z (au Z) (bE λ_ _ _=>rfl) ?_;refine dj 8 Z (bI (cs:=#[.int .u64 ((T.KT+1:Nat):Int),aw (-1),aw 0]) Z Z Z Z Z)<|cv Z Z<|bC Z (bl 0 Z)<|bQ Z (au Z) (ah Z) ?_
  refine dA 12 Z<|ed Z (lS (S:=T.begin fl) fl.deadline am K7 hd) aT ?_
  rintro v m ⟨rfl,rfl⟩;refine aa ?_;refine dK [false,true,true] (ai (bE λ_ _ _=>rfl) (ai (bE λ_ _ _=>rfl) ak)) ?_;refine dA 13 Z<|ed Z (qT (S:=T.begin fl) ⟨T.KT+1,-1,0⟩ ((T.begin fl).later fl.deadline.toNat) (In _ _ am) (mt _ _) am (by rw[Lg];omega)) aT ?_
  rintro v m ⟨rfl,rfl⟩;refine aa ?_;refine dK [true,false] (ai (bE (S:=(T.begin fl).setT ⟨T.KT+1,-1,0⟩ ((T.begin fl).later fl.deadline.toNat)) λ_ _ _=>rfl) ak) ?_;refine dE<|sT<|sQ ?_
  obtain⟨U,hU⟩:∃U,U=(T.begin fl).setT ⟨T.KT+1,-1,0⟩ ((T.begin fl).later fl.deadline.toNat):=⟨_,rfl⟩;rw[<-hU];have Lh:U.getR (T.KT+1)=some (FK.Rn.begun fl):=by rw[hU];exact FK.tx Y
  have K4:U.KT=T.KT+1:=by rw[hU];rfl
  have Li:U.KX=S.KX:=by rw[hU];exact k5
  refine sG<|sM Z<|cG 7 Z Z ?_
  refine bF (au (v:=.int .u64 ((T.KT+1:Nat):Int)) Z) (bE (S:=U) λ_ _ _=>by rw[<-K4];rfl) ?_;refine bW Z (uw (S:=U) Lh K3 wf K6 (by rw[Li];exact hq)) aT ?_;refine aa<|sN<|sQ ?_
  obtain⟨Ln,Lo,Lp,Lq,Lr,Ls,Fd,Lt⟩:=FK.ni U (T.KT+1);obtain⟨V,hV⟩:∃V,V=U.wake (T.KT+1):=⟨_,rfl⟩;rw[<-hV] at Fd;rw[<-hV];refine sG<|cG 7 Z Z ?_
  refine bF (au (v:=.int .u64 ((T.KT+1:Nat):Int)) Z) (bE (S:=V) λ_ _ _=>by rw[<-K4,<-Fd];rfl) ?_;refine sB Z<|an ?_
  have K5:V=T.submit fl:=by rw[hV,hU];rfl
  exact ar [aN e p' V] rfl Z ⟨T,p',hT,by rw[k6],by rw[K5]⟩<|Ent.cons Ent.drop
abbrev cm (run:Nat) (st:Int) (E I:Value):List Value:=[.int .u64 run,aw st,E,I]
theorem yZ (id:Nat) (I:S.getR id=none):dx G 105 [aX e,aQ id] [aN e p S] λv m=>v=.tuple #[.agg (cm 0 0 cx cx).toArray,.bool false]/\m=[aN e p S]:=by
 refine bA Tryz.func105 Z λE fr J=>aa<|sS<|sO (cH (z:=.agg #[.int .u64 0,aw 0,cx,cx]) Z λK=>(sB Z (sS (sM Z (da Z (bn 1 Z ?_))))))
 refine bF (au (v:=.map (some p.rm)) Z) (bE λ_ _ _=>rfl) ?_;refine sM Z<|bF (kf (m:=eM S p) Z fc Z Z Z (pq I)) dZ<|sM Z<|bT Z Z<|bT Z Z<|sA Z<|sB Z<|sQ<|bq Z<|sP (cD Z Z)<|sN<|aM Z<|sS<|bF (bO (vs:=cm 0 0 cx cx) Z) (bm Z) ?_
 refine sO<|bh (vs:=cm 0 0 cx cx) Z (m:=4) Z Z Z Z er (by show 0+4<=4;omega) ?_
 exact sB Z<|an<|aC<|dr [aN e p S] rfl (bM (vs:=cm 0 0 cx cx) Z Z Z Z (bm Z)) (bL Z) ⟨rfl,rfl⟩ Ent.drop
theorem yY (hR:S.getR id=some R) (hn:R.KV.length<=100):dx G 105 [aX e,aQ id] [aN e p S] λv m=>∃v2 v3,v=.tuple #[.agg (cm id R.state v2 v3).toArray,.bool true]/\m=[aN e p S,bG v2 (R.KV.map (·.state)),bG v3 (R.KV.map (·.KU))]:=by
 refine bA Tryz.func105 Z λE fr hE=>aa<|sS<|sO (cH (z:=.agg #[.int .u64 0,aw 0,cx,cx]) Z λb4=>(sB Z (sS (sM Z (da Z (bn 1 Z ?_))))))
 refine bF (au (v:=.map (some p.rm)) Z) (bE λ_ _ _=>rfl) ?_;refine sM Z<|bF (lA (m:=eM S p) Z fc Z Z (gi hR)) dZ<|sM Z<|bT Z Z<|bT Z Z<|sA Z<|sB Z<|sQ<|bq Z<|sP (cD Z Z)<|sN<|aj Z<|ae<|sT<|sQ ?_
 refine sG<|sM Z<|cG 2 Z Z<|bF (au (v:=aw R.state) Z) (cK hR Z)<|sP (bI (cs:=(cm id R.state cx cx).toArray) Z Z Z Z Z) ?_
 refine sO<|bh (vs:=cm id R.state cx cx) Z (m:=4) Z Z Z Z er (by show 0+4<=4;omega) ?_
 refine sN<|sQ<|sS<|cG 3 Z Z<|bF (au (v:=(p.ra id).sv R) Z) (cK hR Z)<|sP (bp Z Z)<|sM Z<|sN<|ag ?_
 refine aO (X:=Nat×Value×Value) (λx=>[(32,aw x.1),(31,aw R.KV.length),(30,(p.ra id).sv R),(4,aX b4),(6,aX (p.fb id))]) (λx=>blk b4 62 (cm id R.state x.2.1 x.2.2).toArray::row 3 1 x.2.1 x.1 (eu ((R.KV.take x.1).map (·.state)))::row 3 1 x.2.2 x.1 (eu ((R.KV.take x.1).map (·.KU)))::aN e p S::fr) (λx=>x.1<=R.KV.length) (λx=>R.KV.length-x.1) (0,cx,cx) (Nat.zero_le _) bV (Ent.cons (Ent.row0.trans (Ent.cons Ent.row0))) ?_;rintro⟨k,v2,v3⟩ hk;replace hk:k<=R.KV.length:=hk;refine aq (l':=blk b4 62 (cm id R.state v2 v3).toArray::row 3 1 v2 k (eu ((R.KV.take k).map (·.state)))::row 3 1 v3 k (eu ((R.KV.take k).map (·.KU)))::aN e p S::fr) aT ?_;refine sS<|sP (bz Z Z Z)<|sN<|sQ ?_
 refine aB Z (λFd=>?_) λFd=>?_
 ·
  have mt:k<R.KV.length:=by have:(k:Int)<(R.KV.length:Int):=Fd;omega
  obtain⟨s,hs⟩:∃s,R.KV[k]?=some s:=⟨R.KV[k],by simp[mt]⟩;have In:eu ((R.KV.take k).map (·.state))++[aw s.state]=eu ((R.KV.take (k+1)).map (·.state)):=by rw[List.take_add_one,hs];simp[eu]
  have K3:eu ((R.KV.take k).map (·.KU))++[aw s.KU]=eu ((R.KV.take (k+1)).map (·.KU)):=by rw[List.take_add_one,hs];simp[eu]
  refine ae<|sT<|sQ<|ag<|sS<|sP (aS (z:=3) Z Z Z Z mt)<|bF (bO (vs:=vv s) Z) (xt hR hs)<|sO (cH (z:=.agg #[aw 0,aw 0,.int .u64 0]) Z λb8=>?_)
  refine sO<|bh (vs:=vv s) Z (m:=3) Z Z Z Z er (by show 0+3<=3;omega) ?_
  refine aq (l':=blk b8 265 (vv s).toArray::blk b4 62 (cm id R.state v2 v3).toArray::row 3 1 v2 k (eu ((R.KV.take k).map (·.state)))::row 3 1 v3 k (eu ((R.KV.take k).map (·.KU)))::aN e p S::fr) aT ?_;refine sN<|sZ Z<|dj 0 Z (bl 2 Z)<|bQ Z (au Z) (ah Z)<|bC Z (bl 0 Z)<|bQ Z (au Z) (ah Z)<|dj 6 Z (bl 3 Z)<|bQ Z (au Z) (ah Z)<|bC Z (bl 1 Z)<|bQ Z (au Z) (ah Z) ?_
  refine io 4 10 Z Z Z Z eA (eI Z Z Z Z Z Z λK5=>?_) (eI Z Z Z Z Z Z λK4=>?_)
  ·
   refine dK [true,true,false,true] (ai (ah Z) (ai (ah Z) (ai (ah Z) ak))) ?_;refine io 5 10 rfl rfl rfl rfl eA (bZ rfl rfl jp rfl am rfl rfl (HasVal.sel (v:=v2)) (news:=[aw s.state]) rfl (λh=>by cases h) (eO (λj u h=>by simpa using h)) er (by unfold maxLen;omega) am λT wf=>?_) (eI rfl rfl rfl rfl rfl rfl λK4=>?_)
   ·
    refine aK (HasVal.sel (v:=T)) ?_;rintro I J rfl - - - - -
    refine dK [true,true,false] (ai (ah Z) (ai (ah Z) ak))<|dj 12 Z (bl 2 Z)<|dA 10 Z (eI Z Z Z Z Z Z λK4=>(dK [false,true] (ai (ah Z) ak) ?_))
    refine dR 11 rfl rfl (bZ rfl rfl jp rfl am rfl rfl (HasVal.sel (v:=v3)) (news:=[aw s.KU]) rfl (λh=>by cases h) (eO (λj u h=>by simpa using h)) er (by unfold maxLen;omega) am λY BT=>?_);refine aK (HasVal.sel (v:=Y)) ?_;rintro K O rfl - - - - -
    refine dK [false] ak ?_;refine dA 13 Z<|co Z Z Z Z Z gN ?_
    refine dK [] ak<|dj 14 Z (bl 3 Z) ?_
    refine dA 15 Z<|co Z Z Z Z Z gN ?_
    refine dK [] ak<|dE<|al<|sT<|aG b4 (cm id R.state (.slice I (k+1) J) (.slice K (k+1) O)).toArray Z<|sG<|sP (bc (r:=((k+1:Nat):Int)) Z Z dP)<|sM Z<|ao ?_
    exact aE (k+1,.slice I (k+1) J,.slice K (k+1) O) mt (by show R.KV.length-(k+1)<R.KV.length-k;omega) bV (by rw[In,K3];exact aJ)
   ·
    refine dK [false,true,true] (ai (ah Z) (ai (ah Z) ak)) ?_;refine dR 5 rfl rfl (bZ rfl rfl jp rfl am rfl rfl (HasVal.sel (v:=v2)) (news:=[aw s.state]) rfl (λh=>by cases h) (eO (λj u h=>by simpa using h)) er (by unfold maxLen;omega) am λT wf=>?_);refine aK (HasVal.sel (v:=T)) ?_;rintro I J rfl - - - - -
    refine dK [true,false] (ai (ah Z) ak)<|dj 12 Z (bl 2 Z) ?_
    refine dR 11 rfl rfl (bZ rfl rfl jp rfl am rfl rfl (HasVal.sel (v:=v3)) (news:=[aw s.KU]) rfl (λh=>by cases h) (eO (λj u h=>by simpa using h)) er (by unfold maxLen;omega) am λY BT=>?_);refine aK (HasVal.sel (v:=Y)) ?_;rintro K O rfl - - - - -
    refine dK [false] ak ?_;refine dA 13 Z<|co Z Z Z Z Z gN ?_
    refine dK [] ak<|dj 14 Z (bl 3 Z) ?_
    refine dA 15 Z<|co Z Z Z Z Z gN ?_
    refine dK [] ak<|dE<|al<|sT<|aG b4 (cm id R.state (.slice I (k+1) J) (.slice K (k+1) O)).toArray Z<|sG<|sP (bc (r:=((k+1:Nat):Int)) Z Z dP)<|sM Z<|ao ?_
    exact aE (k+1,.slice I (k+1) J,.slice K (k+1) O) mt (by show R.KV.length-(k+1)<R.KV.length-k;omega) bV (by rw[In,K3];exact aJ)
  ·
   refine dK [false,true,true,true] (ai (ah Z) (ai (ah Z) (ai (ah Z) ak)))<|dA 4 Z (eI Z Z Z Z Z Z λK5=>(dK [true,false,true] (ai (ah Z) (ai (ah Z) ak)) ?_))
   refine dR 5 rfl rfl (bZ rfl rfl jp rfl am rfl rfl (HasVal.sel (v:=v2)) (news:=[aw s.state]) rfl (λh=>by cases h) (eO (λj u h=>by simpa using h)) er (by unfold maxLen;omega) am λT wf=>?_);refine aK (HasVal.sel (v:=T)) ?_;rintro I J rfl - - - - -
   refine dK [true,false] (ai (ah Z) ak)<|dj 12 Z (bl 2 Z) ?_
   refine dR 11 rfl rfl (bZ rfl rfl jp rfl am rfl rfl (HasVal.sel (v:=v3)) (news:=[aw s.KU]) rfl (λh=>by cases h) (eO (λj u h=>by simpa using h)) er (by unfold maxLen;omega) am λY BT=>?_);refine aK (HasVal.sel (v:=Y)) ?_;rintro K O rfl - - - - -
   refine dK [false] ak ?_;refine dA 13 Z<|co Z Z Z Z Z gN ?_
   refine dK [] ak<|dj 14 Z (bl 3 Z) ?_
   refine dA 15 Z<|co Z Z Z Z Z gN ?_
   refine dK [] ak<|dE<|al<|sT<|aG b4 (cm id R.state (.slice I (k+1) J) (.slice K (k+1) O)).toArray Z<|sG<|sP (bc (r:=((k+1:Nat):Int)) Z Z dP)<|sM Z<|ao ?_
   exact aE (k+1,.slice I (k+1) J,.slice K (k+1) O) mt (by show R.KV.length-(k+1)<R.KV.length-k;omega) bV (by rw[In,K3];exact aJ)
 ·
  have K6:k=R.KV.length:=by have:¬(k:Int)<(R.KV.length:Int):=Fd;omega
  refine aL<|aA<|az<|ap<|sT<|sQ<|aK (HasVal.sel (v:=v2)) ?_
  rintro A2 c2 rfl - - - - -
  refine aK (HasVal.sel (v:=v3)) ?_;rintro A3 c3 rfl - - - - -
  refine sG<|bF (bO (vs:=cm id R.state (.slice A2 k c2) (.slice A3 k c3)) Z) (bm Z) ?_
  refine sO<|bh (vs:=cm id R.state (.slice A2 k c2) (.slice A3 k c3)) Z (m:=4) Z Z Z Z er (by show 0+4<=4;omega) ?_
  refine sB Z<|an ?_
  refine dr [aN e p S,bG (.slice A2 k c2) (R.KV.map (·.state)),bG (.slice A3 k c3) (R.KV.map (·.KU))] rfl (bM (vs:=cm id R.state (.slice A2 k c2) (.slice A3 k c3)) Z Z Z Z (bm Z)) (bL Z) ⟨_,_,rfl,rfl⟩ ?_;rw[List.take_of_length_le am];show Ent _ (aN e p S::row 3 1 _ (R.KV.map (·.state)).length _::row 3 1 _ (R.KV.map (·.KU)).length _::fr);rw[List.length_map,List.length_map,<-K6];exact aJ
abbrev qV (S:FK.En) (l:List FK.Pl):List Value:=l.flatMap λq=>cd q.run q.node (S.tryOf q) 0
theorem sf:fd Tryz.prog 55 (fR 0 0 0 0) 4 32:=by unfold fd;kernel_rfl
theorem pF (id:Nat) (j t:Int) (tok:Nat):Instr.fill (λi=>some (i*4,4)) (Array.map (λx=>(fR 0 0 0 0).cells[x%(fR 0 0 0 0).cells.size]!) (Array.range (1*4))) ((List.map (λx=>x.fst) [((0:Nat),Operand.tmp 39)]).zip [fR id j t tok])=some (cd id j t tok).toArray:=by
 have e1:Array.range (1*4)=#[0,1,2,3]:=rfl;rw[e1];simp[Instr.fill,Value.cells]
theorem Bk (mt:S.QueueOk) (hq:S.KX.length<=1000):dx G 98 [aX e] [aN e p S] λv m=>m=[aN e p S,row 55 4 v S.KX.length (qV S S.KX)]:=by
 refine bA Tryz.func98 Z λE fr hE=>aa<|sS<|sB Z<|sS<|sB Z<|sQ<|sS<|cG 3 Z Z ?_
 refine bW Z r6 aT ?_;refine aa<|sM Z<|sN<|ag ?_
 refine aO (X:=Nat×Value) (λx=>[(10,aw x.1),(9,aw S.KX.length),(3,x.2),(0,aX e)]) (λx=>row 55 4 x.2 x.1 (qV S (S.KX.take x.1))::aN e p S::fr) (λx=>x.1<=S.KX.length) (λx=>S.KX.length-x.1) (0,cx) (Nat.zero_le _) bV Ent.row0 ?_;rintro⟨k,v3⟩ hk;replace hk:k<=S.KX.length:=hk;refine sS<|sP (bz Z Z Z)<|sN<|sQ ?_
 refine aB Z (λJ=>?_) λJ=>?_
 ·
  have T:k<S.KX.length:=by have:(k:Int)<(S.KX.length:Int):=J;omega
  obtain⟨q,K⟩:∃q,S.KX[k]?=some q:=⟨S.KX[k],by simp[T]⟩;obtain⟨K5,R,s,I,O,hs1,K6⟩:=mt q (bY K);obtain⟨j,hj⟩:∃j:Nat,q.node=(j:Int):=⟨q.node.toNat,am⟩;obtain⟨id,nd,wh⟩:=q;simp only at hj I O;subst hj;rw[Int.toNat_natCast] at O;have BT:=(gfGet.1 O).1;have Y:S.tryOf ⟨id,(j:Int),wh⟩=s.KU+1:=by
   unfold FK.En.tryOf;simp only[I,Int.toNat_natCast,O]
  have Fd:qV S (S.KX.take k)++cd id (j:Int) (s.KU+1) 0=qV S (S.KX.take (k+1)):=by
   rw[List.take_add_one,K];unfold qV;rw[List.flatMap_append,<-Y]
   rfl
  refine ae<|sT<|sQ<|ag<|bq Z<|sB Z<|sS<|cG 3 Z Z<|sM Z ?_
  refine bW Z (Iy K) gfE1 ?_;refine aa<|sO (cH (z:=.agg #[.int .u64 0,aw 0,aw 0]) Z λb5=>?_)
  refine sO<|bh (vs:=ir ⟨id,(j:Int),wh⟩) Z (m:=3) Z Z Z Z er (by show 0+3<=3;omega) ?_
  refine aG b5 (ir ⟨id,(j:Int),wh⟩).toArray Z<|sN<|sZ Z<|dT Z Z<|bC Z (bl 0 Z)<|bQ Z (au Z) (ah Z)<|bC Z (bl 1 Z)<|bQ Z (au Z) (ah Z)<|cv Z Z<|dt 1 Z Z Z ?_
  refine jh 8 Z (au (v:=.map (some p.rm)) Z) (bE λ_ _ _=>rfl) ?_;refine dj 9 Z (bl 0 Z)<|bQ Z (au Z) (ah Z)<|bQ Z (gy (a:=id) (v:=aX (p.fb id)) Z fc Z Z (gi I)) dZ<|dt 3 Z Z Z<|bQ Z (au (v:=(p.ra id).sv R) Z) (cK I Z)<|bC Z (bl 1 Z)<|bQ Z (au Z) (ah Z)<|bC Z (aS (z:=3) Z Z Z Z BT)<|bC Z (bl 1 Z)<|bQ Z (au (v:=aw s.KU) Z) (e9 I O Z)<|bC Z (bc (r:=s.KU+1) Z Z (by rw[jf am]))<|bC Z (bI (cs:=(cd id j (s.KU+1) 0).toArray) Z Z Z Z Z) ?_
  refine dA 22 Z (dh (m:=1) (z:=fR 0 0 0 0) (size:=4) (ps:=[(0,.tmp 39)]) (vs:=[fR id j (s.KU+1) 0]) (cs:=(cd id j (s.KU+1) 0).toArray) Z Z Z Z am am Z (pF _ _ _ _) λK4=>?_);refine dK [true,true,true,true,true,true,true,true] (ai (e9 I O Z) (ai (ah Z) (ai (cK I Z) (ai dZ (ai (ah Z) (ai (bE λ_ _ _=>rfl) (ai (ah Z) (ai (ah Z) ak)))))))) ?_;refine dR 23 rfl rfl (bZ rfl rfl sf rfl am rfl rfl (HasVal.sel (v:=v3)) (news:=cd id j (s.KU+1) 0) rfl (λh=>by cases h) (eO (λj u h=>by simpa using h)) er (by unfold maxLen;omega) am λwf K3=>?_);refine dK [true,true,true,true,true,true,true,true] (ai (e9 I O Z) (ai (ah Z) (ai (cK I Z) (ai dZ (ai (ah Z) (ai (bE λ_ _ _=>rfl) (ai (ah Z) (ai (ah Z) ak)))))))) ?_;refine dj 24 Z (aU Z)<|dE<|al<|sT<|sG<|sP (bc (r:=((k+1:Nat):Int)) Z Z dP)<|sM Z<|ao ?_
  exact aE (k+1,wf) T (by show S.KX.length-(k+1)<S.KX.length-k;omega) bV (by rw[Fd];exact aJ)
 ·
  have In:k=S.KX.length:=by have:¬(k:Int)<(S.KX.length:Int):=J;omega
  rw[In,List.take_length];refine aL<|aA<|az<|ap<|sT<|bq Z<|sB Z<|an ?_
  exact ar [aN e p S,row 55 4 v3 S.KX.length (qV S S.KX)] rfl Z Z aJ
theorem tQ {Y:List HP} (xs:List Int) (A:Option Addr) (c:Nat) (F:FuncId) (cap:Array Value) (f:Int->Bool) (BT:xs.length<=9223372036854775807) (hA:xs≠[]->∃g,A=some ⟨g,0,none⟩/\∀E w r,Holds E w (Y++r)->∀j x,xs[j]?=some x->cq ⟨g,0+j*1,none⟩ (aw x) w) (hF:eB Tryz.prog F=true) (hf:∀x∈xs,Does Tryz.prog G F (#[aw x]++cap) Y λv m=>v=.bool (f x)/\m=Y) :
 dx G 281 [.slice A xs.length c,.func (.func F) #[] cap] Y λu m=>(∃i:Int,u=aw i/\(0<=i<->xs.any f=true))/\m=Y:=by
 refine bA Tryz.func281 Z λE fr hE=>sS<|sB Z<|sQ<|bq Z<|sP (bp Z Z)<|sM Z<|sN<|ag ?_
 refine aO (X:=Nat) (λk=>[(8,aw k),(7,aw xs.length),(0,.slice A xs.length c),(1,.func (.func F) #[] cap)]) (λ_=>Y++fr) (λk=>k<=xs.length/\(xs.take k).any f=false) (λk=>xs.length-k) 0 ⟨Nat.zero_le _,rfl⟩ bV aT ?_;rintro k ⟨hk,hno⟩;refine sS<|sP (bz Z Z Z)<|sN<|sQ ?_
 refine aB Z (λc9=>?_) λc9=>?_
 ·
  have I:k<xs.length:=am;obtain⟨g,rfl,O⟩:=hA (by intro h;rw[h] at I;simp at I);obtain⟨x,T⟩:∃x,xs[k]?=some x:=⟨xs[k],by simp[I]⟩;have mt:xs.take (k+1)=xs.take k++[x]:=by rw[List.take_add_one,T];rfl
  refine ae<|sT<|sQ<|ag<|bq Z<|sB Z<|bq Z<|sM Z<|ch Z (aS (z:=1) Z Z Z Z I) ?_
  refine bF (au (v:=aw x) Z) (λw hw=>O _ _ _ hw k x T) ?_;refine sO<|jl Z Z hF Z hE (hf x (bY T)) aT ?_
  rintro v m ⟨rfl,hm⟩;rw[hm];refine sN ?_;refine ce Z (λJ=>?_) λJ=>?_
  ·
   refine bq Z<|sB Z<|an<|aH<|aC<|bP<|aH<|aC ?_
   exact ar Y Z Z ⟨⟨_,rfl,by
    have:xs.any f=true:=List.any_eq_true.2 ⟨x,bY T,J⟩;simp[this]⟩,rfl⟩ aT
  ·
   refine ae<|al<|sT<|sG<|sP (bc (r:=((k+1:Nat):Int)) Z Z dP)<|sM Z<|ao ?_
   exact aE (k+1) ⟨I,by rw[mt,List.any_append,hno];simp[J]⟩ am bV aT
 ·
  have wf:k=xs.length:=am;rw[wf,List.take_length] at hno;refine aL<|aA<|az<|ap<|sT<|sS<|sB Z<|an ?_
  exact ar Y Z Z ⟨⟨_,rfl,by simp[hno]⟩,rfl⟩ aT
theorem o0 {Y:List HP} (xs:List Int) (A:Option Addr) (c:Nat) (F:FuncId) (cap:Array Value) (f:Int->Bool) (I:xs.length<=9223372036854775807) (J:xs≠[]->∃g,A=some ⟨g,0,none⟩/\∀E w r,Holds E w (Y++r)->∀j x,xs[j]?=some x->cq ⟨g,0+j*1,none⟩ (aw x) w) (O:eB Tryz.prog F=true) (T:∀x∈xs,Does Tryz.prog G F (#[aw x]++cap) Y λv m=>v=.bool (f x)/\m=Y) :
 dx G 256 [.slice A xs.length c,.func (.func F) #[] cap] Y λu m=>u=.bool (xs.any f)/\m=Y:=by
 refine bA Tryz.func256 Z λE fr hE=>sS<|sB Z<|bq Z<|sM Z ?_
 refine bU Z (tQ xs A c F cap f I J O T) aT ?_;rintro v m ⟨⟨i,rfl,hi⟩,hm⟩;rw[hm];refine sP (mA Z Z Z)<|sB Z<|an ?_
 have hd:decide ((0:Int)<=i)=xs.any f:=by
  cases hx:xs.any f with
  | true=>exact vA (hi.2 hx)
  | false=>exact pc (λh=>by rw[hi.1 h] at hx;cases hx)
 exact ar Y Z Z ⟨by rw[hd],rfl⟩ aT
theorem Ent.under {n:Nat} {a b:List HP} (h:Ent a b):Ent (a.map (SL.under n)) (b.map (SL.under n)):=λw _ s=>(Star.under (h w _ (lZ s)) λ_ hk=>hk.2).mono λ_ hk=>hk.1
theorem EQ {g m size:Nat}:Ent (SL.under n (row t size (dp g m c) m xs)::r) (HP.pure (g<n)::row t size (dp g m c) m xs::r):=λw F ⟨F1,F2,J,O,T,I,Y⟩=>
 Ent.pure (I.2 g rfl).2 w F ⟨F1,F2,J,O,T,(row t size (dp g m c) m xs).loc (λ_ h=>h.1) (λ_ _=>rfl) I,Y⟩
theorem ER {g m size:Nat} (J:g<n):Ent (row t size (dp g m c) m xs::r) (SL.under n (row t size (dp g m c) m xs)::r):=λ_ _ ⟨F1,F2,O,T,Y,I,hl⟩=>
 ⟨F1,F2,O,T,Y,⟨I.1,λk hk=>⟨I.2 k hk,by injection hk with hk;subst hk;exact J⟩⟩,hl⟩
theorem Hq:Ent (SL.under n (ob b o)::r) (HP.pure (b<n)::ob b o::r):=λw F ⟨F1,F2,J,O,T,I,Y⟩=>
 Ent.pure I.1.2 w F ⟨F1,F2,J,O,T,⟨I.1.1,I.2⟩,Y⟩
theorem sC (J:b<n):Ent (ob b o::r) (SL.under n (ob b o)::r):=λ_ _ ⟨F1,F2,O,T,Y,I,hl⟩=>
 ⟨F1,F2,O,T,Y,⟨⟨I.1,J⟩,I.2⟩,hl⟩
section
variable {l:List HP} {pos:String} {x y:Operand}
theorem DX {h o:Nat} {s':FK.Sp} (H:Sel (SL.under h (aN e p S)) l r) (Y:S.getR id=some R) (O:R.KV[k]?=some s) (hz:df P t 1) (hx:ev ts x=some (.pointer (some ⟨(p.ra id).gs,o,none⟩))) (hy:ev ts y=some v) (ho:o=0+k*3+j) (hj:j<3) (hv:v.oneCell'=true) (I:(vv s).set j v=vv s')
 (hk:At E n D ts (SL.under h (aN e p (S.setR id (R.setS k s')))::r) K):At E n D ts l (λa w=>(Oper.mk none (.store t x y) ty pos af g).wp P a w K Q):=by
 refine aq (Ent.sel H) ?_;refine bt (p:=eC S) (λw hw=>nV hw) λT=>?_;obtain⟨a,b,J,hset'⟩:=kB Y T;refine aq ((Ent.under (n:=h) (kO (e:=e) (p:=p) (r:=[]) J)).append r) ?_;rw[List.append_nil];have mt:=(gfGet.1 O).1;have hl:(R.setS k s').KV.length=R.KV.length:=by simp[FK.Rn.setS]
 show At E n D ts (SL.under h (HP.pure ((p.ra id).vs.length=R.fl.KW.length))::SL.under h (Ad (p.fb id) (p.ra id) R)::SL.under h (row 46 7 ((p.ra id).nv R) R.fl.KW.length (cL R.fl.KW (p.ra id).vs))::SL.under h (fh (p.ra id).vs R.fl.KW)::SL.under h (row 265 3 ((p.ra id).sv R) R.KV.length (vu R.KV))::((nJ e p S a b).map (SL.under h)++r)) _;refine aq (gfE4.trans EQ) ?_;refine fg .head λhg=>?_;refine fD .head hz hx hy hv am ?_;refine aq ?_ hk;subst ho;rw[rX O hj I];refine(ER hg).trans ?_;refine((cF bJ bJ bJ).trans (Ent.cons (Ent.cons (Ent.cons gfE1)))).trans ?_;have hc:=(Ent.under (n:=h) (j4 (e:=e) (p:=p) (r:=[]) T (hset' (R.setS k s')))).append r;rw[List.append_nil] at hc;refine Ent.trans ?_ hc;show Ent _ (SL.under h (HP.pure ((p.ra id).vs.length=R.fl.KW.length))::SL.under h (blk (p.fb id) 263 #[aw R.fl.deadline,(p.ra id).nv R,aw R.state,.slice (some ⟨(p.ra id).gs,0,none⟩) (R.setS k s').KV.length (p.ra id).cs,.int .u64 R.ended])::SL.under h (row 46 7 ((p.ra id).nv R) R.fl.KW.length (cL R.fl.KW (p.ra id).vs))::SL.under h (fh (p.ra id).vs R.fl.KW)::SL.under h (row 265 3 (.slice (some ⟨(p.ra id).gs,0,none⟩) (R.setS k s').KV.length (p.ra id).cs) (R.setS k s').KV.length (vu (R.KV.set k s')))::((nJ e p S a b).map (SL.under h)++r));rw[hl];exact aT
end
end Go.Y
namespace FK
theorem skipK_at {ns:List Node} {nd:Node} (E:l[k]?=some s) (I:ns[k]?=some nd):skipK ns l k=if s.state=1/\(nd.after.any λu=>cO l u.toNat 6||cO l u.toNat 7) then l.set k {s with state:=7} else l:=by
 unfold skipK;rw[E,I]
end FK
namespace Go.Y
open Go.Proofs
open Go Go.RowKit Go.SL
abbrev ik (c:Nat) (v:Value):HP:=blk c 260 #[v]
theorem Iq (E:S.getR id=some R) (I:eC S):S.setR id R=S:=by
 obtain⟨a,b,J,K⟩:=kB E I;have h3:(S.setR id R).runs=S.runs:=by rw[K,J]
 have O:S.setR id R={S with runs:=(S.setR id R).runs}:=rfl;rw[O,h3]
theorem wW {u h:Nat} (I:S.getR id=some R) (J:R.KV[u]?=some s):dx G 257 [aw u,aX c] [SL.under h (aN e p S),ik c (aX (p.fb id))] λv m=>v=.bool (decide (s.state∈[6,7]))/\m=[SL.under h (aN e p S),ik c (aX (p.fb id))]:=by
 refine bA Tryz.func257 Z λE fr O=>aD<|sS<|sB Z<|sS<|aR Z Z Z Z<|sM Z<|sO (xH Z Z Z Z Z Z Z Z λK=>?_)
 refine bW Z (se [6,7] (some ⟨K,0,none⟩) 2 I J) ((bo bJ .head).trans (Ent.cons (iq (xs:=[6,7]) (show 2<=9223372036854775807 by omega)))) ?_;exact aa<|sB Z<|an<|ar [_,_] rfl Z ⟨rfl,rfl⟩ aT
theorem zI {h:Nat} (J:S.getR id=some R) (K7:R.KV.length=R.fl.KW.length) (mt:tU R.fl) (_:R.fl.KW.length<=100) (hk:k<R.fl.KW.length) :
 Does Tryz.prog G 255 (#[aw k]++#[aX c]) [SL.under h (aN e p S),SL.under h (ik c (aX (p.fb id)))] λv m=>v=.tuple #[]/\m=[SL.under h (aN e p (S.setR id {R with KV:=FK.skipK R.fl.KW R.KV k})),SL.under h (ik c (aX (p.fb id)))]:=by
 obtain⟨s,hs⟩:∃s,R.KV[k]?=some s:=⟨R.KV[k]'am,by simp⟩;obtain⟨nd,hnd⟩:∃nd,R.fl.KW[k]?=some nd:=⟨R.fl.KW[k],by simp[hk]⟩;have K4:=(gfGet.1 hs).1;have Y:=FK.skipK_at hs hnd;refine bA Tryz.func255 Z λE fr hE=>aD ?_;refine aq (gfE1.trans Hq) (fg .head λO=>?_);refine bt (p:=eC S) (λw hw=>nV hw) λBT=>?_;have I:S.setR id R=S:=Iq J BT;refine bt (λw hw=>mL J hnd hw) λhA=>?_;obtain⟨A,ca,hu,In,K3,K8,wf⟩:=hA;replace wf:ca<=9223372036854775807:=wf;have K5:∀x∈nd.after,Does Tryz.prog G 257 (#[aw x]++#[aX c]) [SL.under h (aN e p S),ik c (aX (p.fb id))] λv m=>v=.bool (FK.cO R.KV x.toNat 6||FK.cO R.KV x.toNat 7)/\m=[SL.under h (aN e p S),ik c (aX (p.fb id))]:=λx hx=>by
  obtain⟨K9,Lb⟩:=mt nd (bY hnd) x hx;obtain⟨u,rfl⟩:∃u:Nat,x=(u:Int):=⟨x.toNat,am⟩;obtain⟨s2,T⟩:∃s2,R.KV[u]?=some s2:=⟨R.KV[u]'am,by simp⟩;have hb:decide (s2.state∈([6,7]:List Int))=(FK.cO R.KV (u:Int).toNat 6||FK.cO R.KV (u:Int).toNat 7):=by
   rw[Int.toNat_natCast,FK.fk T,FK.fk T]
   by_cases h6:s2.state=6
   · simp[h6]
   · by_cases h7:s2.state=7<;>simp[h6,h7]
  rw[<-hb];exact wW J T
 have K6:nd.after≠[]->∃g,A=some ⟨g,0,none⟩/\∀E w r,Holds E w ([SL.under h (aN e p S),ik c (aX (p.fb id))]++r)->∀j x,nd.after[j]?=some x->cq ⟨g,0+j*1,none⟩ (aw x) w:=λFd=>by
  have hp:=List.length_pos_iff.2 Fd;cases A with
  | none=>have:=(In rfl).1;omega
  | some ad=>
   obtain⟨g,rfl⟩:=K3 ad rfl;exact⟨g,rfl,λE w r hw j x hx=>yk (l:=SL.under h (aN e p S)::ik c (aX (p.fb id))::r) J hnd hu hx w hw⟩
 refine sQ ?_
 by_cases HW:s.state=1
 ·
  refine sG<|aR Z Z Z Z<|sM Z<|sO (eI Z Z Z Z Z Z λb5=>?_)
  refine bW Z (se [1] (some ⟨b5,0,none⟩) 1 J hs) ((bo de .head).trans (Ent.cons (iq (xs:=[1]) (show 1<=9223372036854775807 by omega)))) ?_;refine aa ?_;rw[show decide (s.state∈([1]:List Int))=true by simp[HW]];refine sM Z<|fN (au Z) (ah Z)<|ci (cI Z)<|ci (bl 0 Z)<|ci (bl 1 Z)<|fN (au (v:=(p.ra id).nv R) Z) (cK J Z)<|db Z<|ci (aS (z:=7) Z Z Z Z hk)<|ci (bl 6 Z) ?_
  refine fN (au (v:=.slice A nd.after.length ca) Z) (λw hw=>fw J hnd hu w hw 6 _ Z) ?_;refine ci (gP Z Z) ?_;refine jX Z Z Z<|ed Z (o0 nd.after A ca 257 #[aX c] (λx=>FK.cO R.KV x.toNat 6||FK.cO R.KV x.toNat 7) am K6 Z K5) aT ?_
  rintro v m ⟨rfl,rfl⟩;refine aD<|sP (aF Z Z Z)<|sN ?_
  refine ce Z (λK=>?_) λK=>?_
  ·
   refine sG<|aR Z Z Z Z<|da Z<|bn 3 Z<|bF (au (v:=(p.ra id).sv R) Z) (cK J Z)<|ch Z (aS (z:=3) Z Z Z Z K4)<|bn 0 Z ?_
   refine sO<|DX (j:=0) (s':={s with state:=7}) .head J hs Z Z Z Z am Z Z ?_
   refine ao ?_;exact bD [SL.under h (aN e p (S.setR id {R with KV:=FK.skipK R.fl.KW R.KV k})),SL.under h (ik c (aX (p.fb id)))] rfl ⟨rfl,rfl⟩ (by
    rw[Y,if_pos ⟨HW,K⟩];exact Ent.cons (sC O))
  ·
   refine ae ?_;exact bD [SL.under h (aN e p (S.setR id {R with KV:=FK.skipK R.fl.KW R.KV k})),SL.under h (ik c (aX (p.fb id)))] rfl ⟨rfl,rfl⟩ (by
    rw[Y,if_neg (λh=>by rw[h.2] at K;cases K),I];exact Ent.cons (sC O))
 ·
  refine sG<|aR Z Z Z Z<|sM Z<|sO (eI Z Z Z Z Z Z λb5=>?_)
  refine bW Z (se [1] (some ⟨b5,0,none⟩) 1 J hs) ((bo de .head).trans (Ent.cons (iq (xs:=[1]) (show 1<=9223372036854775807 by omega)))) ?_;refine aa ?_;rw[show decide (s.state∈([1]:List Int))=false by simp[HW]];refine sM Z<|bg Z<|bg Z<|bg Z<|bg Z<|bg Z<|bg Z<|bg Z<|bg Z<|bg Z<|bg Z<|bg Z<|sP (aF Z Z Z)<|sN<|aj Z<|ae ?_
  exact bD [SL.under h (aN e p (S.setR id {R with KV:=FK.skipK R.fl.KW R.KV k})),SL.under h (ik c (aX (p.fb id)))] rfl ⟨rfl,rfl⟩ (by
   rw[Y,if_neg (λh=>HW h.1),I];exact Ent.cons (sC O))
theorem OwnNodes.nodesAtB {B:Nat} {A:Option Addr} {l:List FK.Node} {vs:List Value} (h:OwnNodes w id (.slice A l.length c) l vs)
 (wf:∀g,(Value.slice A l.length c).ownBlock=some g->g<B) (T:∀(i:Nat) (u:Value),vs[i]?=some u->∀g,u.ownBlock=some g->g<B) (hr:∀n∈l,(i64 n.KZ/\i64 n.close/\i64 n.beat/\i64 n.base/\i64 n.cap/\i64 n.K0)/\∀x∈n.after,i64 x):NodesAt w B A c l:=by
 have J:=h.row;rcases J.2 with⟨K,h0⟩|⟨g,cap,K4,K,hb,hg,h1,h2,_⟩
 · injection K with _ _ hc
   subst hc;exact⟨am,am,λhl=>by omega⟩
 · injection K with hA _ hc
   subst hA;subst hc;refine⟨h1,by unfold maxLen at h2;omega,λhl=>⟨g,0,rfl,wf _ Z,λi n hn=>?_⟩⟩;obtain⟨hi,_⟩:=gfGet.1 hn;have Y:∃u,vs[i]?=some u:=⟨vs[i]'(by rw[h.len];exact hi),by simp⟩;obtain⟨u,Y⟩:=Y;have I:=h.ints i n u hn Y;have E:∀j x,j<7->(bk n u)[j]?=some x->w.cell? ⟨g,0+i*7+j,none⟩=some x:=λj x hj hx=>by
    have:=J.cells (g:=g) rfl (i*7+j) x (by rw[ly l vs i j n u h.len hn Y hj];exact hx);have e:(⟨g,0,none⟩:Addr).add (i*7+j)=⟨g,i*7+j,none⟩:=by unfold Addr.add;split<;>simp_all
    rw[e] at this;rw[Nat.zero_add];exact this
   obtain⟨A6,c6,rfl,K3,h6,BT⟩:=xE I;have mt:=hr n (bY hn);refine⟨E 0 _ am Z,E 1 _ am Z,E 2 _ am Z,E 3 _ am Z,E 4 _ am Z,E 5 _ am Z,⟨A6,c6,E 6 _ am Z,mt.2,h6,by unfold maxLen at BT;omega,λhl=>?_⟩,mt.1⟩;rcases I.2 with⟨K,h0⟩|⟨g6,Fd,In,K,_⟩
   · omega
   · injection K with hA _ _
     subst hA;refine⟨g6,0,rfl,T i _ Y _ Z,λj x hx=>?_⟩;have:=I.cells (g:=g6) rfl j (aw x) (by simp[eu,hx]);have e:(⟨g6,0,none⟩:Addr).add j=⟨g6,j,none⟩:=by unfold Addr.add;split<;>simp_all
     rw[e] at this;rw[Nat.zero_add];exact this
theorem DN (nd:FK.Node) (A:Option Addr) (n c:Nat) (k:Int) (seed:Nat) (E:1<=nd.base) (I:nd.base<=nd.cap) (h3:nd.cap<=1048576) (J:0<=nd.K0) (K:nd.K0<=1048576) (O:seed<18446744073709551616):dx G 136 [.agg (bk nd (.slice A n c)).toArray,aw k,.int .u64 seed] [] λv m=>v=aw (fW nd.base nd.cap nd.K0 k seed)/\m=[]:=
 (fM (φ:=λ_=>True) λ_ w _ _ _=>qL nd.KZ nd.close nd.beat nd.base nd.cap nd.K0 A n c k seed w E I h3 J K am am).does
theorem Ew (hR:S.getR id=some R) (h:(aN e p S).sat w F) (hF:∀k,F k->k<n) (hr:∀n∈R.fl.KW,(i64 n.KZ/\i64 n.close/\i64 n.beat/\i64 n.base/\i64 n.cap/\i64 n.K0)/\∀x∈n.after,i64 x):NodesAt w n (some ⟨(p.ra id).gn,0,none⟩) (p.ra id).cn R.fl.KW:=by
 have h0:Star w (jV e p S) F:=h;have h1:Star w (gU p S.runs) F:=Star.mem (p:=fF p S.runs) h0 cY;have h2:(kR (p.fb id) (p.ra id) R).sat w F:=Star.mem h1 (List.mem_map.2 ⟨(id,R),sh hR,rfl⟩);have h3:Star w (o7 (p.fb id) (p.ra id) R) F:=h2;have E:(p.ra id).vs.length=R.fl.KW.length:=Star.mem (p:=HP.pure ((p.ra id).vs.length=R.fl.KW.length)) h3 cY;have I:=Star.mem (p:=row 46 7 ((p.ra id).nv R) R.fl.KW.length (cL R.fl.KW (p.ra id).vs)) h3 cY;have K:Star w (dg (p.ra id).vs R.fl.KW) F:=Star.mem (p:=fh (p.ra id).vs R.fl.KW) h3 cY;have J:∀(i:Nat) (nd:FK.Node) (u:Value),R.fl.KW[i]?=some nd->(p.ra id).vs[i]?=some u->(bG u nd.after).sat w F:=λi nd u hi O=>by
  have hz:((p.ra id).vs.zip R.fl.KW)[i]?=some (u,nd):=by simp[List.getElem?_zip_eq_some,hi,O]
  exact Star.mem K<|List.mem_map.2 ⟨(u,nd),bY hz,rfl⟩
 have T:OwnNodes w 0 ((p.ra id).nv R) R.fl.KW (p.ra id).vs:=⟨E,I.1,λi nd u hi O=>(J i nd u hi O).1⟩;refine T.nodesAtB (λg Y=>hF g (I.2 g Y)) (λi u O g Y=>?_) hr;have mt:i<R.fl.KW.length:=by rw[<-E];exact(gfGet.1 O).1
 exact hF g ((J i R.fl.KW[i] u (List.getElem?_eq_getElem mt) O).2 g Y)
end Go.Y
