/- The engine in memory: runs, tasks, queue, timers. -/
import Derived.Test.YtncdhfckklfhdaaGreatDoorKeF
import Derived.Test.YtncdhfckklfhdaaGreatDoorKeA
import Derived.Test.YtncdhfckklfhdaaGreatDoorKeE
import Derived.Test.YtncdhfckklfhdaaGreatDoorKeD
set_option linter.defProp false
set_option maxHeartbeats 2000000
set_option maxRecDepth 10000
variable{S:FK.En}{b c e i j k n:Nat}{G:Go.SL.Env->Prop}{R:FK.Rn}{Q:Go.Exit->Go.Act->Go.World->Prop}{ts:List (Nat×Go.Value)}{g:Option (Nat×Bool)}{r:List Go.SL.HP}{K:Go.Act->Go.World->Prop}{D:List Go.Deferred}{s:FK.Sp}{I t ty:Go.TypeId}{P:Go.Program}{af:Array Go.Edge}{u v:Go.Value}{E:Go.SL.Env}{d:Option Go.Tmp}{l:List FK.Sp}{R':Go.Value->List Go.SL.HP->Prop}{xs:List Go.Value}{w:Go.World}{st wh:Int}{F:Nat->Prop}{f:Go.FuncId}{x:Nat×FK.Rn}{fl:FK.Flow}{α:Type}{o:Go.Obj}
namespace Go.Y
open Go.Proofs Tryz Go.RowKit Go.SL
class HasRing(e:Nat)(l:List HP)(C:outParam EC)(q:outParam (List FK.Pl))(r:outParam (List HP)):Prop where
 sel:Sel (fa e C q) l r
instance HasRing.head{e:Nat}{C:EC}{q:List FK.Pl}{l:List HP}:HasRing e (fa e C q::l) C q l:=⟨.head⟩
instance (priority:=low) HasRing.tail{e:Nat}{C:EC}{q:List FK.Pl}{l r:List HP}{p:HP}[h:HasRing e l C q r]:HasRing e (p::l) C q (p::r):=⟨.tail h.sel⟩
class HasMap{K:Type}(enc:K->Value)(b:Nat)(l:List HP)(m:outParam (List (K×Value)))(r:outParam (List HP)):Prop where
 sel:Sel (dh enc b m) l r
instance HasMap.head{K:Type}{enc:K->Value}{b:Nat}{m:List (K×Value)}{l:List HP}:HasMap enc b (dh enc b m::l) m l:=⟨.head⟩
instance (priority:=low) HasMap.tail{K:Type}{enc:K->Value}{b:Nat}{m:List (K×Value)}{l r:List HP}{p:HP}[h:HasMap enc b l m r]:HasMap enc b (p::l) m (p::r):=⟨.tail h.sel⟩
class HasRow(g:Nat)(l:List HP)(e:outParam TypeId)(size n m c:outParam Nat)(xs:outParam (List Value))(r:outParam (List HP)):Prop where
 sel:Sel (row e size (dQ g n c) m xs) l r
instance HasRow.head{g:Nat}{e:TypeId}{size n m c:Nat}{xs:List Value}{l:List HP}:HasRow g (row e size (dQ g n c) m xs::l) e size n m c xs l:=⟨.head⟩
instance (priority:=low) HasRow.tail{g:Nat}{e:TypeId}{size n m c:Nat}{xs:List Value}{l r:List HP}{p:HP}[h:HasRow g l e size n m c xs r]:HasRow g (p::l) e size n m c xs (p::r):=⟨.tail h.sel⟩
section
variable{l:List HP}
def IF{C:EC}{q:List FK.Pl}[h:HasRing e l C q r](I:∀rv f n,(xD C rv f n)[i]?=some v):∀w,Holds E w l->cw ⟨e,i,none⟩ v w:=λw hw=>by
 obtain⟨F1,_,_,_,_,J,_⟩:=(hw.sel h.sel).star;obtain⟨⟨rv,N,f,rg⟩,O,T,_,_,_,_,Y,G4,_,_,_,K,_⟩:=J;have:=K.2;simp only[cw,World.cell?,this];exact I _ _ _
def rowAt{g o:Nat}{e:TypeId}{size m:Nat}{vs:List Value}[s:HasRow g l e size m m c xs r](h:∀j u,vs[j]?=some u->xs[o+j]?=some u):∀w,Holds E w l->ie g o vs w:=ne s.sel h
def gI{g o:Nat}{e:TypeId}{size m:Nat}[s:HasRow g l e size m m c xs r](h:xs[o]?=some u):∀w,Holds E w l->cw ⟨g,o,none⟩ u w:=ii s.sel h
end
def Jl{l:List HP}{pos:String}{x y:Operand}{C C':EC}{q:List FK.Pl}[h:HasRing e l C q r]
(O:dq P t 1)(T:ev ts x=some (eg e i))(Y:ev ts y=some v)(hv:v.oneCell'=true)(hi:i<10)(hC:∀rv f n,(xD C rv f n).setIfInBounds i v=xD C' rv f n)(hk:At E n D ts (fa e C' q::r) K):At E n D ts l (λa w=>(Oper.mk none (.store t x y) I pos af g).wp P a w K Q):=by
 refine df h.sel λ⟨rv,N,f,rg⟩=>bC ?_;show At E n D ts (HP.pure (FK.RingOk N f q rg)::pF e C rv f q.length::row 157 3 rv N (rV N rg)::r) _;refine eW .head λhR=>cq (b:=e) (cs:=xD C rv f q.length) Z O T Y hv (by simpa using hi) ?_;rw[hC];exact ao (gV hR) hk
abbrev aU(n:Nat):Value:=cd (n:Int)
def fK:KeyK prog 36 Nat aU:=Nn eS
abbrev xw(s:FK.Sp):List Value:=[aA s.state,aA s.NM,cd s.token]
def za(l:List FK.Sp):List Value:=l.flatMap xw
def pL(l:List FK.Sp):(za l).length=l.length*3:=cV (k:=3) (λ_=>rfl) l
def xH(h:l[i]?=some s)(j:Nat)(u:Value)(I:(xw s)[j]?=some u):(za l)[0+i*3+j]?=some u:=by
 rw[Nat.zero_add];exact fe (k:=3) (λ_=>rfl) j h I
def Nr:fm prog 189 (.agg #[aA 0,aA 0,cd 0]) 3 24:=by unfold fm;kernel_rfl
def rh{f:α->List Value}(I:∀x,(f x).length=3){l:List α}{L:List Value}(hl:L.length=l.length*3)(h:∀i x j u,l[i]?=some x->(f x)[j]?=some u->L[i*3+j]?=some u):L=l.flatMap f:=by
 apply List.ext_getElem?;intro k
 by_cases hk:k<l.length*3
 ·have T:k/3<l.length:=am
  have Y:k%3<3:=Nat.mod_lt _ am;have J:l[k/3]?=some l[k/3]:=List.getElem?_eq_getElem T;have h3:(f l[k/3])[k%3]?=some ((f l[k/3])[k%3]'(by rw[I];exact Y)):=List.getElem?_eq_getElem _;have K:=h (k/3) _ (k%3) _ J h3;have O:=fe I (k%3) J h3;rw[show k/3*3+k%3=k by omega]at K O;rw[K,O]
 ·rw[List.getElem?_eq_none am,List.getElem?_eq_none (by rw[cV I];omega)]
theorem KS(hi:i<l.length)(s:FK.Sp):lH (za l) (0+i*3) (xw s)=za (l.set i s):=by
 refine rh (λ_=>rfl) (by rw[iu,pL,List.length_set]) λk x j u I J=>?_;have K:j<3:=by have:=(gfGet.1 J).1;simpa using this
 by_cases h:k=i
 ·subst h
  rw[List.getElem?_set_self hi]at I;injection I with I;subst I;rw[show k*3+j=(0+k*3)+j by omega];exact ou (xw s) (za l) (0+k*3) j u (by rw[pL];simp;omega) J
 ·rw[List.getElem?_set_ne (Ne.symm h)]at I
  rw[ki _ _ _ _ (by simp;omega)];have:=xH I j u J
  rwa [Nat.zero_add]at this
def ud{s':FK.Sp}(O:l[i]?=some s)(Y:j<3)(h:(xw s).set j v=xw s'):(za l).set (0+i*3+j) v=za (l.set i s'):=by
 have hi:=(gfGet.1 O).1;refine rh (λ_=>rfl) (by rw[List.length_set,pL,List.length_set]) λk x m u J I=>?_;have T:m<3:=by have:=(gfGet.1 I).1;simpa using this
 by_cases hk:k=i
 ·subst hk
  rw[List.getElem?_set_self hi]at J;injection J with J;subst J;rw[<-h]at I
  by_cases K:m=j
  ·subst K
   rw[List.getElem?_set_self (by simpa using T)]at I;rw[show 0+k*3+m=k*3+m by omega,List.getElem?_set_self (by rw[pL];omega)];exact I
  ·rw[List.getElem?_set_ne (Ne.symm K)]at I
   rw[List.getElem?_set_ne am];have:=xH O m u I
   rwa [Nat.zero_add]at this
 ·rw[List.getElem?_set_ne (Ne.symm hk)]at J
  rw[List.getElem?_set_ne am];have:=xH J m u I
  rwa [Nat.zero_add]at this
abbrev fS(vs:List Value)(l:List FK.Node):HP:=HP.all (dC vs l)
structure RA where
 gn:Nat
 cn:Nat
 gs:Nat
 cs:Nat
 vs:List Value
abbrev RA.nv(a:RA)(R:FK.Rn):Value:=.slice (some ⟨a.gn,0,none⟩) R.fl.NO.length a.cn
abbrev RA.sv(a:RA)(R:FK.Rn):Value:=.slice (some ⟨a.gs,0,none⟩) R.NN.length a.cs
abbrev Ct(a:RA)(R:FK.Rn):Array Value:=#[aA R.fl.deadline,a.nv R,aA R.state,a.sv R,cd R.ended]
abbrev FI(I:Nat)(a:RA)(R:FK.Rn):HP:=blk I 184 (Ct a R)
abbrev qD(I:Nat)(a:RA)(R:FK.Rn):List HP:=[HP.pure (a.vs.length=R.fl.NO.length),FI I a R,row 51 7 (a.nv R) R.fl.NO.length (dc R.fl.NO a.vs),fS a.vs R.fl.NO,row 189 3 (a.sv R) R.NN.length (za R.NN)]
def mc(I:Nat)(a:RA)(R:FK.Rn):HP:=HP.all (qD I a R)
structure EA where
 rm:Nat
 tm:Nat
 w:Nat
 fb:Nat->Nat
 ra:Nat->RA
structure WOk(now sets:Nat)(tms:List FK.KD)(W:FK.WS):Prop where
 now:W.now=now
 seq:W.seq<=sets
 inv:FK.Inv W []
 tms:W.tms.map FK.kd=tms
def ew(w now sets:Nat)(tms:List FK.KD):HP:=HP.ex λW:FK.WS=>HP.all [HP.pure (WOk now sets tms W),cJ w W]
abbrev fy(S:FK.En):Prop:=(S.runs.map (·.1)).Nodup
abbrev lI(S:FK.En)(p:EA):EC:=⟨S.seed,p.rm,p.tm,p.w,S.NL,S.NK,S.ends⟩
abbrev fF(S:FK.En)(p:EA):List (Nat×Value):=S.runs.map λr=>(r.1,aY (p.fb r.1))
abbrev ep(S:FK.En):List (Nat×Value):=S.NQ.map λt=>(t.1,jj t.2)
abbrev iE(p:EA)(l:List (Nat×FK.Rn)):List HP:=l.map λr=>mc (p.fb r.1) (p.ra r.1) r.2
def gZ(p:EA)(l:List (Nat×FK.Rn)):HP:=HP.all (iE p l)
abbrev kL(e:Nat)(p:EA)(S:FK.En):List HP:=[HP.pure (fy S),fa e (lI S p) S.NP,dh aU p.rm (fF S p),gZ p S.runs,dh aU p.tm (ep S),ew p.w S.now S.sets S.tms]
def aP(e:Nat)(p:EA)(S:FK.En):HP:=HP.all (kL e p S)
class HasEng(l:List HP)(e:outParam Nat)(p:outParam EA)(S:outParam FK.En)(r:outParam (List HP)):Prop where
 sel:Sel (aP e p S) l r
instance HasEng.head{e:Nat}{p:EA}{S:FK.En}{l:List HP}:HasEng (aP e p S::l) e p S l:=⟨.head⟩
instance (priority:=low) HasEng.tail{e:Nat}{p:EA}{S:FK.En}{l r:List HP}{x:HP}[h:HasEng l e p S r]:HasEng (x::l) e p S (x::r):=⟨.tail h.sel⟩
def ux{id:Nat}(h:S.getR id=some R):(id,R)∈S.runs:=by
 unfold FK.En.getR at h;cases hf:S.runs.find? (·.1==id)with
 |none=>rw[hf]at h;cases h
 |some x=>
  rw[hf]at h;injection h with h;have I:=List.find?_some hf;have J:=List.mem_of_find?_eq_some hf;obtain⟨a,b⟩:=x;have:a=id:=by simpa using I
  subst this;have:b=R:=h;subst this;exact J
def nC{size m g o:Nat}{vs:List Value}(h:(row t size (dQ g m c) m xs).sat w F)(I:∀j u,vs[j]?=some u->xs[o+j]?=some u):ie g o vs w:=λj v J=>by
 have:=h.1.cells (g:=g) rfl (o+j) v (I j v J)
 rwa [add_plain,Nat.zero_add]at this
class SeesEng(l:List HP)(e:outParam Nat)(p:outParam EA)(S:outParam FK.En):Prop where
 star:∀{E:Env} {w:World},Holds E w l->∃F,Star w (kL e p S) F
instance SeesEng.has{e:Nat}{p:EA}{S:FK.En}{l r:List HP}[h:HasEng l e p S r]:SeesEng l e p S:=⟨λhw=>by
 obtain⟨F1,_,_,_,_,hp,_⟩:=(hw.sel h.sel).star;exact⟨F1,hp⟩⟩
instance (priority:=low) SeesEng.head{n e:Nat}{p:EA}{S:FK.En}{l:List HP}:SeesEng (SL.under n (aP e p S)::l) e p S:=⟨λhw=>by
 obtain⟨F1,_,_,_,_,hp,_⟩:=hw.star;exact⟨_,hp⟩⟩
instance (priority:=low) SeesEng.tail{e:Nat}{p:EA}{S:FK.En}{l:List HP}{x:HP}[h:SeesEng l e p S]:SeesEng (x::l) e p S:=⟨λhw=>h.star (hw.ent Ent.drop)⟩
section
variable{l:List HP}{p:EA}[H:SeesEng l e p S]
section
variable{id:Nat}
include H
theorem nR(hw:Holds E w l):∃F,Star w (kL e p S) F:=H.star hw
theorem pm(hw:Holds E w l):fy S:=by
 obtain⟨F,h⟩:=nR (H:=H) hw;have:=Star.mem (p:=HP.pure (fy S)) h di;exact this
theorem mr(I:∀rv f n,(xD (lI S p) rv f n)[i]?=some v):∀w,Holds E w l->cw ⟨e,i,none⟩ v w:=λw hw=>by
 obtain⟨F,h⟩:=nR (H:=H) hw;obtain⟨⟨rv,N,f,rg⟩,J⟩:=Star.mem (p:=fa e (lI S p) S.NP) h di;have K:(pF e (lI S p) rv f S.NP.length).sat w F:=Star.mem (l:=[HP.pure (FK.RingOk N f S.NP rg),pF e (lI S p) rv f S.NP.length,row 157 3 rv N (rV N rg)]) J di;have:=K.2;simp only[cw,World.cell?,this];exact I _ _ _
theorem eA:∀w,Holds E w l->kB aU p.rm (fF S p) w:=λw hw=>by
 obtain⟨F,h⟩:=nR (H:=H) hw;exact(Star.mem (p:=dh aU p.rm (fF S p)) h di).2
theorem G0{S0:FK.En}(h:S.runs=S0.runs):∀w,Holds E w l->kB aU p.rm (fF S0 p) w:=λw hw=>by
 have:=eA (H:=H) w hw;unfold fF at this;rw[h]at this;exact this
theorem oO:∀w,Holds E w l->kB aU p.tm (ep S) w:=λw hw=>by
 obtain⟨F,h⟩:=nR (H:=H) hw;exact(Star.mem (p:=dh aU p.tm (ep S)) h di).2
theorem mg(I:S.getR id=some R)(hw:Holds E w l):∃F,Star w (qD (p.fb id) (p.ra id) R) F:=by
 obtain⟨F,h⟩:=nR (H:=H) hw;have J:Star w (iE p S.runs) F:=Star.mem (p:=gZ p S.runs) h di;have K:(mc (p.fb id) (p.ra id) R).sat w F:=Star.mem (l:=iE p S.runs) J (List.mem_map.2 ⟨(id,R),ux I,rfl⟩);exact⟨F,K⟩
theorem Ig(I:S.getR id=some R)(hw:Holds E w l):(p.ra id).vs.length=R.fl.NO.length:=by
 obtain⟨F,h⟩:=mg (H:=H) I hw;have:=Star.mem (p:=HP.pure ((p.ra id).vs.length=R.fl.NO.length)) h di;exact this
theorem cT(I:S.getR id=some R)(J:(Ct (p.ra id) R)[i]?=some v):∀w,Holds E w l->cw ⟨p.fb id,i,none⟩ v w:=λw hw=>by
 obtain⟨F,h⟩:=mg (H:=H) I hw;have K:(FI (p.fb id) (p.ra id) R).sat w F:=Star.mem h di;have:=K.2;simp only[cw,World.cell?,this];exact J
theorem zy(I:S.getR id=some R)(J:R.NN[k]?=some s):∀w,Holds E w l->ie (p.ra id).gs (0+k*3) (xw s) w:=λw hw=>by
 obtain⟨F,h⟩:=mg (H:=H) I hw;exact nC (Star.mem (p:=row 189 3 ((p.ra id).sv R) R.NN.length (za R.NN)) h di) (λj u K=>xH J j u K)
theorem fI(I:S.getR id=some R)(J:R.NN[k]?=some s)(K:(xw s)[j]?=some v):∀w,Holds E w l->cw ⟨(p.ra id).gs,0+k*3+j,none⟩ v w:=λw hw=>by
 have:=zy (H:=H) I J w hw j v K;exact this
theorem fT{nd:FK.Node}(J:S.getR id=some R)(O:R.fl.NO[k]?=some nd)(T:(p.ra id).vs[k]?=some u):∀w,Holds E w l->ie (p.ra id).gn (0+k*7) (bn nd u) w:=λw hw=>by
 obtain⟨F,h⟩:=mg (H:=H) J hw;exact nC (Star.mem (p:=row 51 7 ((p.ra id).nv R) R.fl.NO.length (dc R.fl.NO (p.ra id).vs)) h di) (λj v K=>by
  have I:j<7:=by have:=(gfGet.1 K).1;simpa[bn]using this
  rw[Nat.zero_add,mD _ _ _ _ _ _ (Ig (H:=H) J hw) O T I];exact K)
theorem nS{nd:FK.Node}(T:S.getR id=some R)(Y:R.fl.NO[k]?=some nd)(hw:Holds E w l):∃A c,(p.ra id).vs[k]?=some (.slice A nd.after.length c)/\(A=none->nd.after.length=0/\c=0)/\(∀K,A=some K->∃g,K=⟨g,0,none⟩)/\nd.after.length<=c/\c<=maxLen:=by
 have hv:=Ig (H:=H) T hw;have hk:=(gfGet.1 Y).1;obtain⟨u,O⟩:∃u,(p.ra id).vs[k]?=some u:=⟨(p.ra id).vs[k]'am,by simp[hv,hk]⟩;obtain⟨F,h⟩:=mg (H:=H) T hw;have h1:=Star.mem (p:=fS (p.ra id).vs R.fl.NO) h di;have hz:((p.ra id).vs.zip R.fl.NO)[k]?=some (u,nd):=by simp[List.getElem?_zip_eq_some,Y,O]
 have h2:(bL u nd.after).sat w F:=Star.mem (l:=dC (p.ra id).vs R.fl.NO) h1 (List.mem_map.2 ⟨(u,nd),cg hz,rfl⟩);obtain⟨d6,J⟩:=h2.1;rcases J with⟨rfl,h0⟩|⟨g,cap,d7,rfl,_,hg,hm,hc,hs,ht⟩
 ·exact⟨none,0,by rw[O,h0],λ_=>⟨h0,rfl⟩,λ_ I=>(by cases I),am,Nat.zero_le _⟩
 ·exact⟨_,cap,O,λI=>(by cases I),λK I=>(by injection I with I;exact⟨g,I.symm⟩),hm,hc⟩
theorem AB{g:Nat}{nd:FK.Node}{x:Int}(I:S.getR id=some R)(J:R.fl.NO[k]?=some nd)(K:(p.ra id).vs[k]?=some (dQ g nd.after.length c))(O:nd.after[j]?=some x):∀w,Holds E w l->cw ⟨g,0+j*1,none⟩ (aA x) w:=λw hw=>by
 obtain⟨F,h⟩:=mg (H:=H) I hw;have T:=Star.mem (p:=fS (p.ra id).vs R.fl.NO) h di;have Y:((p.ra id).vs.zip R.fl.NO)[k]?=some (dQ g nd.after.length c,nd):=by simp[List.getElem?_zip_eq_some,J,K]
 have h2:(bL (dQ g nd.after.length c) nd.after).sat w F:=Star.mem (l:=dC (p.ra id).vs R.fl.NO) T (List.mem_map.2 ⟨_,cg Y,rfl⟩);have h3:=nC (o:=0) (vs:=eO nd.after) h2 (λj u hj=>by rwa [Nat.zero_add]);have h4:=h3 j (aA x) (by simp[eO,O])
 rwa [Nat.mul_one]
end
end
def eN{p:Prop}(h:p:=by exact mr λ_ _ _=>rfl):p:=h
end Go.Y
variable{p:Go.Y.EA}
namespace Go.SL
open Go.RowKit
def Does.part{args:Array Value}{pre c:List HP}{R:Value->List HP->Prop}(h:Does P G f args pre R)(e:Ent r (pre++c))(T:∀v m,R v m->∃J,R' v J/\Ent (m++c) J):Does P G f args r R':=λE w fr Y hw=>by
 have O:=(h.frame c).mono (R':=R') λv m ⟨J,O,h2⟩=>by subst h2;exact T v J O
 exact O E w fr Y<|hw.ent<|e.append fr
end Go.SL
namespace Go.Y
open Go.Proofs Tryz Go.RowKit Go.SL
def setR_keys(S:FK.En)(id:Nat)(R:FK.Rn):(S.setR id R).runs.map (·.1)=S.runs.map (·.1):=by
 unfold FK.En.setR;simp only[List.map_map];refine List.map_congr_left λx _=>?_;simp only[Function.comp_apply]
 split<;>rfl
def lD{id:Nat}(h:S.getR id=some R)(Y:fy S):∃a b,S.runs=a++(id,R)::b/\∀R',(S.setR id R').runs=a++(id,R')::b:=by
 obtain⟨a,b,J⟩:=List.append_of_mem (ux h);refine⟨a,b,J,λR'=>?_⟩;have O:=Y;unfold fy at O;rw[J,List.map_append,List.map_cons]at O;have T:=List.nodup_append.1 O;have ha:∀x∈a,(x.1==id)=false:=λx I=>by
  have:=T.2.2 x.1 (List.mem_map_of_mem I) id di;simpa using this
 have hb:∀x∈b,(x.1==id)=false:=λx I=>by
  have h1:=(List.nodup_cons.1 T.2.1).1;have:x.1≠id:=λe=>h1 (List.mem_map.2 ⟨x,I,e⟩);simpa using this
 have ma:(a.map λr=>if r.1==id then(r.1,R') else r)=a:=by
  conv=>rhs;rw[<-List.map_id a]
  exact List.map_congr_left λx I=>by simp[ha x I]
 have mb:(b.map λr=>if r.1==id then(r.1,R') else r)=b:=by
  conv=>rhs;rw[<-List.map_id b]
  exact List.map_congr_left λx I=>by simp[hb x I]
 show S.runs.map _=_;rw[J,List.map_append,List.map_cons,ma,mb];simp
def KV{id:Nat}(h:fy S):fy (S.setR id R):=by
 unfold fy;rw[setR_keys];exact h
def MY(S:FK.En)(id:Nat)(R:FK.Rn)(p:EA):fF (S.setR id R) p=fF S p:=by
 have h:∀l:List (Nat×FK.Rn),(l.map λr=>(r.1,aY (p.fb r.1)))=(l.map (·.1)).map λk=>(k,aY (p.fb k)):=λl=>by rw[List.map_map];rfl
 unfold fF;rw[h,h,setR_keys]
abbrev pH(e:Nat)(p:EA)(S:FK.En)(a b:List (Nat×FK.Rn)):List HP:=[fa e (lI S p) S.NP,dh aU p.rm (fF S p),gZ p (a++b),dh aU p.tm (ep S),ew p.w S.now S.sets S.tms]
theorem lQ{id:Nat}{a b:List (Nat×FK.Rn)}(h:S.runs=a++(id,R)::b):Ent (aP e p S::r) (qD (p.fb id) (p.ra id) R++(pH e p S a b++r)):=by
 refine Ent.unall.trans<|(Ent.drop (p:=HP.pure (fy S))).trans ?_
 have J:Ent (gZ p S.runs::dh aU p.tm (ep S)::ew p.w S.now S.sets S.tms::r) (mc (p.fb id) (p.ra id) R::gZ p (a++b)::dh aU p.tm (ep S)::ew p.w S.now S.sets S.tms::r):=by
  refine(Ent.unall (m:=iE p S.runs)).trans ?_;have O:((iE p S.runs)++(dh aU p.tm (ep S)::ew p.w S.now S.sets S.tms::r)).Perm (mc (p.fb id) (p.ra id) R::(iE p (a++b)++(dh aU p.tm (ep S)::ew p.w S.now S.sets S.tms::r))):=by
   rw[h];have I:=(List.perm_middle (a:=(id,R)) (l₁:=a) (l₂:=b)).map λr=>mc (p.fb r.1) (p.ra r.1) r.2;rw[List.map_cons]at I;exact I.append_right _
  exact(Ent.perm O).trans (Ent.cons (Ent.all (m:=iE p (a++b))))
 refine(Ent.cons (Ent.cons J)).trans<|gfE2.trans<|Ent.unall (m:=qD (p.fb id) (p.ra id) R)
def kS{id:Nat}{R':FK.Rn}{a b:List (Nat×FK.Rn)}(J:fy S)(h:(S.setR id R').runs=a++(id,R')::b):Ent (qD (p.fb id) (p.ra id) R'++(pH e p S a b++r)) (aP e p (S.setR id R')::r):=by
 refine(Ent.all (m:=qD (p.fb id) (p.ra id) R')).trans ?_;have O:Ent (mc (p.fb id) (p.ra id) R'::gZ p (a++b)::dh aU p.tm (ep S)::ew p.w S.now S.sets S.tms::r) (gZ p (S.setR id R').runs::dh aU p.tm (ep S)::ew p.w S.now S.sets S.tms::r):=by
  refine(Ent.cons (Ent.unall (m:=iE p (a++b)))).trans ?_;have T:(mc (p.fb id) (p.ra id) R'::(iE p (a++b)++(dh aU p.tm (ep S)::ew p.w S.now S.sets S.tms::r))).Perm ((iE p (S.setR id R').runs)++(dh aU p.tm (ep S)::ew p.w S.now S.sets S.tms::r)):=by
   rw[h];have I:=((List.perm_middle (a:=(id,R')) (l₁:=a) (l₂:=b)).map λr=>mc (p.fb r.1) (p.ra r.1) r.2).symm;rw[List.map_cons]at I;exact I.append_right _
  exact(Ent.perm T).trans (Ent.all (m:=iE p (S.setR id R').runs))
 refine(cM bJ bJ .head).trans ((Ent.cons (Ent.cons O)).trans ((Ent.pure (KV (id:=id) (R:=R') J)).trans ?_));have Y:dh aU p.rm (fF S p)=dh aU p.rm (fF (S.setR id R') p):=by rw[MY]
 rw[Y];exact Ent.all (m:=kL e p (S.setR id R'))
section
variable{l:List HP}{pos:String}{x y:Operand}[H:HasEng l e p S r]
theorem mi{id o:Nat}{s':FK.Sp}(Y:S.getR id=some R)(O:R.NN[k]?=some s)(hz:dq P t 1)(hx:ev ts x=some (eg ((p.ra id).gs) o))(hy:ev ts y=some v)(ho:o=0+k*3+j)(hj:j<3)(hv:v.oneCell'=true)(I:(xw s).set j v=xw s')
(hk:At E n D ts (aP e p (S.setR id (R.setS k s'))::r) K):At E n D ts l (λa w=>(Oper.mk none (.store t x y) ty pos af g).wp P a w K Q):=by
 refine bA (p:=fy S) (λw hw=>pm hw) λT=>?_;obtain⟨a,b,J,hset'⟩:=lD Y T;refine ao ((Ent.sel H.sel).trans (lQ J)) ?_;have d6:=(gfGet.1 O).1;refine gc (l:=qD (p.fb id) (p.ra id) R++(pH e p S a b++r)) kK hz hx hy hv am<|ao ?_ hk
 subst ho;rw[ud O hj I];refine Ent.trans ?_<|kS T<|hset'<|R.setS k s'
 have hl:(R.setS k s').NN.length=R.NN.length:=by simp[FK.Rn.setS]
 refine((cM bJ bJ bJ).trans (Ent.cons (Ent.cons (Ent.cons gfE1)))).trans ?_;show Ent (HP.pure ((p.ra id).vs.length=R.fl.NO.length)::FI (p.fb id) (p.ra id) R::row 51 7 ((p.ra id).nv R) R.fl.NO.length (dc R.fl.NO (p.ra id).vs)::fS (p.ra id).vs R.fl.NO::row 189 3 ((p.ra id).sv R) R.NN.length (za (R.NN.set k s'))::(pH e p S a b++r)) (HP.pure ((p.ra id).vs.length=R.fl.NO.length)::blk (p.fb id) 184 #[aA R.fl.deadline,(p.ra id).nv R,aA R.state,.slice (some ⟨(p.ra id).gs,0,none⟩) (R.setS k s').NN.length (p.ra id).cs,cd R.ended]::row 51 7 ((p.ra id).nv R) R.fl.NO.length (dc R.fl.NO (p.ra id).vs)::fS (p.ra id).vs R.fl.NO::row 189 3 (.slice (some ⟨(p.ra id).gs,0,none⟩) (R.setS k s').NN.length (p.ra id).cs) (R.setS k s').NN.length (za (R.NN.set k s'))::(pH e p S a b++r));rw[hl];exact aQ
theorem Gu{id o:Nat}{s':FK.Sp}(Y:S.getR id=some R)(hs:R.NN[k]?=some s)(hz:dq P t 3)(hx:ev ts x=some (eg ((p.ra id).gs) o))(hy:ev ts y=some (.agg (xw s').toArray))(ho:o=0+k*3)
(hk:At E n D ts (aP e p (S.setR id (R.setS k s'))::r) K):At E n D ts l (λa w=>(Oper.mk none (.store t x y) ty pos af g).wp P a w K Q):=by
 refine bA (p:=fy S) (λw hw=>pm hw) λO=>?_;obtain⟨a,b,I,hset'⟩:=lD Y O;refine ao ((Ent.sel H.sel).trans (lQ I)) ?_;have J:=(gfGet.1 hs).1;refine fD (l:=qD (p.fb id) (p.ra id) R++(pH e p S a b++r)) (vs:=xw s') kK hz rfl hx hy (by intro u T;simp only[List.mem_cons,List.not_mem_nil,or_false]at T;rcases T with rfl|rfl|rfl<;>rfl) am<|ao ?_ hk
 subst ho;rw[KS J];refine Ent.trans ?_<|kS O<|hset'<|R.setS k s'
 have hl:(R.setS k s').NN.length=R.NN.length:=by simp[FK.Rn.setS]
 refine((cM bJ bJ bJ).trans (Ent.cons (Ent.cons (Ent.cons gfE1)))).trans ?_;show Ent (HP.pure ((p.ra id).vs.length=R.fl.NO.length)::FI (p.fb id) (p.ra id) R::row 51 7 ((p.ra id).nv R) R.fl.NO.length (dc R.fl.NO (p.ra id).vs)::fS (p.ra id).vs R.fl.NO::row 189 3 ((p.ra id).sv R) R.NN.length (za (R.NN.set k s'))::(pH e p S a b++r)) (HP.pure ((p.ra id).vs.length=R.fl.NO.length)::blk (p.fb id) 184 #[aA R.fl.deadline,(p.ra id).nv R,aA R.state,.slice (some ⟨(p.ra id).gs,0,none⟩) (R.setS k s').NN.length (p.ra id).cs,cd R.ended]::row 51 7 ((p.ra id).nv R) R.fl.NO.length (dc R.fl.NO (p.ra id).vs)::fS (p.ra id).vs R.fl.NO::row 189 3 (.slice (some ⟨(p.ra id).gs,0,none⟩) (R.setS k s').NN.length (p.ra id).cs) (R.setS k s').NN.length (za (R.NN.set k s'))::(pH e p S a b++r));rw[hl];exact aQ
theorem E4{id:Nat}{R':FK.Rn}(hR:S.getR id=some R)(hz:dq P t 1)(hx:ev ts x=some (eg (p.fb id) i))(hy:ev ts y=some v)(hi:i<5)(hv:v.oneCell'=true)(J:R'.fl=R.fl)(O:R'.NN=R.NN)(I:(Ct (p.ra id) R).setIfInBounds i v=Ct (p.ra id) R')
(hk:At E n D ts (aP e p (S.setR id R')::r) K):At E n D ts l (λa w=>(Oper.mk none (.store t x y) ty pos af g).wp P a w K Q):=by
 refine bA (p:=fy S) (λw hw=>pm hw) λY=>?_;obtain⟨a,b,T,hset'⟩:=lD hR Y;refine ao ((Ent.sel H.sel).trans (lQ T))<|ao gfE1<|cq (b:=p.fb id) (cs:=Ct (p.ra id) R) Z hz hx hy hv (by simpa using hi) ?_
 rw[I];refine ao ?_ hk;refine Ent.trans ?_<|kS Y<|hset' R'
 refine gfE1.trans ?_;unfold qD RA.nv RA.sv;rw[J,O];exact aQ
theorem tj{S':FK.En}(J:dq P t 1)(O:ev ts x=some (eg e i))(T:ev ts y=some v)(hi:i<10)(Y:v.oneCell'=true)(I:∀rv f n,(xD (lI S p) rv f n).setIfInBounds i v=xD (lI S' p) rv f n)
(h1:S'.NP=S.NP)(h2:S'.runs=S.runs)(h3:S'.NQ=S.NQ)(h4:S'.now=S.now)(h5:S'.sets=S.sets)(h6:S'.tms=S.tms)(hk:At E n D ts (aP e p S'::r) K):At E n D ts l (λa w=>(Oper.mk none (.store t x y) ty pos af g).wp P a w K Q):=by
 refine ao (Ent.sel H.sel)<|bC<|Jl (h:=⟨.tail .head⟩) (e:=e) (i:=i) (C:=lI S p) (C':=lI S' p) J O T Y hi I<|ao ?_ hk
 refine Ent.trans ?_<|Ent.all (m:=kL e p S')
 unfold kL fy fF ep;rw[h1,h2,h3,h4,h5,h6];exact gfE1
end
def oU{args:Array Value}{R:Value->List HP->Prop}(h:Does prog G f args [fa e (lI S p) S.NP] R)(I:∀v m,R v m->∃q,m=[fa e (lI S p) q]/\R' v [aP e p {S with NP:=q}]):Does prog G f args [aP e p S] R':=by
 refine Does.part (c:=[HP.pure (fy S),dh aU p.rm (fF S p),gZ p S.runs,dh aU p.tm (ep S),ew p.w S.now S.sets S.tms]) h ((Ent.unall (m:=kL e p S)).trans gfE1) λv m J=>?_;obtain⟨q,rfl,O⟩:=I v m J;exact⟨_,O,gfE1.trans (Ent.all (m:=kL e p {S with NP:=q}))⟩
def Gd(q:FK.Pl)(I:S.NP.length<=400):dz G 93 [su e,jj q] [aP e p S] λv m=>v=.tuple #[]/\m=[aP e p {S with NP:=S.NP++[q]}]:=
 oU (vd e _ q I) λ_ _ ⟨J,O⟩=>⟨_,O,J,rfl⟩
def uj:dz G 106 [su e] [aP e p S] λv m=>v=aA S.NP.length/\m=[aP e p S]:=
 oU (Gg e _) λ_ _ ⟨I,J⟩=>⟨S.NP,J,I,rfl⟩
def K6{q:FK.Pl}(I:S.NP[k]?=some q):dz G 107 [su e,aA k] [aP e p S] λv m=>v=jj q/\m=[aP e p S]:=
 oU (I9 e _ I) λ_ _ ⟨J,O⟩=>⟨S.NP,O,J,rfl⟩
def uL{now sets:Nat}{tms:List FK.KD}(h:(ew n now sets tms).sat w F):∃W,WOk now sets tms W/\(cJ n W).sat w F:=by
 obtain⟨W,J⟩:=h;refine⟨W,?_,?_⟩
 ·have:=Star.mem (p:=HP.pure (WOk now sets tms W)) (l:=[HP.pure (WOk now sets tms W),cJ n W]) J di
  exact this
 ·exact Star.mem (l:=[HP.pure (WOk now sets tms W),cJ n W]) J di
def m5{args:Array Value}(h:∀W,WOk S.now S.sets S.tms W->Does prog G f args [cJ p.w W] λv m=>∃I now sets tms,m=[cJ p.w I]/\WOk now sets tms I/\R' v [aP e p {S with now:=now,sets:=sets,tms:=tms}]):Does prog G f args [aP e p S] R':=by
 refine Does.part (pre:=[ew p.w S.now S.sets S.tms]) (R:=λv m=>∃now sets tms,m=[ew p.w now sets tms]/\R' v [aP e p {S with now:=now,sets:=sets,tms:=tms}]) (c:=[HP.pure (fy S),fa e (lI S p) S.NP,dh aU p.rm (fF S p),gZ p S.runs,dh aU p.tm (ep S)]) ?_ ((Ent.unall (m:=kL e p S)).trans gfE5) ?_
 ·intro E w fr hE hw
  obtain⟨F1,F2,T,Y,hd,hp,hl⟩:=hw.star;obtain⟨W,hW,hs⟩:=uL hp;refine(((h W hW).mono (R':=λv m=>∃now sets tms,m=[ew p.w now sets tms]/\R' v [aP e p {S with now:=now,sets:=sets,tms:=tms}]) ?_)) E w fr hE ⟨hw.is,F1,F2,T,Y,hd,hs,hl⟩;rintro v m ⟨I,now,sets,tms,rfl,J,O⟩;refine⟨_,⟨now,sets,tms,rfl,O⟩,?_⟩;exact(Ent.pure J).trans ((Ent.all (m:=[HP.pure (WOk now sets tms I),cJ p.w I])).trans (Ent.ex (f:=λW:FK.WS=>HP.all [HP.pure (WOk now sets tms W),cJ p.w W]) I))
 ·rintro v m ⟨now,sets,tms,rfl,O⟩
  refine⟨_,O,?_⟩;refine Ent.trans ?_<|Ent.all (m:=kL e p {S with now:=now,sets:=sets,tms:=tms})
  exact(cM bJ bJ bJ).trans (Ent.cons (Ent.cons (Ent.cons (bo bJ bJ))))
def x9:dz G 103 [aY p.w] [aP e p S] λv m=>v=cd S.now/\m=[aP e p S]:=by
 refine m5 λW I=>(Jr p.w).mono ?_;rintro v m ⟨rfl,rfl⟩;exact⟨_,⟨W,S.now,S.sets,S.tms,rfl,I,by rw[I.now],rfl⟩,aQ⟩
def uE(k:FK.Pl)(hl:S.tms.length<=99999):dz G 145 [aY p.w,jj k] [aP e p S] λv m=>v=.tuple #[]/\m=[aP e p (S.unset k)]:=by
 refine m5 λW I=>(An p.w k I.inv (by have:=congrArg List.length I.tms;rw[List.length_map]at this;omega)).mono ?_;rintro v m ⟨rfl,J,O,T,h3,Y,rfl⟩;exact⟨_,⟨J,S.now,S.sets,S.tms.filter λx=>x.1 !=k,rfl,⟨T.trans I.now,h3▸I.seq,O,by rw[Y,I.tms]⟩,rfl,rfl⟩,aQ⟩
def sY(k:FK.Pl)(a:Nat)(J:S.now<=a)(O:a<=4611686018427387904)(h3:S.sets<9223372036854775807)(hl:S.tms.length<=99998):dz G 94 [aY p.w,jj k,cd a] [aP e p S] λv m=>v=.tuple #[]/\m=[aP e p (S.setT k a)]:=by
 refine m5 λW I=>(KU p.w k a I.inv (I.now▸J) O (Nat.lt_of_le_of_lt I.seq h3) (by have:=congrArg List.length I.tms;rw[List.length_map]at this;omega)).mono ?_;rintro v m ⟨rfl,T,Y,g2,g3,g4,rfl⟩;exact⟨_,⟨T,S.now,S.sets+1,S.tms.filter (λx=>x.1 !=k)++[(k,a)],rfl,⟨g2.trans I.now,by rw[g3];exact Nat.succ_le_succ I.seq,Y,by rw[g4,I.tms]⟩,rfl,rfl⟩,aQ⟩
def DR(xs:List Int)(A:Option Addr)(c:Nat)(v:Int):dz G 248 [.slice A xs.length c,aA v] [bL (.slice A xs.length c) xs] λu m=>(∃i:Int,u=aA i/\(0<=i<->v∈xs))/\m=[bL (.slice A xs.length c) xs]:=by
 refine bz func248 Z λE fr hE=>ae<|aN .head ?_
 intro A' c' hA O J d7 T _;injection hA with hA _ d6;subst hA;subst d6;replace T:c<=9223372036854775807:=T;refine sS<|sB Z<|sQ<|bp Z<|sP (bh Z Z)<|sM Z<|sN<|ai<|aO (X:=Nat) (λk=>[(8,aA k),(7,aA xs.length),(0,.slice A xs.length c),(1,aA v)]) (λ_=>bL (.slice A xs.length c) xs::fr) (λk=>k<=xs.length/\∀j,j<k->xs[j]?≠some v) (λk=>xs.length-k) 0 ⟨am,λj hj=>by omega⟩ bW aQ ?_
 rintro k ⟨hk,Y⟩;refine sS<|sP (bq Z Z Z)<|sN<|sQ<|aC Z (λc9=>?_) λc9=>?_
 ·have K:k<xs.length:=am;obtain⟨g,rfl⟩:∃g,A=some ⟨g,0,none⟩:=by
   cases A with
   |none=>have:=(O rfl).1;omega
   |some ad=>obtain⟨g,rfl⟩:=J ad rfl;exact⟨g,rfl⟩
  obtain⟨o,ho⟩:∃o,xs[k]?=some o:=⟨xs[k],by simp[K]⟩;refine aa<|sT<|sQ<|ai<|bp Z<|sB Z<|bp Z<|sM Z<|bY Z (aV (z:=1) Z Z Z Z K)<|bF (au Z) (ii .head (by rw[Nat.zero_add,Nat.mul_one,eO,List.getElem?_map,ho];rfl)) ?_
  refine sP (bc Z Z Z)<|sN<|aC Z (λI=>?_) λI=>?_
  ·subst I;refine bp Z<|sB Z<|an<|aJ<|aD<|bM<|aJ<|aD<|ar [_] rfl Z ⟨⟨_,rfl,by simp[cg ho]⟩,rfl⟩ aQ
  ·refine aa<|al<|sT<|sG<|sP (dM Z Z)<|sM Z<|ap<|aH (k+1) ⟨K,λj hj=>(by rcases Nat.lt_succ_iff_lt_or_eq.1 hj with h|rfl;exact Y j h;rw[ho];intro h;injection h with h;exact I h.symm)⟩ am bW aQ
 ·refine aM<|aw<|az<|aq<|sT<|sS<|sB Z<|an<|ar [_] rfl Z ⟨⟨_,rfl,?_⟩,rfl⟩ aQ
  have:v∉xs:=λh=>by
   obtain⟨j,hj,e⟩:=List.getElem_of_mem h;exact Y j am (by simp[hj,e])
  simp[this]
theorem vW(xs:List Int)(A:Option Addr)(c:Nat)(v:Int):dz G 220 [.slice A xs.length c,aA v] [bL (.slice A xs.length c) xs] λu m=>u=.bool (decide (v∈xs))/\m=[bL (.slice A xs.length c) xs]:=by
 refine bz func220 Z λE fr I=>ae<|sS<|sB Z<|bp Z<|sM Z<|bQ Z (DR xs A c v) aQ ?_
 rintro v m ⟨⟨i,rfl,hi⟩,rfl⟩;refine ae<|sP (nH Z Z Z)<|sB Z<|an<|ar [_] rfl Z ⟨by congr 1;exact decide_eq_decide.2 hi,rfl⟩ aQ
def Iw{X:HP}{gs cs:Nat}(xs:List Int)(A:Option Addr)(c:Nat)(J:∀E w r,Holds E w (X::r)->cw ⟨e,3,none⟩ (dQ gs n cs) w)(K:∀E w r,Holds E w (X::r)->cw ⟨gs,0+k*3+0,none⟩ (aA st) w)(hk:k<n):dz G 195 [aY e,aA k,.slice A xs.length c] [X,bL (.slice A xs.length c) xs] λu m=>u=.bool (decide (st∈xs))/\m=[X]:=by
 refine bz func195 Z λE fr O=>aE<|sS<|sB Z<|bp Z<|cE 3 Z Z<|bF (au Z) (λw hw=>J _ _ _ hw)<|bY Z (aV Z Z Z Z hk)<|bm 0 Z<|bF (au Z) (λw hw=>K _ _ _ hw)<|bV Z (vW xs A c st) gfE1<|ae<|sB Z<|an<|ar [_] rfl Z ⟨rfl,rfl⟩ Ent.drop
def tq{id:Nat}(xs:List Int)(A:Option Addr)(c:Nat)(E:S.getR id=some R)(I:R.NN[k]?=some s):dz G 195 [aY (p.fb id),aA k,.slice A xs.length c] [aP e p S,bL (.slice A xs.length c) xs] λu m=>u=.bool (decide (s.state∈xs))/\m=[aP e p S]:=
 Iw (n:=R.NN.length) (cs:=(p.ra id).cs) (gs:=(p.ra id).gs) xs A c (λ_ w _ hw=>cT (i:=3) E rfl w hw) (λ_ w _ hw=>fI E I rfl w hw) (gfGet.1 I).1
def ut{id h:Nat}(xs:List Int)(A:Option Addr)(c:Nat)(E:S.getR id=some R)(I:R.NN[k]?=some s):dz G 195 [aY (p.fb id),aA k,.slice A xs.length c] [SL.under h (aP e p S),bL (.slice A xs.length c) xs] λu m=>u=.bool (decide (s.state∈xs))/\m=[SL.under h (aP e p S)]:=
 Iw (n:=R.NN.length) (cs:=(p.ra id).cs) (gs:=(p.ra id).gs) xs A c (λ_ w _ hw=>cT (i:=3) E rfl w hw) (λ_ w _ hw=>fI E I rfl w hw) (gfGet.1 I).1
def m0(span:Int)(I:S.now<=4611686018427387904)(J:0<=span)(K:span<=4611686018427387904):dz G 148 [aY e,aA span] [aP e p S] λu m=>u=cd (S.later span.toNat)/\m=[aP e p S]:=by
 refine bz func148 Z λE fr O=>ae<|sS<|sB Z<|sS<|cE 6 Z Z<|bF (au (v:=aY p.w) Z) eN<|bV Z x9 aQ<|ae<|bY Z (cD (r:=span) Z Z Z (by rw[li];omega))<|sP (bH (r:=((S.now+span.toNat:Nat):Int)) Z Z (by rw[li];omega))<|sP (IC (r:=((S.later span.toNat:Nat):Int)) Z Z (by unfold FK.En.later;omega))<|sB Z<|an<|ar [_] rfl Z ⟨rfl,rfl⟩ aQ
def w7(q:FK.Pl)(nd:FK.Node)(u:Value)(O:S.now<=4611686018427387904)(T:nd.beat<=4611686018427387904)(h3:S.sets<9223372036854775807)(Y:S.tms.length<=99998):dz G 174 [aY e,jj q,.agg (bn nd u).toArray] [aP e p S] λv m=>v=.tuple #[]/\m=[aP e p (S.life q nd)]:=by
 have J:∀n,S.now<=S.later n:=λn=>by unfold FK.En.later;omega
 have I:∀n,S.later n<=4611686018427387904:=λn=>by unfold FK.En.later;omega
 refine bz func174 Z λE fr hE=>ae<|sS<|sO (cP Z Z λb4=>(sO (cP Z Z λb5=>(sN (sS (bm 2 Z (aL Z Z Z Z (sP (dX Z Z Z) (sN (aC Z (λc8=>?_) λc8=>?_))))))))))
 ·have K:0<nd.beat:=am;refine sZ Z<|ea Z Z<|dy 6 Z Z Z<|jW 3 Z (au Z) eN<|dx 4 Z (bd 0 Z)<|bN Z (au Z) (ah Z)<|bB Z (bd 1 Z)<|bN Z (au Z) (ah Z)<|bB Z (bI (cs:=#[cd q.run,aA q.node,aA 2]) Z Z Z Z Z)<|cC Z Z<|bB Z (bd 2 Z)<|bN Z (au Z) (ah Z)<|dI 12 Z<|dP Z (m0 nd.beat O am T) gfE2 ?_
  rintro v m ⟨rfl,rfl⟩;refine ae<|dK [false,true,true,true] (aj (ah Z) (aj (ah Z) (aj eN ak)))<|dI 13 Z<|dP Z (sY ⟨q.run,q.node,2⟩ (S.later nd.beat.toNat) (J _) (I _) h3 Y) aQ ?_
  rintro v m ⟨rfl,rfl⟩;refine ae<|dK [true,true,false] (aj (ah Z) (aj (ah Z) ak))<|dE<|bt [aP e p (S.life q nd)] rfl ec (by unfold FK.En.life;rw[if_pos K];exact Ent.cons (Ent.drop.trans Ent.drop))
 ·have K:¬0<nd.beat:=am;refine aa<|bt [aP e p (S.life q nd)] rfl ec (by unfold FK.En.life;rw[if_neg K];exact Ent.drop.trans Ent.drop)
section
variable{id:Nat}
def mR(l:List (Nat×α))(f:Nat->α->Value)(k:Nat):eH (l.map λr=>(r.1,f r.1 r.2)) k=((l.find? (·.1==k)).map λr=>f k r.2):=by
 unfold eH
 induction l with
 |nil=>rfl
 |cons x l E=>
  simp only[List.map_cons,List.find?_cons];cases h:x.1==k with
  |true=>
   have:x.1=k:=by simpa using h
   simp[this]
  |false=>exact E
def gR(h:S.getR id=some R):eH (fF S p) id=some (aY (p.fb id)):=by
 unfold fF;rw[mR S.runs (λk _=>aY (p.fb k)) id];unfold FK.En.getR at h;cases hf:S.runs.find? (·.1==id)with
 |none=>rw[hf]at h;cases h
 |some x=>rfl
def qR(h:S.getR id=none):eH (fF S p) id=none:=by
 unfold fF;rw[mR S.runs (λk _=>aY (p.fb k)) id];unfold FK.En.getR at h;cases hf:S.runs.find? (·.1==id)with
 |none=>rfl
 |some x=>rw[hf]at h;cases h
def mw{t:Nat}:eH (ep S) t=((S.NQ.find? (·.1==t)).map λx=>jj x.2):=by
 unfold ep;rw[mR S.NQ (λ_ q=>jj q) t]
theorem vg(I:S.getR id=some R)(J:R.NN[k]?=some s)(K:S.NP.length<=400):dz G 196 [aY e,jj ⟨id,(k:Int),wh⟩] [aP e p S] λv m=>v=.tuple #[]/\m=[aP e p (S.ready id k)]:=by
 have hk:=(gfGet.1 J).1;refine bz func196 Z λE fr O=>ae<|sS<|sO (cP Z Z λT=>(sN (sQ (sZ Z (ea Z Z (bB Z (cI Z) (bB Z (bd 1 Z) (jW 3 Z (au Z) eN (dx 4 Z (bd 0 Z)<|bN Z (au Z) (ah Z)<|bN Z (hZ Z fK Z Z (gR I)) eA<|dy 3 Z Z Z<|bN Z (au Z) (cT I Z)<|bB Z (bd 1 Z)<|bN Z (au Z) (ah Z)<|bB Z (aV Z Z Z Z hk)<|bB Z (bd 0 Z) (dI 14 Z<|mi (s':={s with state:=2}) I J Z Z Z Z am Z Z (dK [false,false,false,false,false] ak<|dE<|sT<|sS<|bm 2 Z<|bD Z Z Z Z (by show 2<3;omega)<|sN ?_)))))))))))
 refine sZ Z<|ea Z Z<|dy 3 Z Z Z<|bN Z (bR Z) (bl Z)<|dI 4 Z<|dP Z (Gd ⟨id,(k:Int),0⟩ (by exact K)) gfE1 ?_
 rintro v m ⟨rfl,rfl⟩;refine ae<|dK [false] ak<|dE<|bt [aP e p (S.ready id k)] rfl ec (by unfold FK.En.ready;rw[FK.tU _ I J];exact Ent.cons Ent.drop)
end
def AO(S:FK.En)(t:Nat):(ep S).eraseP (·.1==t)=ep {S with NQ:=S.NQ.eraseP (·.1==t)}:=by
 unfold ep;rw[List.eraseP_map]
 rfl
section
variable{l:List HP}{pos:String}{x y:Operand}[H:HasEng l e p S r]
theorem Gv{tok:Nat}{t J:TypeId}(O:d=none)(T:P.underlying t=some (.map I J))(hk:KeyK P I Nat aU)(Y:ev ts x=some (.map (some p.tm)))(hy:ev ts y=some (aU tok))
(h:At E n D ts (aP e p {S with NQ:=S.NQ.eraseP (·.1==tok)}::r) K):At E n D ts l (λac w=>(Oper.mk d (.call {callee:=.builtin .delete,args:=#[x,y],argTypes:=#[t,I]}) ty pos af g).wp P ac w K Q):=by
 refine ao (Ent.sel H.sel)<|bC ?_
 refine xL (b:=p.tm) (a:=tok) O T hk Y hy kK ?_;rw[AO];refine ao ?_ h;refine Ent.trans ?_<|Ent.all (m:=kL e p {S with NQ:=S.NQ.eraseP (·.1==tok)})
 exact(cM bJ bJ bJ).trans (Ent.cons (Ent.cons (Ent.cons gfE1)))
end
def mX{id:Nat}(I:S.getR id=some R)(J:R.NN[k]?=some s)(T:S.tms.length<=99999):dz G 197 [aY e,jj ⟨id,(k:Int),wh⟩] [aP e p S] λv m=>v=eg ((p.ra id).gs) (0+k*3)/\m=[aP e p (S.leave id k)]:=by
 have hk:=(gfGet.1 J).1;refine bz func197 Z λE fr Y=>ae<|sS<|sO (cP Z Z λb3=>(sB Z (sQ (sZ Z (ea Z Z (bB Z (cI Z) (bB Z (bd 1 Z) (jW 3 Z (au Z) eN (dx 4 Z (bd 0 Z)<|bN Z (au Z) (ah Z)<|bN Z (hZ (a:=id) (v:=aY (p.fb id)) Z fK Z Z (gR I)) eA<|dy 3 Z Z Z<|bN Z (au (v:=(p.ra id).sv R) Z) (cT I Z)<|bB Z (bd 1 Z)<|bN Z (au Z) (ah Z)<|bB Z (aV (z:=3) Z Z Z Z hk)<|bB Z (aX Z)<|dE<|sT<|sQ<|sZ Z<|ea Z Z<|dy 2 Z Z Z (jW 3 Z (au Z) eN (dx 4 Z (bg Z)<|dy 2 Z Z Z<|bN Z (au (v:=cd s.token) Z) (fI I J Z)<|xx Z<|Gv (tok:=s.token) Z Z fK Z Z<|dK [false,false] ak<|dE<|sT<|sQ ?_)))))))))))
 have O:{S with NQ:=S.NQ.eraseP (·.1==s.token)}.getR id=some R:=I;refine sG<|cE 2 Z Z<|sO<|mi (s':={s with token:=0}) O J Z Z Z Z am Z Z ?_
 refine sN<|sQ<|sZ Z<|ea Z Z<|dy 6 Z Z Z<|jW 3 Z (au Z) eN<|dx 4 Z (bd 0 Z)<|bN Z (au Z) (ah Z)<|bB Z (bd 1 Z)<|bN Z (au Z) (ah Z)<|bB Z (bI (cs:=#[cd id,aA (k:Int),aA 1]) Z Z Z Z Z)<|dI 9 Z<|dP Z (uE ⟨id,(k:Int),1⟩ (by exact T)) aQ ?_
 rintro v m ⟨rfl,rfl⟩;refine ae<|dK [true,true,false] (aj (ah Z) (aj (ah Z) ak))<|dE<|sT<|sQ<|sZ Z<|ea Z Z<|dy 6 Z Z Z<|jW 3 Z (au Z) eN<|dx 4 Z (bd 0 Z)<|bN Z (au Z) (ah Z)<|bB Z (bd 1 Z)<|bN Z (au Z) (ah Z)<|bB Z (bI (cs:=#[cd id,aA (k:Int),aA 2]) Z Z Z Z Z)<|dI 9 Z<|dP Z (uE ⟨id,(k:Int),2⟩ (Nat.le_trans (List.length_filter_le _ _) (by exact T))) aQ ?_
 rintro v m ⟨rfl,rfl⟩;refine ae<|dK [true,true,false] (aj (ah Z) (aj (ah Z) ak))<|dE<|sT<|bp Z<|sB Z<|an<|ar [aP e p (S.leave id k)] rfl Z ec (by rw[FK.fL I J];exact Ent.cons Ent.drop)
def GV[BEq α]{enc:α->Value}{x y:Operand}{m:List (α×Value)}{a:α}{z:Value}{o:Bool}(O:P.underlying t=some (.map I ty))(hk:KeyK P I α enc)(T:iV P ty z)(Y:ev ts x=some (.map (some b)))(hy:ev ts y=some (enc a))(hv:(eH m a).getD z=v)(ho:(eH m a).isSome=o) :
 Ev P ts (.lookup t x y true) (.tuple #[v,.bool o]) (kB enc b m):=by
 subst hv;subst ho;exact Ah O hk T Y hy
def AA:dz G 125 [aY e] [aP e p S] λv m=>v=.bool (decide (0<S.NP.length))/\m=[aP e p S]:=by
 refine bz func125 Z λE fr I=>ae<|sS<|sB Z<|sS<|cE 3 Z Z<|bV Z uj aQ<|ae<|sP (dX Z Z Z)<|sB Z<|an<|ar [_] rfl Z ⟨by congr 1;simp,rfl⟩ aQ
def uK(t:Nat):dz G 175 [aY e,aU t] [aP e p S] λv m=>v=.bool (S.NQ.any (·.1==t))/\m=[aP e p S]:=by
 have J:(eH (ep S) t).isSome=S.NQ.any (·.1==t):=by rw[mw];simp[List.isSome_find?]
 obtain⟨q,I⟩:∃q:FK.Pl,(eH (ep S) t).getD (jj ⟨0,0,0⟩)=jj q:=by
  rw[mw];cases S.NQ.find? (·.1==t)with
  |none=>exact⟨⟨0,0,0⟩,rfl⟩
  |some x=>exact⟨x.2,rfl⟩
 refine bz func175 Z λE fr O=>ae<|sS<|sB Z<|sS<|cE 2 Z Z<|bF (au (v:=.map (some p.tm)) Z) eN<|sM Z<|bF (GV (m:=ep S) Z fK Z Z Z I J) oO<|sM Z<|bG Z Z<|bG Z Z<|sO (cO (z:=.agg #[cd 0,aA 0,aA 0]) Z λT=>sO<|bk Z (m:=3) Z Z Z Z eG Cv (sB Z<|bp Z<|sB Z<|an<|ar [aP e p S] rfl Z ⟨rfl,rfl⟩ Ent.drop))
def Da(id:Nat)(I:S.getR id=none):dz G 129 [aY e,aU id] [aP e p S] λv m=>v=.bool false/\m=[aP e p S]:=by
 have J:=qR (p:=p) I;refine bz func129 Z λE fr O=>ae<|sS<|sB Z<|sS<|cE 1 Z Z<|bF (au (v:=.map (some p.rm)) Z) eN<|sM Z<|bF (k9 (m:=fF S p) Z fK Z Z Z J) eA<|sM Z<|bG Z Z<|bG Z Z<|sA Z<|sB Z<|bp Z<|sM Z<|aR Z<|aR Z<|aR Z<|aR Z<|aR Z<|sP (aF Z Z Z)<|sA Z<|sN<|an<|ar [aP e p S] rfl Z ⟨rfl,rfl⟩ aQ
def C9(id:Nat)(I:S.getR id=some R):dz G 129 [aY e,aU id] [aP e p S] λv m=>v=.bool (R.state==1)/\m=[aP e p S]:=by
 have J:=gR (p:=p) I;refine bz func129 Z λE fr O=>ae<|sS<|sB Z<|sS<|cE 1 Z Z<|bF (au (v:=.map (some p.rm)) Z) eN<|sM Z<|bF (kZ (m:=fF S p) Z fK Z Z J) eA<|sM Z<|bG Z Z<|bG Z Z<|sA Z<|sB Z<|bp Z<|sM Z<|cN Z<|bO (cI Z)<|bO (bd 2 Z)<|fM (au (v:=aA R.state) Z) (cT I Z)<|bO (bc Z Z Z)<|sP (aF Z Z Z)<|sA Z<|sN<|an<|ar [aP e p S] rfl Z ⟨rfl,rfl⟩ aQ
def wL(id:Nat):dz G 129 [aY e,aU id] [aP e p S] λv m=>v=.bool (match S.getR id with|some R=>R.state==1|none=>false)/\m=[aP e p S]:=by
 rcases hR:S.getR id with _|R
 ·exact Da id hR
 ·exact C9 id hR
def wJ(I:Nat):dz G 155 [aY e,aU I] [aP e p S] λv m=>v=.tuple #[]/\m=[aP e p {S with seed:=I}]:=by
 refine bz func155 Z λE fr J=>ae<|sG<|sM Z<|cE 0 Z Z<|sO<|tj (S:=S) (S':={S with seed:=I}) Z Z Z am Z (λ_ _ _=>rfl) Z Z Z Z Z Z<|ap<|bt [aP e p {S with seed:=I}] rfl ⟨rfl,rfl⟩ aQ
def El:dz G 114 [aY e] [aP e p S] λv m=>v=.tuple #[cd S.now,cd S.seed]/\m=[aP e p S]:=by
 refine bz func114 Z λE fr I=>ae<|sS<|sA Z<|sB Z<|sQ<|sZ Z<|ea Z Z<|dy 6 Z Z Z<|jW 3 Z (au Z) eN<|dx 5 Z (bg Z)<|dy 0 Z Z Z<|jW 8 Z (au Z) eN<|dI 4 Z<|dP Z x9 aQ ?_
 rintro v m ⟨rfl,rfl⟩;refine ae<|dK [true,false] (aj eN ak)<|dx 9 Z (aX Z)<|bB Z (aX Z)<|dE<|sT<|an<|dr [aP e p S] rfl Z Z ec aQ
def w6{q:FK.Pl}{nd:FK.Node}:(S.life q nd).runs=S.runs:=by
 unfold FK.En.life
 split<;>rfl
def life_R{q:FK.Pl}{nd:FK.Node}{id:Nat}:(S.life q nd).getR id=S.getR id:=by
 unfold FK.En.getR;rw[w6]
theorem Hm{t id:Nat}{nd:FK.Node}(I:(S.NQ.find? (·.1==t)).map (·.2)=some ⟨id,(k:Int),wh⟩)(J:S.getR id=some R)(O:R.fl.NO[k]?=some nd)(Y:S.now<=4611686018427387904)(h2:nd.beat<=4611686018427387904)(h3:S.sets<9223372036854775807)(hl:S.tms.length<=99998):dz G 150 [aY e,aU t] [aP e p S] λv m=>v=.tuple #[]/\m=[aP e p (S.life ⟨id,(k:Int),wh⟩ nd)]:=by
 have hk:=(gfGet.1 O).1;have T:eH (ep S) t=some (jj ⟨id,(k:Int),wh⟩):=by
  rw[mw];cases hf:S.NQ.find? (·.1==t)with
  |none=>rw[hf]at I;cases I
  |some x=>rw[hf]at I;injection I with I;simp only[Option.map_some,I]
 refine bz func150 Z λE fr hE=>ae<|bA (λw hw=>nS J O hw) λhA=>?_
 obtain⟨A,c,hu,-⟩:=hA;refine sS<|cE 2 Z Z<|bF (au (v:=.map (some p.tm)) Z) eN<|sM Z<|bF (hZ (m:=ep S) Z fK Z Z T) oO<|sO (cO (z:=.agg #[cd 0,aA 0,aA 0]) Z λb4=>sO<|bk Z (m:=3) Z Z Z Z eG Cv ?_)
 refine sN<|sZ Z<|ea Z Z<|bN Z (bR (vs:=ja ⟨id,(k:Int),wh⟩) Z) (bl Z)<|cC Z Z<|dy 1 Z Z Z<|jW 5 Z (au Z) eN<|dx 6 Z (bd 0 Z)<|bN Z (au Z) (ah Z)<|bN Z (hZ (a:=id) (v:=aY (p.fb id)) Z fK Z Z (gR J)) eA<|dy 0 Z Z Z<|bB Z (bd 1 Z)<|bN Z (au (v:=(p.ra id).nv R) Z) (cT J Z)<|bB Z (bd 1 Z)<|bN Z (au Z) (ah Z)<|bB Z (aV (z:=7) Z Z Z Z hk)<|bN Z (bR (vs:=bn nd (.slice A nd.after.length c)) Z) (fT J O hu)<|dI 17 Z<|dP Z (w7 ⟨id,(k:Int),wh⟩ nd (.slice A nd.after.length c) Y h2 h3 hl) gfE1 ?_
 rintro v m ⟨rfl,rfl⟩;refine ae<|dK [false,true,true,true,true,true,false] (aj (ah Z) (aj (cT (life_R.trans J) Z) (aj (G0 w6) (aj (ah Z) (aj (mr (S:=S.life ⟨id,(k:Int),wh⟩ nd) λ_ _ _=>rfl) ak)))))<|dE<|bt [aP e p (S.life ⟨id,(k:Int),wh⟩ nd)] rfl ⟨rfl,rfl⟩<|Ent.cons Ent.drop
def i8{xs:List Int}(h:xs.length<=maxLen):Ent (blk b 3 (eO xs).toArray::r) (bL (dQ b xs.length xs.length) xs::r):=
 fB (cx _) h (by simp[eO]) (by rw[List.take_of_length_le (by simp[eO])])
abbrev vK(fl:FK.Flow):Prop:=∀nd∈fl.NO,∀x∈nd.after,0<=x/\x<(fl.NO.length:Int)
def wq{id:Nat}(hR:S.getR id=some R)(f8:R.NN.length=R.fl.NO.length)(f9:vK R.fl)(hn:R.fl.NO.length<=100)(hq:S.NP.length<=300):dz G 149 [aY e,aU id] [aP e p S] λv m=>v=.tuple #[]/\m=[aP e p (S.wake id)]:=by
 refine bz func149 Z λE fr hE=>ae<|BN<|sS<|cE 1 Z Z<|bF (au (v:=.map (some p.rm)) Z) eN<|sM Z<|bF (hZ (m:=fF S p) Z fK Z Z (gR hR)) eA<|sB Z<|sQ<|BQ<|sT<|sS<|cE 0 Z Z<|bm 1 Z<|bF (au (v:=(p.ra id).nv R) Z) (cT hR Z)<|sP (bh Z Z)<|sM Z<|sN<|ai<|aO (X:=Nat) (λk=>[(21,aA k),(20,aA R.fl.NO.length),(19,(p.ra id).nv R),(4,aY (p.fb id)),(0,aY e),(1,aU id)]) (λk=>aP e p (S.wakeN id k)::fr) (λk=>k<=R.fl.NO.length) (λk=>R.fl.NO.length-k) 0 (Nat.zero_le _) bW aQ ?_
 intro k hk;refine sS<|sP (bq Z Z Z)<|sN<|sQ<|aC Z (λt7=>?_) λt7=>?_
 ·have K:k<R.fl.NO.length:=am;obtain⟨T,J,O,LT⟩:=FK.wakeN_on hR k;obtain⟨nd,hnd⟩:∃nd,R.fl.NO[k]?=some nd:=⟨R.fl.NO[k],by simp[K]⟩;have I:T.fl.NO[k]?=some nd:=by rw[O.fl];exact hnd
  obtain⟨s,hs⟩:∃s,T.NN[k]?=some s:=⟨T.NN[k]'(by rw[O.len];omega),by simp[O.len,f8,K]⟩;refine bA (λw hw=>nS J I hw) λhA=>?_;obtain⟨A,c,hu,Fd,In,NT,mt⟩:=hA;replace mt:c<=9223372036854775807:=mt;refine aa<|sT<|sQ<|ai<|bp Z<|sP (aV (z:=7) Z Z Z Z K)<|bF (bR (vs:=bn nd (.slice A nd.after.length c)) Z) (fT J I hu)<|sO (cO (z:=.agg #[aA 0,aA 0,aA 0,aA 0,aA 0,aA 0,cB]) Z λb6=>(sA Z (sO<|bk (vs:=bn nd (.slice A nd.after.length c)) Z (m:=7) Z Z Z Z (by simp[bn,Value.oneCell']) (by show 0+7<=7;omega) ?_)))
  refine ao (l':=blk b6 51 (bn nd (.slice A nd.after.length c)).toArray::aP e p (S.wakeN id k)::fr) aQ<|sN<|sQ<|bp Z<|sM Z<|sO (fd Z Z Z Z Z Z λt8=>bV Z (tq [1] (some ⟨t8,0,none⟩) 1 J hs) ((bo dm .head).trans (Ent.cons (i8 (xs:=[1]) (show 1<=9223372036854775807 by omega)))) (ae<|sP (cA Z Z)<|sN (cf Z (λd6=>?_) λd6=>?_)))
  ·have hs1:s.state≠1:=by simpa using d6
   refine aM<|aw<|aq<|sT<|sG<|sP (dM Z Z)<|sM Z<|ap<|aH (k+1) K am bW (by
    rw[FK.wakeN_succ,FK.nJ J,FK.oL hs I,if_neg (by simp[hs1])];exact Ent.cons Ent.drop)
  ·have hs1:s.state=1:=by simpa using d6
   refine aa<|sT<|sQ<|sS<|bm 6 Z<|aL Z Z Z Z<|sP (bh Z Z)<|sM Z<|sN<|ai<|aO (X:=Nat) (λj=>[(34,aA j),(33,aA nd.after.length),(32,.slice A nd.after.length c),(21,aA k),(20,aA R.fl.NO.length),(19,(p.ra id).nv R),(4,aY (p.fb id)),(0,aY e),(1,aU id),(5,aA k)]) (λj=>aP e p (S.wakeN id k)::fr) (λj=>j<=nd.after.length/\∀i x,i<j->nd.after[i]?=some x->FK.cY T.NN x.toNat 5=true) (λj=>nd.after.length-j) 0 ⟨Nat.zero_le _,λi x h=>by omega⟩ bW (Ent.cons Ent.drop) ?_
   rintro j ⟨hj,Y⟩;refine sS<|sP (bq Z Z Z)<|sN<|sQ<|aC Z (λwf=>?_) λwf=>?_
   ·have d9:j<nd.after.length:=am;obtain⟨g,rfl⟩:∃g,A=some ⟨g,0,none⟩:=by
     cases A with
     |none=>have:=(Fd rfl).1;omega
     |some ad=>obtain⟨g,rfl⟩:=In ad rfl;exact⟨g,rfl⟩
    obtain⟨x,hx⟩:∃x,nd.after[j]?=some x:=⟨nd.after[j],by simp[d9]⟩;obtain⟨NU,NV⟩:=f9 nd (cg hnd) x (cg hx);obtain⟨u,rfl⟩:∃u:Nat,x=(u:Int):=⟨x.toNat,am⟩;obtain⟨s2,d8⟩:∃s2,T.NN[u]?=some s2:=⟨T.NN[u]'(by rw[O.len];omega),by simp⟩;refine aa<|sT<|sQ<|ai<|sS<|sP (aV (z:=1) Z Z Z Z d9)<|bF (au (v:=aA (u:Int)) Z) (AB J I hu hx)<|sB Z<|bp Z<|sM Z<|sO (fd Z Z Z Z Z Z λBT=>bV Z (tq [5] (some ⟨BT,0,none⟩) 1 J d8) ((bo bJ .head).trans (Ent.cons (i8 (xs:=[5]) (show 1<=9223372036854775807 by omega)))) (ae<|sP (cA Z Z)<|sN (cf Z (λd7=>?_) λd7=>?_)))
    ·have f7:s2.state≠5:=by simpa using d7
     have hno:(nd.after.all λu=>FK.cY T.NN u.toNat 5)=false:=by
      rw[List.all_eq_false];exact⟨_,cg hx,by rw[Int.toNat_natCast,FK.fO d8];simpa using f7⟩
     refine aM<|er Z<|aw<|az<|er Z<|aw<|aq<|sT<|sG<|sP (dM Z Z)<|sM Z<|ap<|aH (k+1) K am bW (by
      rw[FK.wakeN_succ,FK.nJ J,FK.oL hs I,hno,if_neg di];exact aQ)
    ·have f7:s2.state=5:=by simpa using d7
     refine aa<|al<|sT<|sG<|sP (dM Z Z)<|sM Z<|ap<|aH (j+1) ⟨d9,λi y hi hy=>(by
      rcases Nat.lt_succ_iff_lt_or_eq.1 hi with h|rfl
      ·exact Y i y h hy
      ·rw[hx]at hy;injection hy with hy;subst hy;rw[Int.toNat_natCast,FK.fO d8];simpa using f7)⟩ am ⟨rfl,rfl,rfl,rfl,rfl,rfl,rfl,rfl,rfl,rfl,trivial⟩ aQ
   ·have t6:(nd.after.all λu=>FK.cY T.NN u.toNat 5)=true:=by
     rw[List.all_eq_true];intro y hy;obtain⟨i,hi,rfl⟩:=List.getElem_of_mem hy;exact Y i _ am<|List.getElem?_eq_getElem hi
    refine aM<|aw<|az<|aq<|sT<|sG<|sM Z<|sM Z<|bY Z (bI (cs:=#[cd id,aA (k:Int),aA 0]) Z Z Z Z Z)<|bV Z (vg (wh:=0) J hs am) aQ<|ae<|ap<|al<|sT<|sG<|sP (dM Z Z)<|sM Z<|ap<|aH (k+1) K am bW (by
     rw[FK.wakeN_succ,FK.nJ J,FK.oL hs I,t6,if_pos (by simp[hs1])];exact aQ)
 ·have LE:k=R.fl.NO.length:=am;refine aM<|aw<|az<|aq<|vU<|bt [aP e p (S.wake id)] rfl ec ?_
  have:S.wake id=S.wakeN id k:=by unfold FK.En.wake;rw[hR,LE]
  rw[this];exact aQ
end Go.Y
namespace FK
def r7{q:List Pl}{x:Pl}(id:Nat):(q++[x]).filter (λp=>p.run !=id)=q.filter (λp=>p.run !=id)++if x.run !=id then[x] else[]:=by
 rw[List.filter_append];simp[List.filter_cons]
end FK
namespace Go.Y
open Go.Proofs Tryz
open Go Go.RowKit Go.SL
def neI(a b:Nat):(a !=b)=decide ((a:Int)≠(b:Int)):=by
 by_cases h:a=b
 ·subst h;simp
 ·rw[xC am];simpa using h
def yQ(c id:Nat)(q:FK.Pl):dz G 226 [jj q,aY c] [blk c 36 #[aU id]] λv m=>v=.bool (q.run !=id)/\m=[blk c 36 #[aU id]]:=by
 refine bz func226 Z λE fr I=>ae<|sS<|sO (cP Z Z λJ=>(sB Z (sS (bm 0 Z (aL Z Z Z Z (aL Z Z Z Z (sP (cy Z Z Z) (sB Z (an (ar [_] rfl Z ⟨by rw[neI],rfl⟩ Ent.drop))))))))))
def M5{l:List HP}{C:EC}{q:List FK.Pl}(s:Sel (fa e C q) l r):∀w,Holds E w l->cw ⟨e,5,none⟩ (aA q.length) w:=λw hw=>by
 obtain⟨F1,_,_,_,_,I,_⟩:=(hw.sel s).star;obtain⟨⟨rv,N,f,rg⟩,J⟩:=I;have K:(pF e C rv f q.length).sat w F1:=Star.mem (l:=[HP.pure (FK.RingOk N f q rg),pF e C rv f q.length,row 157 3 rv N (rV N rg)]) J di;have:=K.2;simp only[cw,World.cell?,this]
 rfl
def GI{q:List FK.Pl}(e:Nat)(C:EC)(c id:Nat)(hq:q.length<=400):dz G 225 [su e,.func (.func 226) #[] #[aY c]] [fa e C q,blk c 36 #[aU id]] λv m=>v=.tuple #[]/\m=[fa e C (q.filter λp=>p.run !=id)]:=by
 refine bz func225 Z λE fr O=>aE<|sS<|cE 2 Z Z<|bF (au (v:=aA q.length) Z) (M5 .head)<|sB Z<|ai<|aO (X:=List FK.Pl×List FK.Pl) (λx=>[(4,aA x.2.length),(0,su e),(1,.func (.func 226) #[] #[aY c])]) (λx=>fa e C (x.2++x.1.filter λp=>p.run !=id)::blk c 36 #[aU id]::fr) (λx=>x.1++x.2=q) (λx=>x.2.length) ([],q) Z bW (by
 show Ent _ (fa e C (q++[])::_);rw[List.append_nil];exact aQ) ?_
 rintro⟨done,left⟩ I;refine sQ<|bp Z<|sP (dX Z Z Z)<|sN<|aC Z (λJ=>?_) λJ=>?_
 ·obtain⟨x,left,rfl⟩:∃x l,left=x::l:=by
   cases left with
   |nil=>simp at J
   |cons x l=>exact⟨x,l,rfl⟩
  have Y:done.length+(left.length+1)=q.length:=by rw[<-I];simp
  have d6:=List.length_filter_le (λp:FK.Pl=>p.run !=id) done;refine aa<|sT<|sQ<|ai<|bp Z<|bV Z (wN e C) aQ<|ae<|sM Z<|bG Z Z<|bG Z Z<|sO (cO (z:=.agg #[cd 0,aA 0,aA 0]) Z λT=>sO<|bk (vs:=ja x) Z (m:=3) Z Z Z Z eG (by show 0+3<=3;omega) (ao (l':=blk T 157 (ja x).toArray::fa e C (left++done.filter λp=>p.run !=id)::blk c 36 #[aU id]::fr) aQ (sB Z<|bp Z<|bF (bR (vs:=ja x) Z) (bl Z) (sO<|iR Z Z Z Z O (yQ c id x) gfE2 ?_))))
  rintro v m ⟨rfl,rfl⟩;refine ae<|sN<|cf Z (λK=>?_) λK=>?_
  ·refine sG<|sM Z<|bF (bR (vs:=ja x) Z) (bl Z)<|bV Z (vd e C x (by rw[List.length_append];omega)) gfE2<|ae<|ap<|al<|sT<|sG<|bY Z (dd (r:=(left.length:Int)) Z Z (by rw[iP (by simp;omega)];simp))<|sA Z<|ap<|aH (done++[x],left) (by rw[<-I];simp) di bW (by
    rw[FK.r7,if_pos K,<-List.append_assoc];exact Ent.cons (Ent.cons Ent.drop))
  ·refine aa<|al<|sT<|sG<|bY Z (dd (r:=(left.length:Int)) Z Z (by rw[iP (by simp;omega)];simp))<|sA Z<|ap<|aH (done++[x],left) (by rw[<-I];simp) di bW (by
    rw[FK.r7,if_neg (by simp[K]),List.append_nil];exact gfE2.trans (Ent.cons (Ent.cons Ent.drop)))
 ·obtain rfl:left=[]:=by
   cases left with
   |nil=>rfl
   |cons x l=>simp at J
  rw[List.append_nil]at I;subst I;exact aM<|aw<|az<|aq<|bt [_] rfl ec<|Ent.cons Ent.drop
def JF(c id:Nat)(I:S.NP.length<=400):dz G 225 [su e,.func (.func 226) #[] #[aY c]] [aP e p S,blk c 36 #[aU id]] λv m=>v=.tuple #[]/\m=[aP e p {S with NP:=S.NP.filter λp=>p.run !=id}]:=by
 refine Does.part (c:=[HP.pure (fy S),dh aU p.rm (fF S p),gZ p S.runs,dh aU p.tm (ep S),ew p.w S.now S.sets S.tms]) (GI e (lI S p) c id I) ?_ ?_
 ·refine(Ent.unall (m:=kL e p S)).trans ((bo bJ Cu).trans ?_)
  exact aQ
 ·rintro v m ⟨rfl,rfl⟩
  exact⟨_,⟨rfl,rfl⟩,gfE1.trans (Ent.all (m:=kL e p {S with NP:=S.NP.filter λp=>p.run !=id}))⟩
section
variable{l:List HP}{pos:String}
def zO{e:TypeId}{z:Value}{x y:Operand}(hi:Nat.blt i n=true)(J:P.underlying t=some (.slice e))(O:dq P e 1)(I:iV P e z)(T:ev ts x=some v)(Y:v.oneCell'=true)(hy:ev ts y=some u)(hu:u.oneCell'=true)
(h:∀b,At E n D ((i,dQ b 2 2)::ts) (blk b e #[v,u]::l) K):At E n D ts l (λa w=>(Oper.mk (some i) (.buildSlice t 2 #[(0,x),(1,y)]) ty pos af g).wp P a w K Q):=
 dw (ps:=[(0,x),(1,y)]) (vs:=[v,u]) (cs:=#[v,u]) hi J O I am am (by simp[rE,T,hy]) (by
  have e1:Array.range (2*1)=#[0,1]:=rfl;rw[e1];simp[Instr.fill,la Y,la hu]) h
end
def n9{id:Nat}(hR:S.getR id=some R)(hn:R.NN.length<=100)(hq:S.NP.length<=400)(hl:S.tms.length<=99999)(f7:S.ends<9223372036854775807):dz G 200 [aY e,aU id,aA st] [aP e p S] λv m=>v=.tuple #[]/\m=[aP e p (S.finish id st)]:=by
 refine bz func200 Z λE fr hE=>ae<|sS<|sO (cP Z Z λb4=>(sN (sQ (sZ Z (ea Z Z (bB Z (cI Z) (bB Z (bd 1 Z) (jW 3 Z (au Z) eN (jW 4 Z (au Z) (ah Z)<|bN Z (hZ (a:=id) (v:=aY (p.fb id)) Z fK Z Z (gR hR)) eA<|bB Z (aX Z)<|dE<|sT<|sS<|cE 9 Z Z (bF (au (v:=cd S.ends) Z) eN (sP (bH (r:=((S.ends+1:Nat):Int)) Z Z (by rw[li];omega))<|cZ Z<|bm 9 Z (sO<|tj (S:=S) (S':={S with ends:=S.ends+1}) Z Z Z am Z (λ_ _ _=>rfl) Z Z Z Z Z Z (sN<|sQ ?_)))))))))))))
 obtain⟨S1,I⟩:∃S1,S1={S with ends:=S.ends+1}:=⟨_,rfl⟩;have d6:S1.getR id=some R:=by rw[I];exact hR
 have t6:S1.ends=S.ends+1:=by rw[I]
 rw[<-I];refine sG<|sM Z<|sM Z<|sM Z<|cE 9 Z Z<|bF (au (v:=cd ((S.ends+1:Nat):Int)) Z) (mr λ_ _ _=>by rw[<-t6];rfl)<|cZ Z<|bm 2 Z<|sO<|E4 (R':={R with state:=st}) d6 Z Z Z am Z Z Z Z<|cZ Z<|bm 4 Z<|sO<|E4 (S:=S1.setR id {R with state:=st}) (R:={R with state:=st}) (R':={R with state:=st,ended:=S.ends+1}) (FK.ek d6) Z Z Z am Z Z Z Z<|sN<|sQ<|sZ Z<|ea Z Z<|dy 6 Z Z Z<|jW 3 Z (au Z) eN ?_
 refine jW 4 Z (au Z) (ah Z)<|bB Z (bI (cs:=#[cd id,aA (-1),aA 0]) Z Z Z Z Z)<|dI 6 Z<|dP Z (uE ⟨id,-1,0⟩ (by rw[I];exact hl)) aQ ?_
 rintro v m ⟨rfl,rfl⟩;refine ae<|dK [true,false] (aj (ah Z) ak)<|dE<|sT<|sQ<|sQ ?_
 obtain⟨T,hT⟩:∃T,T=(S1.setR id {R with state:=st,ended:=S.ends+1}).unset ⟨id,-1,0⟩:=⟨_,rfl⟩;have d8:T.getR id=some {R with state:=st,ended:=S.ends+1}:=by rw[hT];exact FK.ek d6
 have Fd:T.tms.length<=99999:=by rw[hT,I];exact Nat.le_trans (List.length_filter_le _ _) hl
 have t7:T.NP=S.NP:=by rw[hT,I];rfl
 rw[FK.setR_setR,<-hT];refine sG<|cE 3 Z Z<|bF (au (v:=(p.ra id).sv R) Z) (cT d8 Z)<|sP (bh Z Z)<|sM Z<|sN<|ai<|aO (X:=Nat) (λk=>[(45,aA k),(44,aA R.NN.length),(6,aY (p.fb id)),(0,aY e),(4,aY b4)]) (λk=>aP e p (T.endN id k)::blk b4 36 #[aU id]::fr) (λk=>k<=R.NN.length) (λk=>R.NN.length-k) 0 (Nat.zero_le _) bW aQ ?_
 intro k hk;obtain⟨R1,J,Y,BT,mt⟩:=FK.Fv d8 k hk;have wf:R1.NN.length=R.NN.length:=Y.len;refine sS<|sP (bq Z Z Z)<|sN<|sQ<|aC Z (λf8=>?_) λf8=>?_
 ·have d9:k<R.NN.length:=am;obtain⟨s,K⟩:∃s,R1.NN[k]?=some s:=⟨R1.NN[k]'am,by simp⟩;refine aa<|sT<|sQ<|ai<|bp Z<|sB Z<|bp Z<|aL Z Z Z Z<|bY Z (bI (cs:=#[cd id,aA (k:Int),aA 0]) Z Z Z Z Z)<|bV Z (mX (wh:=0) J K am) aQ<|ae<|sB Z<|bp Z<|sM Z<|sO (zO Z Z Z Z Z Z Z Z λf9=>bV Z (tq [5,6] (some ⟨f9,0,none⟩) 2 (FK.jZ J K) (FK.setS_at K)) ((bo bJ .head).trans (Ent.cons (i8 (xs:=[5,6]) (show 2<=9223372036854775807 by omega)))) (ae<|sP (cA Z Z)<|sN (cf Z (λO=>?_) λO=>?_)))
  ·have d7:¬(s.state=5\/s.state=6):=by simpa using O
   refine sG<|cE 0 Z Z<|sO<|mi (S:=(T.endN id k).leave id k) (R:=R1.setS k {s with token:=0}) (s:={s with token:=0}) (j:=0) (s':={s with token:=0,state:=7}) (FK.jZ J K) (FK.setS_at K) Z Z Z Z am Z Z<|ap<|al<|sT<|sG<|sP (dM Z Z)<|sM Z<|ap<|aH (k+1) d9 am bW (by
    rw[FK.oQ,FK.tA J K];unfold FK.endS;rw[if_neg d7];exact aQ)
  ·have d7:s.state=5\/s.state=6:=Decidable.byContradiction λh=>by simp only[not_or]at h;simp[h.1,h.2]at O
   refine aa<|al<|sT<|sG<|sP (dM Z Z)<|sM Z<|ap<|aH (k+1) d9 am bW (by
    rw[FK.oQ,FK.tA J K];unfold FK.endS;rw[if_pos d7,FK.setS_setS,FK.DN J K];exact aQ)
 ·have t8:k=R.NN.length:=am;refine aM<|aw<|az<|aq<|sT<|sG<|cE 3 Z Z<|sP (gj Z Z)<|bV Z (JF b4 id (by rw[mt,t7];exact hq)) aQ<|ae<|ap<|bt [aP e p (S.finish id st)] rfl ⟨rfl,rfl⟩ ?_
  rw[FK.xc hR,t8,hT,I];exact aQ
end Go.Y
namespace FK
def wI{id:Nat}(E:S.getR id=some R):S.settle id=if R.NN.all over then S.finish id (if R.NN.all λs=>s.state==5 then 2 else 3) else S:=by
 unfold En.settle;rw[E]
theorem KG{id:Nat}(E:S.getR id=some R):∃R',(S.wake id).getR id=some R'/\SameR R R'/\(S.wake id).NP.length<=S.NP.length+R.fl.NO.length:=by
 have:S.wake id=S.wakeN id R.fl.NO.length:=by unfold En.wake;rw[E]
 rw[this];exact wakeN_on E _
def Jk(S:En)(id k:Nat)(g:Sp->Sp):(S.onS id k g).now=S.now/\(S.onS id k g).seed=S.seed/\(S.onS id k g).tms=S.tms/\(S.onS id k g).sets=S.sets/\(S.onS id k g).NQ=S.NQ/\(S.onS id k g).ends=S.ends/\(S.onS id k g).NL=S.NL/\(S.onS id k g).NK=S.NK:=by
 unfold En.onS
 split
 ·split<;>exact⟨rfl,rfl,rfl,rfl,rfl,rfl,rfl,rfl⟩
 ·exact⟨rfl,rfl,rfl,rfl,rfl,rfl,rfl,rfl⟩
def CC(S:En)(id k:Nat):(En.wakeK id S k).now=S.now/\(En.wakeK id S k).seed=S.seed/\(En.wakeK id S k).tms=S.tms/\(En.wakeK id S k).sets=S.sets/\(En.wakeK id S k).NQ=S.NQ/\(En.wakeK id S k).ends=S.ends/\(En.wakeK id S k).NL=S.NL/\(En.wakeK id S k).NK=S.NK:=by
 unfold En.wakeK
 split
 ·split
  ·exact Jk S id k _
  ·exact⟨rfl,rfl,rfl,rfl,rfl,rfl,rfl,rfl⟩
 ·exact⟨rfl,rfl,rfl,rfl,rfl,rfl,rfl,rfl⟩
def uN(S:En)(id:Nat):∀n,(S.wakeN id n).now=S.now/\(S.wakeN id n).seed=S.seed/\(S.wakeN id n).tms=S.tms/\(S.wakeN id n).sets=S.sets/\(S.wakeN id n).NQ=S.NQ/\(S.wakeN id n).ends=S.ends/\(S.wakeN id n).NL=S.NL/\(S.wakeN id n).NK=S.NK
 |0=>⟨rfl,rfl,rfl,rfl,rfl,rfl,rfl,rfl⟩
 |n+1=>by
  rw[wakeN_succ];obtain⟨a,b,c,d,e,f,g,h⟩:=CC (S.wakeN id n) id n;obtain⟨E,I,J,K,O,T,Y,h'⟩:=uN S id n;exact⟨a.trans E,b.trans I,c.trans J,d.trans K,e.trans O,f.trans T,g.trans Y,h.trans h'⟩
def oE(S:En)(id:Nat):(S.wake id).now=S.now/\(S.wake id).seed=S.seed/\(S.wake id).tms=S.tms/\(S.wake id).sets=S.sets/\(S.wake id).NQ=S.NQ/\(S.wake id).ends=S.ends/\(S.wake id).NL=S.NL/\(S.wake id).NK=S.NK:=by
 unfold En.wake
 split
 ·exact uN S id _
 ·exact⟨rfl,rfl,rfl,rfl,rfl,rfl,rfl,rfl⟩
end FK
namespace Go.Y
open Go.Proofs Tryz
open Go Go.RowKit Go.SL
def rK{id:Nat}(Y:S.getR id=some R)(hn:R.NN.length<=100)(hq:S.NP.length<=400)(hl:S.tms.length<=99999)(d6:S.ends<9223372036854775807):dz G 198 [aY e,aU id] [aP e p S] λv m=>v=.tuple #[]/\m=[aP e p (S.settle id)]:=by
 refine bz func198 Z λE fr hE=>ae<|sS<|cE 1 Z Z<|bF (au (v:=.map (some p.rm)) Z) eN<|sM Z<|bF (hZ (m:=fF S p) Z fK Z Z (gR Y)) eA<|sB Z<|sS<|sB Z<|sQ<|sS<|cE 3 Z Z<|bF (au (v:=(p.ra id).sv R) Z) (cT Y Z)<|sP (bh Z Z)<|sM Z<|ap<|sT<|ai<|aO (X:=Nat) (λk=>[(18,aA k),(17,aA R.NN.length),(5,aA (if (R.NN.take k).all (λs=>s.state==5) then 2 else 3)),(4,aY (p.fb id)),(0,aY e),(1,aU id)]) (λ_=>aP e p S::fr) (λk=>k<=R.NN.length/\(R.NN.take k).all FK.over=true) (λk=>R.NN.length-k) 0 ⟨Nat.zero_le _,by simp⟩ bW aQ ?_
 rintro k ⟨hk,J⟩;refine sS<|sP (bq Z Z Z)<|sN<|sQ<|aC Z (λd8=>?_) λd8=>?_
 ·have T:k<R.NN.length:=am;obtain⟨s,hs⟩:∃s,R.NN[k]?=some s:=⟨R.NN[k],by simp[T]⟩;have K:R.NN.take (k+1)=R.NN.take k++[s]:=by rw[List.take_add_one,hs];rfl
  refine aa<|sT<|sQ<|ai<|bp Z<|sB Z<|sS<|cE 3 Z Z<|bF (au (v:=(p.ra id).sv R) Z) (cT Y Z)<|bY Z (aV (z:=3) Z Z Z Z T)<|bm 0 Z<|bF (au (v:=aA s.state) Z) (fI Y hs Z)<|sN<|ai<|sS<|sP (bc Z Z Z)<|sB Z<|aC Z (λO=>?_) λO=>?_
  ·refine aa<|al<|al<|sT<|sG<|sP (dM Z Z)<|sM Z<|ap<|aH (k+1) ⟨T,by rw[K,List.all_append,J];simp[FK.over,O]⟩ am ⟨rfl,rfl,by rw[show(if (R.NN.take (k+1)).all (λs=>s.state==5) then(2:Int) else 3)=(if (R.NN.take k).all (λs=>s.state==5) then(2:Int) else 3) by rw[K,List.all_append];simp[O]];rfl,rfl,rfl,rfl,trivial⟩ aQ
  ·refine sQ<|sS<|sP (bc Z Z Z)<|sB Z<|aC Z (λI=>?_) λI=>?_
   ·refine aa<|sT<|aC Z (λI=>?_) λI=>?_
    ·refine sG<|sA Z<|ap<|al<|al<|sT<|sG<|sP (dM Z Z)<|sM Z<|ap<|aH (k+1) ⟨T,by rw[K,List.all_append,J];simp[FK.over,I]⟩ am ⟨rfl,rfl,by rw[show(if (R.NN.take (k+1)).all (λs=>s.state==5) then(2:Int) else 3)=3 by rw[K,List.all_append];simp[O]];rfl,rfl,rfl,rfl,trivial⟩ aQ
    ·refine an<|aJ<|aJ<|aD<|bM<|aJ<|aD<|absurd (by assumption) I
   ·refine sG<|sP (bc Z Z Z)<|sB Z<|aC Z (λI=>?_) λI=>?_
    ·refine sG<|sA Z<|ap<|al<|al<|sT<|sG<|sP (dM Z Z)<|sM Z<|ap<|aH (k+1) ⟨T,by rw[K,List.all_append,J];simp[FK.over,I]⟩ am ⟨rfl,rfl,by rw[show(if (R.NN.take (k+1)).all (λs=>s.state==5) then(2:Int) else 3)=3 by rw[K,List.all_append];simp[O]];rfl,rfl,rfl,rfl,trivial⟩ aQ
    ·refine an<|aJ<|aJ<|aD<|bM<|aJ<|aD<|bt [aP e p (S.settle id)] rfl ec ?_
     have:¬R.NN.all FK.over=true:=λh=>by
      have:=List.all_eq_true.1 h s (cg hs);simp[FK.over]at this;omega
     rw[FK.wI Y,if_neg this];exact aQ
 ·have d7:k=R.NN.length:=am;rw[d7,List.take_length]at J;have d9:R.NN.take k=R.NN:=by rw[d7,List.take_length]
  rw[d9];refine aM<|aw<|az<|aq<|sT<|sG<|sM Z<|sM Z<|sM Z<|bV Z (n9 Y hn hq hl d6) aQ<|ae<|ap<|bt [aP e p (S.settle id)] rfl ec (by rw[FK.wI Y,if_pos J];exact aQ)
def Ic{t:Nat}{q:FK.Pl}(E:(S.NQ.find? (·.1==t)).map (·.2)=some q):eH (ep S) t=some (jj q):=by
 rw[mw];cases hf:S.NQ.find? (·.1==t)with
 |none=>rw[hf]at E;cases E
 |some x=>rw[hf]at E;injection E with E;simp only[Option.map_some,E]
theorem vX{t id:Nat}(ht:(S.NQ.find? (·.1==t)).map (·.2)=some ⟨id,(k:Int),wh⟩)(hR:S.getR id=some R)(O:R.NN[k]?=some s)(d7:R.NN.length=R.fl.NO.length)(d8:vK R.fl)(hn:R.fl.NO.length<=100)(hq:S.NP.length<=300)(hl:S.tms.length<=99999)(Y:S.ends<9223372036854775807):dz G 151 [aY e,aU t] [aP e p S] λv m=>v=.tuple #[]/\m=[aP e p (S.complete t)]:=by
 refine bz func151 Z λE fr hE=>ae<|sS<|cE 2 Z Z<|bF (au (v:=.map (some p.tm)) Z) eN<|sM Z<|bF (hZ (m:=ep S) Z fK Z Z (Ic ht)) oO<|sO (cO (z:=.agg #[cd 0,aA 0,aA 0]) Z λb4=>sO<|bk (vs:=ja ⟨id,(k:Int),wh⟩) Z (m:=3) Z Z Z Z eG (by show 0+3<=3;omega) (ao (l':=blk b4 157 (ja ⟨id,(k:Int),wh⟩).toArray::aP e p S::fr) aQ (sN<|bp Z<|bF (bR (vs:=ja ⟨id,(k:Int),wh⟩) Z) (bl Z) (bV Z (mX (wh:=wh) hR O hl) gfE1 (ae<|cZ Z<|bm 0 Z (sO<|mi (S:=S.leave id k) (R:=R.setS k {s with token:=0}) (s:={s with token:=0}) (j:=0) (s':={s with token:=0,state:=5}) (FK.jZ hR O) (FK.setS_at O) Z Z Z Z am Z Z (sN<|sQ ?_)))))))
 obtain⟨T,hT⟩:∃T,T=(S.leave id k).setR id ((R.setS k {s with token:=0}).setS k {s with token:=0,state:=5}):=⟨_,rfl⟩;obtain⟨R1,K⟩:∃R1,R1=(R.setS k {s with token:=0}).setS k {s with token:=0,state:=5}:=⟨_,rfl⟩;have f7:FK.SameR R R1:=by rw[K];exact(FK.SameR.setS R k _).trans (FK.SameR.setS _ k _)
 have f8:T.getR id=some R1:=by rw[hT,K];exact FK.ek (FK.jZ hR O)
 have f9:T.NP=S.NP:=by rw[hT];exact FK.n0
 have wf:T.tms.length<=99999:=by rw[hT];exact Nat.le_trans FK.oJ hl
 have I:T.ends=S.ends:=by rw[hT,FK.fL hR O];rfl
 have d6:S.complete t=(T.wake id).settle id:=by
  unfold FK.En.complete;rw[ht];show(((S.leave id (k:Int).toNat).onS id (k:Int).toNat λs=>{s with state:=5}).wake id).settle id=_;rw[Int.toNat_natCast,FK.tU _ (FK.jZ hR O) (FK.setS_at O),hT]
 rw[<-hT];obtain⟨R2,mt,d9,t6⟩:=FK.KG f8;have J:=f7.fl;have BT:=f7.len;have Fd:=d9.len;obtain⟨In,LE,t7,LT,NT,t8,NU,NV⟩:=FK.oE T id;refine sG<|sM Z<|bm 0 Z<|aL Z Z Z Z<|bV Z (wq f8 (by rw[BT,J];exact d7) (by rw[J];exact d8) (by rw[J];exact hn) (by rw[f9];exact hq)) aQ<|ae<|sN<|sG<|sM Z<|bm 0 Z<|aL Z Z Z Z<|bV Z (rK mt am (by rw[J,f9]at t6;omega) (by rw[t7];exact wf) (by rw[t8,I];exact Y)) aQ<|ae<|ap<|bt [aP e p (S.complete t)] rfl ec (by rw[d6];exact Ent.cons Ent.drop)
abbrev ci(run:Nat)(node I:Int)(token:Nat):List Value:=[cd run,aA node,aA I,cd token]
abbrev gA(run:Nat)(node I:Int)(token:Nat):Value:=.agg (ci run node I token).toArray
def Ge{x:FK.Pl}{q:List FK.Pl}(h:S.NP=x::q):dz G 173 [su e] [aP e p S] λv m=>v=.tuple #[jj x,.bool true]/\m=[aP e p {S with NP:=q}]:=
 oU (R:=λv m=>v=.tuple #[jj x,.bool true]/\m=[fa e (lI S p) q]) (by rw[h];exact wN e _) λ_ _ ⟨I,J⟩=>⟨q,J,I,rfl⟩
section
variable{l:List HP}{pos:String}{x y z:Operand}[H:HasEng l e p S r]
theorem Gw{tok:Nat}{q:FK.Pl}{t J:TypeId}(O:d=none)(T:P.underlying t=some (.map I J))(hk:KeyK P I Nat aU)(Y:ev ts x=some (.map (some p.tm)))(hy:ev ts y=some (aU tok))(hz:ev ts z=some (jj q))(hn:∀t∈S.NQ,t.1≠tok)
(h:At E n D ts (aP e p {S with NQ:=S.NQ++[(tok,q)]}::r) K):At E n D ts l (λac w=>(Oper.mk d (.mapUpdate t x y z) ty pos af g).wp P ac w K Q):=by
 refine ao (Ent.sel H.sel)<|bC ?_
 have hv:eH (ep S) tok=none:=by
  rw[mw];cases hf:S.NQ.find? (·.1==tok)with
  |none=>rfl
  |some u=>exact absurd (by simpa using List.find?_some hf) (hn u (List.mem_of_find?_eq_some hf))
 refine xK (b:=p.tm) (a:=tok) (v:=jj q) O T hk Y hy hz kK hv<|ao ?_ h
 have hm:ep S++[(tok,jj q)]=ep {S with NQ:=S.NQ++[(tok,q)]}:=by simp[ep]
 rw[hm];refine Ent.trans ?_<|Ent.all (m:=kL e p {S with NQ:=S.NQ++[(tok,q)]})
 exact(cM bJ bJ bJ).trans (Ent.cons (Ent.cons (Ent.cons gfE1)))
end
def Dt{id:Nat}{q:List FK.Pl}{nd:FK.Node}(h:S.NP=⟨id,(k:Int),0⟩::q)(hR:S.getR id=some R)(hs:R.NN[k]?=some s)(hnd:R.fl.NO[k]?=some nd)(NW:S.now<=4611686018427387904)(BT:0<=nd.close)(hc:nd.close<=4611686018427387904)(hb:nd.beat<=4611686018427387904)(Fd:S.sets+1<9223372036854775807)(hl:S.tms.length<=99997)(NX:S.NK<9223372036854775807)(d8:∀t∈S.NQ,t.1<=S.NK)(NY:0<=s.NM)(NZ:s.NM<9223372036854775807) :
 dz G 127 [aY e] [aP e p S] λv m=>v=.tuple #[gA id k (s.NM+1) (S.NK+1),.bool true]/\m=[aP e p (S.hand ⟨id,(k:Int),0⟩ q R s nd)]:=by
 have hk:=(gfGet.1 hs).1;have In:=(gfGet.1 hnd).1;have f9:∀(T:FK.En) n,T.now<=4611686018427387904->T.now<=T.later n:=λT n h=>by unfold FK.En.later;omega
 have f7:∀(T:FK.En) n,T.later n<=4611686018427387904:=λT n=>by unfold FK.En.later;omega
 refine bz func127 Z λE fr hE=>ae<|bA (λw hw=>nS hR hnd hw) λhA=>?_
 obtain⟨A,c,hu,-⟩:=hA;refine sS<|sO (cO (z:=.agg #[cd 0,aA 0,aA 0,cd 0]) Z λb2=>(sB Z (sS (sM Z (cZ Z (bm 3 Z (bV Z (Ge h) gfE1 (ae<|sM Z<|bG Z Z<|bG Z Z<|sO (cO (z:=.agg #[cd 0,aA 0,aA 0]) Z λb4=>sO<|bk (vs:=ja ⟨id,(k:Int),0⟩) Z (m:=3) Z Z Z Z eG (by show 0+3<=3;omega) (sB Z<|sQ<|bp Z<|sP (cA Z Z)<|sN<|ag Z<|aa<|sT<|sQ ?_))))))))))
 obtain⟨S1,J⟩:∃S1,S1={S with NP:=q}:=⟨_,rfl⟩;rw[<-J];have Y:S1.getR id=some R:=by rw[J];exact hR
 refine ao (l':=blk b4 157 (ja ⟨id,(k:Int),0⟩).toArray::aP e p S1::blk b2 95 (ci 0 0 0 0).toArray::fr) aQ<|sZ Z<|ea Z Z<|dy 1 Z Z Z<|jW 3 Z (au Z) eN<|dx 4 Z (bd 0 Z)<|bN Z (au Z) (ah Z)<|bN Z (hZ (a:=id) (v:=aY (p.fb id)) Z fK Z Z (gR Y)) eA<|bB Z (aX Z)<|dE<|sT<|sQ<|sZ Z<|ea Z Z<|dy 3 Z Z Z<|bN Z (au (v:=(p.ra id).sv R) Z) (cT Y Z)<|bB Z (bd 1 Z)<|bN Z (au Z) (ah Z)<|bB Z (aV (z:=3) Z Z Z Z hk)<|cC Z Z<|dy 0 Z Z Z<|bB Z (bd 1 Z)<|bN Z (au (v:=(p.ra id).nv R) Z) (cT Y Z)<|dx 12 Z (bd 1 Z)<|bN Z (au Z) (ah Z)<|bB Z (aV (z:=7) Z Z Z Z In)<|bN Z (bR (vs:=bn nd (.slice A nd.after.length c)) Z) (fT Y hnd hu)<|xx Z (cO (z:=.agg #[aA 0,aA 0,aA 0,aA 0,aA 0,aA 0,cB]) Z λb8=>(dK [true,true,true,true,true] (aj (fT Y hnd hu) (aj (ah Z) (aj (cT Y Z) (aj (ah Z) (aj (cT Y Z) ak))))) (bB Z (aX Z) (dI 18 Z<|bk (vs:=bn nd (.slice A nd.after.length c)) Z (m:=7) Z Z Z Z (by simp[bn,Value.oneCell']) (by show 0+7<=7;omega) (dK [false,false,false,false,false] ak<|dE<|sT<|sQ ?_)))))
 have mt:S1.NK=S.NK:=by rw[J]
 refine sG<|cE 8 Z Z<|bF (au (v:=cd S1.NK) Z) eN<|sP (bH (r:=((S1.NK+1:Nat):Int)) Z Z (by rw[li];omega))<|cZ Z<|bm 8 Z<|sO<|tj (S:=S1) (S':={S1 with NK:=S1.NK+1}) Z Z Z am Z (λ_ _ _=>rfl) Z Z Z Z Z Z<|sN<|sQ ?_
 obtain⟨I,O⟩:∃I,I={S1 with NK:=S1.NK+1}:=⟨_,rfl⟩;rw[<-O];have f8:I.getR id=some R:=by rw[O];exact Y
 have d7:I.NK=S.NK+1:=by rw[O,mt]
 refine sZ Z<|ea Z Z<|cC Z Z<|dy 1 Z Z Z<|bN Z (au (v:=aA s.NM) Z) (fI f8 hs Z)<|bB Z (bH (r:=s.NM+1) Z Z (by rw[iP am]))<|cC Z Z<|dy 8 Z Z Z<|jW 9 Z (au (v:=cd I.NK) Z) eN<|dx 10 Z (bI (cs:=#[aA 3,aA (s.NM+1),cd I.NK]) Z Z Z Z Z)<|bB Z (cI Z)<|xx Z<|Gu (s':=⟨3,s.NM+1,I.NK⟩) f8 hs Z Z Z Z<|dK [false,false] ak<|dE<|sT<|sQ ?_
 obtain⟨R1,d9⟩:∃R1,R1=R.setS k ⟨3,s.NM+1,I.NK⟩:=⟨_,rfl⟩;have hs1:R1.NN[k]?=some ⟨3,s.NM+1,I.NK⟩:=by rw[d9];exact FK.setS_at hs
 rw[<-d9];obtain⟨S3,d6⟩:∃S3,S3=I.setR id R1:=⟨_,rfl⟩;rw[<-d6];have t6:S3.getR id=some R1:=by rw[d6];exact FK.ek f8
 have LE:S3.NQ=S.NQ:=by rw[d6,O,J];rfl
 refine sZ Z<|ea Z Z<|dy 2 Z Z Z<|jW 3 Z (au Z) eN<|dx 4 Z (bg Z)<|dy 2 Z Z Z<|bN Z (au (v:=cd I.NK) Z) (fI t6 hs1 Z)<|bN Z (bR (vs:=ja ⟨id,(k:Int),0⟩) Z) (bl Z)<|dI 9 Z<|Gw (tok:=I.NK) (q:=⟨id,(k:Int),0⟩) Z Z fK Z Z Z (λt ht=>by rw[LE]at ht;have:=d8 t ht;omega)<|dK [false,false,false] ak<|dE<|sT<|sQ ?_
 obtain⟨U,hU⟩:∃U,U={S3 with NQ:=S3.NQ++[(I.NK,(⟨id,(k:Int),0⟩:FK.Pl))]}:=⟨_,rfl⟩;rw[<-hU];have LT:U.getR id=some R1:=by rw[hU];exact t6
 have NT:U.now=S.now:=by rw[hU,d6,O,J];rfl
 have NU:U.sets=S.sets:=by rw[hU,d6,O,J];rfl
 have t7:U.tms=S.tms:=by rw[hU,d6,O,J];rfl
 refine sZ Z<|ea Z Z<|dy 6 Z Z Z<|jW 3 Z (au Z) eN<|dx 4 Z (bd 0 Z)<|bN Z (au Z) (ah Z)<|bB Z (bd 1 Z)<|bN Z (au Z) (ah Z)<|bB Z (bI (cs:=#[cd id,aA (k:Int),aA 1]) Z Z Z Z Z)<|cC Z Z<|bB Z (bd 1 Z)<|bN Z (au Z) (ah Z)<|dI 12 Z<|dP Z (m0 (S:=U) nd.close am BT hc) aQ ?_
 rintro v m ⟨rfl,rfl⟩;refine ae<|dK [false,true,true,true] (aj (ah Z) (aj (ah Z) (aj eN ak)))<|dI 13 Z<|dP Z (sY ⟨id,(k:Int),1⟩ (U.later nd.close.toNat) (f9 U _ am) (f7 U _) am (by rw[t7];omega)) aQ ?_
 rintro v m ⟨rfl,rfl⟩;refine ae<|dK [true,true,false] (aj (ah Z) (aj (ah Z) ak))<|dE<|sT<|sQ ?_
 obtain⟨V,hV⟩:∃V,V=U.setT ⟨id,(k:Int),1⟩ (U.later nd.close.toNat):=⟨_,rfl⟩;rw[<-hV];have NV:V.getR id=some R1:=by rw[hV];exact LT
 have N0:V.now=S.now:=by rw[hV];exact NT
 have N1:V.sets=S.sets+1:=by rw[hV];show U.sets+1=_;rw[NU]
 have N2:V.tms.length<=S.tms.length+1:=by
  rw[hV];show(U.tms.filter (λx:FK.KD=>x.1 !=⟨id,(k:Int),1⟩)++[((⟨id,(k:Int),1⟩:FK.Pl),U.later nd.close.toNat)]).length<=_;have:=List.length_filter_le (λx:FK.KD=>x.1 !=⟨id,(k:Int),1⟩) U.tms;rw[List.length_append,List.length_singleton,<-t7];omega
 refine sG<|sM Z<|bF (bR (vs:=ja ⟨id,(k:Int),0⟩) Z) (bl Z)<|bF (bR (vs:=bn nd (.slice A nd.after.length c)) Z) (bl Z)<|bV Z (w7 (S:=V) ⟨id,(k:Int),0⟩ nd (.slice A nd.after.length c) am hb am am) aQ<|ae<|sN<|sQ ?_
 obtain⟨X,hX⟩:∃X,X=V.life ⟨id,(k:Int),0⟩ nd:=⟨_,rfl⟩;have t8:X.getR id=some R1:=by rw[hX,life_R];exact NV
 rw[<-hX];refine sZ Z<|dx 0 Z (bd 0 Z)<|bN Z (au Z) (ah Z)<|bB Z (bd 1 Z)<|bN Z (au Z) (ah Z)<|cC Z Z<|dy 1 Z Z Z<|bN Z (au (v:=aA (s.NM+1)) Z) (fI t8 hs1 Z)<|cC Z Z<|dy 2 Z Z Z<|bN Z (au (v:=cd I.NK) Z) (fI t8 hs1 Z)<|bB Z (bI (cs:=(ci id k (s.NM+1) I.NK).toArray) Z Z Z Z Z)<|dI 13 Z<|bk (vs:=ci id k (s.NM+1) I.NK) Z (m:=4) Z Z Z Z eG (by show 0+4<=4;omega)<|dK [false,false,false,false] ak<|dx 14 Z (aX Z)<|dE<|sT<|an ?_
 have wf:X=S.hand ⟨id,(k:Int),0⟩ q R s nd:=by rw[hX,hV,hU,d6,d9,d7,O,J];rfl
 exact de [aP e p X] rfl (bU (vs:=ci id k (s.NM+1) I.NK) Z Z Z Z (bl Z)) (bS Z) ⟨by rw[d7],by rw[wf]⟩<|Ent.drop.trans<|Ent.cons<|Ent.drop.trans Ent.drop
section
variable{l:List HP}{L:List (Nat×FK.Rn)}
def mB(s:Sel (gZ p L) l r)(I:x∈L)(J:(Ct (p.ra x.1) x.2)[i]?=some v):∀w,Holds E w l->cw ⟨p.fb x.1,i,none⟩ v w:=λw hw=>by
 obtain⟨F1,_,_,_,_,K,_⟩:=(hw.sel s).star;have O:Star w (iE p L) F1:=K;have T:(mc (p.fb x.1) (p.ra x.1) x.2).sat w F1:=Star.mem O (List.mem_map.2 ⟨x,I,rfl⟩);have h3:Star w (qD (p.fb x.1) (p.ra x.1) x.2) F1:=T;have Y:(FI (p.fb x.1) (p.ra x.1) x.2).sat w F1:=Star.mem h3 di;have:=Y.2;simp only[cw,World.cell?,this];exact J
def Ja{enc:α->Value}{m left:List (α×Value)}{I:Option (α×Value)}(s:Sel (eh enc e b m left I) l r):∀w,Holds E w l->kB enc b m w:=λw hw=>by
 obtain⟨O,c,_,T,Y,a3,a4,_⟩:=mL s w hw;exact⟨O,c,T,Y,a3,a4⟩
end
def I3(h:x∈S.runs):eH (fF S p) x.1=some (aY (p.fb x.1)):=by
 unfold fF;rw[mR S.runs (λk _=>aY (p.fb k)) x.1];cases hf:S.runs.find? (·.1==x.1)with
 |none=>exact absurd (List.find?_eq_none.1 hf x h) di
 |some y=>rfl
abbrev oldL(e:Nat)(p:EA)(S:FK.En)(J:Nat)(left:List (Nat×FK.Rn))(I:Option (Nat×Value)):List HP:=[HP.pure (fy S),fa e (lI S p) S.NP,eh aU J p.rm (fF S p) (left.map λr=>(r.1,aY (p.fb r.1))) I,gZ p S.runs,dh aU p.tm (ep S),ew p.w S.now S.sets S.tms]
theorem rQ:dz G 147 [aY e] [aP e p S] λv m=>(∃o,FK.Ms S o/\v=.tuple #[aU ((o.map (·.1)).getD 0),.bool o.isSome])/\m=[aP e p S]:=by
 refine bz func147 Z λE fr hE=>ae<|sS<|sA Z<|sB Z<|sQ<|sQ<|ao (Ent.unall (m:=kL e p S)) ?_
 show At E _ _ _ (HP.pure (fy S)::fa e (lI S p) S.NP::dh aU p.rm (fF S p)::gZ p S.runs::dh aU p.tm (ep S)::ew p.w S.now S.sets S.tms::fr) _;refine sG<|cE 1 Z Z<|bF (au (v:=.map (some p.rm)) Z) (IF λ_ _ _=>rfl)<|sO (ol (b:=p.rm) Z Z Z dm λit=>(sN (ai (aO (X:=List (Nat×FK.Rn)×Option (Nat×Value)×Option (Nat×FK.Rn)) (λx=>[(10,eg it 0),(2,aU ((x.2.2.map (·.1)).getD 0)),(3,.bool x.2.2.isSome),(0,aY e)]) (λx=>oldL e p S it x.1 x.2.1++fr) (λx=>(∀r∈x.1,r∈S.runs)/\(∀r∈S.runs,r∈x.1\/(0<r.2.ended->∃m,x.2.2=some m/\m.2.ended<=r.2.ended))/\∀m,x.2.2=some m->m∈S.runs/\0<m.2.ended) (λx=>x.1.length) (S.runs,none,none) ⟨λ_ h=>h,λ_ h=>.inl h,λ_ h=>by cases h⟩ bW (cM bJ bJ .head) ?_))))
 rintro⟨left,f7,o⟩ ⟨O,I,ho⟩;replace O:∀r∈left,r∈S.runs:=O;replace I:∀r∈S.runs,r∈left\/(0<r.2.ended->∃m,o=some m/\m.2.ended<=r.2.ended):=I;replace ho:∀m,o=some m->m∈S.runs/\0<m.2.ended:=ho;refine ao (l':=HP.pure (fy S)::fa e (lI S p) S.NP::eh aU it p.rm (fF S p) (left.map λr=>(r.1,aY (p.fb r.1))) f7::gZ p S.runs::dh aU p.tm (ep S)::ew p.w S.now S.sets S.tms::fr) aQ<|sQ ?_
 by_cases HL:left=[]
 ·subst HL;refine sG<|sO<|lp Z Z dm (λ_=>?_) (λj q Y=>by simp at Y)
  refine bG Z Z<|sN<|sQ<|ag Z<|aM<|aw<|az<|aq<|sT<|bp Z<|sM Z<|sA Z<|sB Z<|an<|dr [aP e p S] rfl rfl rfl ⟨⟨o,⟨ho,λr J h=>(by rcases I r J with h'|h';cases h';exact h' h)⟩,rfl⟩,rfl⟩ ((Ent.ranged.trans (bo bJ bJ)).trans (Ent.all (m:=kL e p S)))
 ·refine sG<|sO<|lp Z Z dm (λh=>absurd (List.map_eq_nil_iff.1 h) HL) λj q Y=>?_
  obtain⟨x,hx,rfl⟩:∃x,left[j]?=some x/\(x.1,aY (p.fb x.1))=q:=by
   rw[List.getElem?_map]at Y;cases hl:left[j]? with
   |none=>rw[hl]at Y;cases Y
   |some x=>rw[hl]at Y;injection Y with Y;exact⟨x,rfl,Y⟩
  have T:=O x (cg hx);have d6:=(gfGet.1 hx).1;rw[<-iz];refine bG Z Z<|sN<|sQ<|aK Z<|aa<|sT<|ai<|sS<|bF (nQ (p:=(x.1,aY (p.fb x.1))) Z) (mL .head)<|bG Z Z<|bG Z Z<|sA Z<|sB Z<|sQ ?_
  by_cases HA:0<x.2.ended
  ·by_cases HB:o=none
   ·subst HB;refine sZ Z<|ea Z Z<|dy 4 Z Z Z<|bN Z (au (v:=cd x.2.ended) Z) (mB gP T Z)<|bB Z (dX Z Z (xC am))<|cC Z Z<|dT 6 Z (bg Z)<|dT 7 Z (cA Z Z)<|dT 8 Z (bg Z)<|dZ 9 Z Z<|dZ 10 Z Z<|dZ 11 Z Z<|dZ 12 Z Z<|dZ 13 Z Z<|dZ 14 Z Z<|dZ 15 Z Z<|dZ 16 Z Z<|dZ 17 Z Z<|dZ 18 Z Z<|dZ 19 Z Z<|dZ 20 Z Z<|dZ 21 Z Z<|dZ 22 Z Z<|dT 23 Z (aF Z Z Z)<|bB Z (aF Z Z Z)<|dE<|sT<|aK Z<|sG<|sM Z<|sA Z<|sA Z<|ap<|al<|aH (left.eraseIdx j,some (x.1,aY (p.fb x.1)),some x) ⟨λr J=>O r ((List.eraseIdx_sublist _ _).subset J),λr J=>(by
     rcases I r J with h|h
     ·rcases FK.jO hx h with rfl|h
      ·exact .inr λ_=>⟨r,rfl,cx _⟩
      ·exact .inl h
     ·exact .inr λh'=>(by obtain⟨m,K,_⟩:=h h';cases K)),λm K=>(by injection K with K;subst K;exact⟨T,HA⟩)⟩ (by show(left.eraseIdx j).length<left.length;rw[List.length_eraseIdx,if_pos d6];omega) ⟨rfl,rfl,rfl,rfl,trivial⟩ (bo bJ bJ)
   ·obtain⟨m,rfl⟩:=Option.ne_none_iff_exists'.1 HB;obtain⟨d7,f8⟩:=ho m rfl;refine sZ Z<|ea Z Z<|dy 4 Z Z Z<|bN Z (au (v:=cd x.2.ended) Z) (mB gP T Z)<|bB Z (dX Z Z (xC am))<|cC Z Z<|dT 6 Z (bg Z)<|dT 7 Z (cA Z Z)<|dT 8 Z (bg Z)<|dT 9 Z (bg Z)<|dT 10 Z (cI Z)<|dT 11 Z (bd 4 Z)<|oW 12 Z (au (v:=cd x.2.ended) Z) (mB gP T Z)<|dT 13 Z (bg Z)<|dT 14 Z (cI Z)<|dT 15 Z (bd 1 Z)<|oW 16 Z (au (v:=.map (some p.rm)) Z) (IF λ_ _ _=>rfl)<|dT 17 Z (bg Z)<|oW 18 Z (hZ (a:=m.1) (v:=aY (p.fb m.1)) Z fK Z Z (I3 d7)) (Ja .head)<|dT 19 Z (cI Z)<|dT 20 Z (bd 4 Z)<|oW 21 Z (au (v:=cd m.2.ended) Z) (mB gP d7 Z)<|dT 22 Z (bq Z Z Z)<|dT 23 Z (aF Z Z Z)<|bB Z (aF Z Z Z)<|dE<|sT<|aC Z (λd9=>?_) λd9=>?_
    ·refine sG<|sM Z<|sA Z<|sA Z<|ap<|al ?_
     have d8:x.2.ended<m.2.ended:=am;exact aH (left.eraseIdx j,some (x.1,aY (p.fb x.1)),some x) ⟨λr J=>O r ((List.eraseIdx_sublist _ _).subset J),λr J=>(by
      rcases I r J with h|h
      ·rcases FK.jO hx h with rfl|h
       ·exact .inr λ_=>⟨r,rfl,cx _⟩
       ·exact .inl h
      ·exact .inr λh'=>(by obtain⟨m',K,f9⟩:=h h';injection K with K;subst K;exact⟨x,rfl,am⟩)),λm K=>(by injection K with K;subst K;exact⟨T,HA⟩)⟩ (by show(left.eraseIdx j).length<left.length;rw[List.length_eraseIdx,if_pos d6];omega) ⟨rfl,rfl,rfl,rfl,trivial⟩ (bo bJ bJ)
    ·refine aa<|al ?_
     have d8:¬x.2.ended<m.2.ended:=am;exact aH (left.eraseIdx j,some (x.1,aY (p.fb x.1)),some m) ⟨λr J=>O r ((List.eraseIdx_sublist _ _).subset J),λr J=>(by
      rcases I r J with h|h
      ·rcases FK.jO hx h with rfl|h
       ·exact .inr λ_=>⟨m,rfl,am⟩
       ·exact .inl h
      ·exact .inr h),λm' K=>ho m' K⟩ (by show(left.eraseIdx j).length<left.length;rw[List.length_eraseIdx,if_pos d6];omega) ⟨rfl,rfl,rfl,rfl,trivial⟩ (bo bJ bJ)
  ·refine sZ Z<|ea Z Z<|dy 4 Z Z Z<|bN Z (au (v:=cd x.2.ended) Z) (mB gP T Z)<|bB Z (dX Z Z (qF am))<|cC Z Z<|dZ 6 Z Z<|dZ 7 Z Z<|dZ 8 Z Z<|dZ 9 Z Z<|dZ 10 Z Z<|dZ 11 Z Z<|dZ 12 Z Z<|dZ 13 Z Z<|dZ 14 Z Z<|dZ 15 Z Z<|dZ 16 Z Z<|dZ 17 Z Z<|dZ 18 Z Z<|dZ 19 Z Z<|dZ 20 Z Z<|dZ 21 Z Z<|dZ 22 Z Z<|dZ 23 Z Z<|bB Z (aF Z Z Z)<|dE<|sT<|ag Z<|aa<|al<|aH (left.eraseIdx j,some (x.1,aY (p.fb x.1)),o) ⟨λr J=>O r ((List.eraseIdx_sublist _ _).subset J),λr J=>(by
    rcases I r J with h|h
    ·rcases FK.jO hx h with rfl|h
     ·exact .inr λh=>absurd h HA
     ·exact .inl h
    ·exact .inr h),ho⟩ (by show(left.eraseIdx j).length<left.length;rw[List.length_eraseIdx,if_pos d6];omega) ⟨rfl,rfl,rfl,rfl,trivial⟩ (bo bJ bJ)
def wO:dz G 121 [aY e] [aP e p S] λv m=>v=.bool (S.runs.any (λr=>decide (0<r.2.ended))||decide (S.runs.length<6))/\m=[aP e p S]:=by
 refine bz func121 Z λE fr hE=>ae<|sS<|sB Z<|bp Z<|bQ Z rQ aQ ?_
 rintro v m ⟨⟨o,K,rfl⟩,rfl⟩;refine ae<|sM Z<|bG Z Z<|bG Z Z<|sA Z<|sB Z<|sQ ?_
 by_cases O:o=none
 ·subst O;have I:(S.runs.any λr=>decide (0<r.2.ended))=false:=by
   rw[List.any_eq_false];intro r hr;simp only[decide_eq_true_eq];intro h;obtain⟨m,T,_⟩:=K.2 r hr h;cases T
  refine sG<|sM Z<|sM Z<|cN Z<|bO (cI Z)<|bO (bd 1 Z)<|fM (au (v:=.map (some p.rm)) Z) eN<|iS Z Z Z<|kW Z (Fq (m:=fF S p) Z Z) eA<|bO (bq (r:=decide (S.runs.length<6)) Z Z (by rw[List.length_map];exact decide_eq_decide.2 am))<|sP (aF Z Z Z)<|sB Z<|an<|ar [aP e p S] rfl Z ⟨by rw[I];rfl,rfl⟩ aQ
 ·obtain⟨x,rfl⟩:=Option.ne_none_iff_exists'.1 O;obtain⟨Y,J⟩:=K.1 x rfl;have I:(S.runs.any λr=>decide (0<r.2.ended))=true:=by
   rw[List.any_eq_true];exact⟨x,Y,by simpa using J⟩
  refine sG<|sM Z<|sM Z<|aR Z<|aR Z<|aR Z<|aR Z<|aR Z<|aR Z<|sP (aF Z Z Z)<|sB Z<|an<|ar [aP e p S] rfl Z ⟨by rw[I];rfl,rfl⟩ aQ
end Go.Y
namespace Go.Y
open Go.Proofs Tryz Go.RowKit Go.SL
open FK (gz ed dv)
def Dd(S:FK.En)(p:EA)(id:Nat):(fF S p).eraseP (·.1==id)=fF (S.unrun id) p:=by
 unfold fF FK.En.unrun;rw[List.eraseP_map]
 rfl
def Ent.sub:∀{a b:List HP} {r:List HP},b.Sublist a->Ent (a++r) (b++r)
 |_,_,_,.slnil=>aQ
 |_::_,_,_,.cons _ h=>Ent.drop.trans (Ent.sub h)
 |_::_,_,_,.cons_cons _ h=>Ent.cons (Ent.sub h)
def Gb{L M:List (Nat×FK.Rn)}(h:M.Sublist L):Ent (gZ p L::r) (gZ p M::r):=
 (Ent.unall (m:=iE p L)).trans ((Ent.sub (h.map _)).trans (Ent.all (m:=iE p M)))
section
variable{l:List HP}{pos:String}{x y z:Operand}
def Jm[H:HasEng l e p S r]{id:Nat}{t O:TypeId}(T:d=none)(Y:P.underlying t=some (.map I O))(hk:KeyK P I Nat aU)(hx:ev ts x=some (.map (some p.rm)))(hy:ev ts y=some (aU id))
(h:At E n D ts (aP e p (S.unrun id)::r) K):At E n D ts l (λac w=>(Oper.mk d (.call {callee:=.builtin .delete,args:=#[x,y],argTypes:=#[t,I]}) ty pos af g).wp P ac w K Q):=by
 refine bA (p:=fy S) (λw hw=>pm hw) λhn=>ao (Ent.sel H.sel)<|bC ?_
 refine xL (b:=p.rm) (a:=id) T Y hk hx hy dm ?_;rw[Dd];refine ao ?_ h;refine Ent.trans ?_<|Ent.all (m:=kL e p (S.unrun id))
 have J:fy (S.unrun id):=hn.sublist ((List.eraseP_sublist).map _);refine(Ent.drop1 bJ).trans (gfE1.trans ((Ent.cons (Ent.cons (Gb (M:=(S.unrun id).runs) List.eraseP_sublist))).trans (Ent.pure J)))
def EA.add(p:EA)(id b:Nat)(a:RA):EA:={p with fb:=gz p.fb id b,ra:=gz p.ra id a}
def Jq{id:Nat}{a:RA}{t kt et:TypeId}(hd:d=none)(ht:P.underlying t=some (.map kt et))(hk:KeyK P kt Nat aU)(hx:ev ts x=some (.map (some p.rm)))(hy:ev ts y=some (aU id))(hz:ev ts z=some (aY b))(J:∀r∈S.runs,r.1≠id)
(h:At E n D ts (aP e (p.add id b a) {S with runs:=S.runs++[(id,R)]}::r) K):At E n D ts (mc b a R::aP e p S::r) (λac w=>(Oper.mk d (.mapUpdate t x y z) ty pos af g).wp P ac w K Q):=by
 refine bA (p:=fy S) (λw hw=>pm (l:=mc b a R::aP e p S::r) hw) λY=>ao gfE1<|bC ?_
 have T:eH (fF S p) id=none:=by
  refine qR ?_;unfold FK.En.getR;cases hf:S.runs.find? (·.1==id)with
  |none=>rfl
  |some u=>exact absurd (by simpa using List.find?_some hf) (J u (List.mem_of_find?_eq_some hf))
 refine xK (b:=p.rm) (a:=id) (v:=aY b) hd ht hk hx hy hz dm T<|ao ?_ h
 have hM:fF S p++[(id,aY b)]=fF {S with runs:=S.runs++[(id,R)]} (p.add id b a):=by
  unfold fF;rw[List.map_append];have h1:(S.runs.map λr=>(r.1,aY (p.fb r.1)))=S.runs.map λr=>(r.1,aY ((p.add id b a).fb r.1)):=List.map_congr_left λr I=>by
   show _=(r.1,aY (gz p.fb id b r.1));rw[dv _ _ (J r I)]
  rw[h1];show _=_++[(id,aY (gz p.fb id b id))];rw[ed]
 have hL:iE p S.runs++[mc b a R]=iE (p.add id b a) (S.runs++[(id,R)]):=by
  unfold iE;rw[List.map_append];have h1:(S.runs.map λr=>mc (p.fb r.1) (p.ra r.1) r.2)=S.runs.map λr=>mc ((p.add id b a).fb r.1) ((p.add id b a).ra r.1) r.2:=List.map_congr_left λr I=>by
   show _=mc (gz p.fb id b r.1) (gz p.ra id a r.1) r.2;rw[dv _ _ (J r I),dv _ _ (J r I)]
  rw[h1];show _=_++[mc (gz p.fb id b id) (gz p.ra id a id) R];rw[ed,ed]
 have O:fy {S with runs:=S.runs++[(id,R)]}:=by
  unfold fy;rw[List.map_append,List.nodup_append];refine⟨Y,by simp,λu hu v T=>?_⟩;obtain⟨r,I,rfl⟩:=List.mem_map.1 hu;simp at T;subst T;exact J r I
 rw[hM];refine Ent.trans ?_<|Ent.all (m:=kL e (p.add id b a) {S with runs:=S.runs++[(id,R)]})
 have hX:Ent (mc b a R::gZ p S.runs::dh aU p.tm (ep S)::ew p.w S.now S.sets S.tms::r) (gZ (p.add id b a) (S.runs++[(id,R)])::dh aU p.tm (ep S)::ew p.w S.now S.sets S.tms::r):=by
  refine(Ent.cons (Ent.unall (m:=iE p S.runs))).trans ?_;have hp:(mc b a R::(iE p S.runs++(dh aU p.tm (ep S)::ew p.w S.now S.sets S.tms::r))).Perm (iE (p.add id b a) (S.runs++[(id,R)])++(dh aU p.tm (ep S)::ew p.w S.now S.sets S.tms::r)):=by
   rw[<-hL,List.append_assoc];exact List.perm_middle.symm
  exact(Ent.perm hp).trans (Ent.all (m:=iE (p.add id b a) (S.runs++[(id,R)])))
 refine(Ent.drop1 bJ).trans<|(cM bJ .head gP).trans<|(Ent.pure O).trans (Ent.cons (Ent.cons (Ent.cons hX)))
end
def p0(E tm w:Nat):EA:=⟨E,tm,w,λ_=>0,λ_=>⟨0,0,0,0,[]⟩⟩
def ring0:FK.RingOk 0 0 [] (λ_=>⟨0,0,0⟩):=⟨cx _,Nat.zero_le _,.inr ⟨rfl,rfl⟩,λk p h=>by simp at h⟩
def E9:dz G 44 [] [] λv m=>∃e p,v=aY e/\m=[aP e p FK.En.fresh]:=by
 refine bz func44 Z λE fr J=>aW<|sS<|sB Z<|sS<|sO (jQ aU Z λI=>(sO (jQ aU Z λtm=>bQ Z (Jt 0) aQ ?_)))
 rintro v m ⟨w,rfl,rfl⟩;refine ae<|sP (bI (cs:=xD ⟨0,I,tm,w,0,0,0⟩ cB 0 0) Z Z Z Z Z)<|sO (cP Z Z λe=>(sB Z (an (ar [aP e (p0 I tm w) FK.En.fresh] rfl Z ⟨e,p0 I tm w,rfl,rfl⟩ ?_))))
 have hw:Ent (cJ w (Hs 0)::fr) (ew w 0 0 []::fr):=(Ent.pure (⟨rfl,cx _,inv0 am,rfl⟩:WOk 0 0 [] (Hs 0))).trans ((Ent.all (m:=[HP.pure (WOk 0 0 [] (Hs 0)),cJ w (Hs 0)])).trans (Ent.ex (f:=λW:FK.WS=>HP.all [HP.pure (WOk 0 0 [] W),cJ w W]) (Hs 0)));refine(cM .head dm bJ).trans<|Ent.trans (b:=pF e ⟨0,I,tm,w,0,0,0⟩ cB 0 0::dh aU I []::dh aU tm []::ew w 0 0 []::fr) (Ent.cons (Ent.cons (Ent.cons hw)))<|Ent.trans (Ent.cons (Ent.row0 (e:=157) (size:=3)))<|(gV (e:=e) (C:=⟨0,I,tm,w,0,0,0⟩) (q:=[]) (N:=0) (f:=0) (rg:=λ_=>⟨0,0,0⟩) ring0).trans<|Ent.trans (b:=fa e ⟨0,I,tm,w,0,0,0⟩ []::dh aU I []::gZ (p0 I tm w) []::dh aU tm []::ew w 0 0 []::fr) (Ent.cons (Ent.cons (Ent.all (m:=[]))))<|(Ent.pure (show fy FK.En.fresh from List.nodup_nil)).trans (Ent.all (m:=kL e (p0 I tm w) FK.En.fresh))
def Kc{T:FK.En}(h:FK.Cut S T):T.now=S.now/\T.seed=S.seed/\T.tms=S.tms/\T.sets=S.sets/\T.NP=S.NP/\T.NL=S.NL/\T.runs.Sublist S.runs:=by
 unfold FK.Cut at h
 split at h
 ·obtain⟨o,_,rfl⟩:=h
  cases o with
  |none=>exact⟨rfl,rfl,rfl,rfl,rfl,rfl,List.Sublist.refl _⟩
  |some m=>exact⟨rfl,rfl,rfl,rfl,rfl,rfl,List.eraseP_sublist⟩
 ·subst h;exact⟨rfl,rfl,rfl,rfl,rfl,rfl,List.Sublist.refl _⟩
def jG(n k:Nat):List FK.Sp:=List.replicate k FK.s1++List.replicate (n-k) FK.s0
def CN(h:k<=n):(jG n k).length=n:=by simp[jG];omega
def FX(h:k<n):(jG n k)[k]?=some FK.s0:=by
 unfold jG;rw[List.getElem?_append_right di,List.length_replicate,Nat.sub_self,List.getElem?_replicate,if_pos am]
theorem CM(h:k<n):(jG n k).set k FK.s1=jG n (k+1):=by
 unfold jG;rw[List.set_append_right _ _ di,List.length_replicate,Nat.sub_self];obtain⟨m,E⟩:∃m,n-k=m+1:=⟨n-k-1,am⟩;rw[E,List.replicate_succ,List.set_cons_zero,show n-(k+1)=m by omega,List.replicate_succ',List.append_assoc]
 rfl
def IW(n:Nat):((List.range n).flatMap λ_=>xw FK.s0)=za (jG n 0):=by
 unfold za jG;rw[List.flatMap_def,List.flatMap_def]
 congr 1
 simp only[List.replicate_zero,List.nil_append,Nat.sub_zero,List.map_replicate];apply List.ext_getElem<;>simp
def rI{nv:Value}(NW:1<=fl.NO.length)(t6:fl.NO.length<=100)(d7:vK fl)(t7:0<=fl.deadline)(hd:fl.deadline<=4611686018427387904)(NV:S.now<=4611686018427387904)(hq:S.NP.length<=300)(hl:S.tms.length<=99998)(t8:S.sets<9223372036854775807)(d8:∀r∈S.runs,r.1<=S.NL)(NX:S.NL<9223372036854775807) :
 dz G 95 [aY e,.agg #[aA fl.deadline,nv]] [aP e p S,nodesOwn nv fl.NO] λv m=>∃S0 p',FK.Cut S S0/\v=aU (S.NL+1)/\m=[aP e p' (S0.submit fl)]:=by
 have f7:∀(T:FK.En) n,T.now<=4611686018427387904->T.now<=T.later n:=λT n h=>by unfold FK.En.later;omega
 have d6:∀(T:FK.En) n,T.later n<=4611686018427387904:=λT n=>by unfold FK.En.later;omega
 refine bz func95 Z λE fr hE=>aE (nk bJ λvs wf=>(aN .head ?_));rintro A c rfl a1 a2 a3 a4 _;obtain⟨I,rfl⟩:∃g,A=some ⟨g,0,none⟩:=by
  cases A with
  |none=>have:=(a1 rfl).1;omega
  |some ad=>obtain⟨g,rfl⟩:=a2 ad rfl;exact⟨g,rfl⟩
 refine ao (Ent.cons (Ent.all (m:=dC vs fl.NO)))<|ao (l':=row 51 7 (dQ I fl.NO.length c) fl.NO.length (dc fl.NO vs)::fS vs fl.NO::aP e p S::fr) aQ<|sS<|sO (cP Z Z λY=>(sB Z (sQ<|cu (X:=FK.En) (λ_=>[(0,aY e),(3,aY Y)]) (λT=>aP e p T::blk Y 46 #[aA fl.deadline,dQ I fl.NO.length c]::row 51 7 (dQ I fl.NO.length c) fl.NO.length (dc fl.NO vs)::fS vs fl.NO::fr) (λT=>FK.Cut S T) ?_ ?_)))
 ·refine sS<|cE 1 Z Z<|bF (au (v:=.map (some p.rm)) Z) eN<|bF (Fq (m:=fF S p) Z Z) eA<|sP (bc (r:=decide (S.runs.length=6)) Z Z (by rw[List.length_map];exact decide_eq_decide.2 am))<|sN<|aC Z (λJ=>?_) λJ=>?_
  ·refine bp Z<|bQ Z rQ gfE3 ?_
   rintro v m ⟨⟨o,ho,rfl⟩,rfl⟩;refine ae<|sM Z<|bG Z Z<|bG Z Z<|sA Z<|sB Z<|sQ ?_
   by_cases HO:o=none
   ·subst HO;refine sG<|sM Z<|sN<|ag Z<|aa<|aT S (by unfold FK.Cut;rw[if_pos J];exact⟨none,ho,rfl⟩) bW aQ
   ·obtain⟨x,rfl⟩:=Option.ne_none_iff_exists'.1 HO;refine sG<|sM Z<|sN<|aK Z<|sG<|cE 1 Z Z<|bF (au (v:=.map (some p.rm)) Z) eN<|sM Z<|sO<|Jm (id:=x.1) Z Z fK Z Z<|ap<|aT (S.unrun x.1) (by unfold FK.Cut;rw[if_pos J];exact⟨some x,ho,rfl⟩) bW aQ
  ·refine aa<|aT S (by unfold FK.Cut;rw[if_neg J]) bW gfE3
 intro T hT;obtain⟨k1,k2,k3,k4,k5,k6,k7⟩:=Kc hT;have O:∀r∈T.runs,r.1<=T.NL:=λr hr=>by rw[k6];exact d8 r (k7.subset hr)
 refine ao (l':=aP e p T::blk Y 46 #[aA fl.deadline,dQ I fl.NO.length c]::row 51 7 (dQ I fl.NO.length c) fl.NO.length (dc fl.NO vs)::fS vs fl.NO::fr) aQ<|sS<|cE 7 Z Z<|bF (au (v:=cd T.NL) Z) eN<|sP (bH (r:=((T.NL+1:Nat):Int)) Z Z (by rw[li];omega))<|cZ Z<|bm 7 Z<|sO<|tj (S:=T) (S':={T with NL:=T.NL+1}) Z Z Z am Z (λ_ _ _=>rfl) Z Z Z Z Z Z<|sN<|sQ<|sZ Z<|jW 0 Z (bR (vs:=[aA fl.deadline,dQ I fl.NO.length c]) Z) (bl Z)<|bB Z (bd 1 Z)<|bN Z (au Z) (ah Z)<|bB Z (bh Z Z)<|dI 4 Z (E6 (zc:=xw FK.s0) Z Z Nr Z Z am Z am am λgs=>dK [true,true] (aj (ah Z) (aj (bl Z) ak))<|dx 5 Z (bI (cs:=#[aA fl.deadline,dQ I fl.NO.length c,aA 1,dQ gs fl.NO.length fl.NO.length,cd 0]) Z Z Z Z Z)<|xx Z (cP Z Z λrb=>(dK [true,true] (aj (ah Z) (aj (bl Z) ak)) (bB Z (aX Z) (dE (sT (sQ (sQ (ao (l':=row 189 3 (dQ gs fl.NO.length fl.NO.length) fl.NO.length (za (jG fl.NO.length 0))::blk rb 184 #[aA fl.deadline,dQ I fl.NO.length c,aA 1,dQ gs fl.NO.length fl.NO.length,cd 0]::aP e p {T with NL:=T.NL+1}::blk Y 46 #[aA fl.deadline,dQ I fl.NO.length c]::row 51 7 (dQ I fl.NO.length c) fl.NO.length (dc fl.NO vs)::fS vs fl.NO::fr) ?_ ?_)))))))))
 ·refine gfE1.trans<|fB (cx _) (show fl.NO.length<=9223372036854775807 by omega) (by rw[List.size_toArray,cV (k:=3) (λ_=>rfl),List.length_range]) ?_
  rw[List.toList_toArray,IW,List.take_of_length_le (by rw[pL,CN (Nat.zero_le _)];omega)]
 refine sG<|cE 3 Z Z<|aL Z Z Z Z<|sP (bh Z Z)<|sM Z<|sN<|ai<|aO (X:=Nat) (λk=>[(45,aA k),(44,aA fl.NO.length),(7,aY rb),(0,aY e),(3,aY Y)]) (λk=>row 189 3 (dQ gs fl.NO.length fl.NO.length) fl.NO.length (za (jG fl.NO.length k))::blk rb 184 #[aA fl.deadline,dQ I fl.NO.length c,aA 1,dQ gs fl.NO.length fl.NO.length,cd 0]::aP e p {T with NL:=T.NL+1}::blk Y 46 #[aA fl.deadline,dQ I fl.NO.length c]::row 51 7 (dQ I fl.NO.length c) fl.NO.length (dc fl.NO vs)::fS vs fl.NO::fr) (λk=>k<=fl.NO.length) (λk=>fl.NO.length-k) 0 (Nat.zero_le _) bW aQ ?_
 intro k hk;refine sS<|sP (bq Z Z Z)<|sN<|sQ<|aC Z (λBT=>?_) λBT=>?_
 ·have K:k<fl.NO.length:=am;refine aa<|sT<|sQ<|ai<|bp Z<|sB Z<|sG<|cE 3 Z Z<|aL Z Z Z Z<|bY Z (aV (z:=3) Z Z Z Z K)<|bm 0 Z<|sO<|gc .head Z Z Z Z am ?_
  rw[show 0+k*3+0=0+k*3+0 from rfl,ud (j:=0) (s':=FK.s1) (FX K) am rfl,CM K];refine ap<|al<|sT<|sG<|sP (dM Z Z)<|sM Z<|ap<|aH (k+1) K am bW aQ
 ·have In:k=fl.NO.length:=am;subst In;have LE:jG fl.NO.length fl.NO.length=(FK.Rn.begun fl).NN:=by unfold jG FK.Rn.begun;simp
  rw[LE];refine aM<|aw<|az<|aq<|sT<|sQ ?_
  have f8:(FK.Rn.begun fl).NN.length=fl.NO.length:=by unfold FK.Rn.begun;simp
  refine ao (l':=mc rb ⟨I,c,gs,fl.NO.length,vs⟩ (FK.Rn.begun fl)::aP e p {T with NL:=T.NL+1}::blk Y 46 #[aA fl.deadline,dQ I fl.NO.length c]::fr) ?_ ?_
  ·refine Ent.trans ?_<|Ent.all (m:=qD rb ⟨I,c,gs,fl.NO.length,vs⟩ (FK.Rn.begun fl))
   unfold qD RA.sv RA.nv FI Ct RA.sv RA.nv;rw[f8];refine(cM bJ gP gP).trans<|Ent.pure wf
  refine sZ Z<|ea Z Z<|dy 1 Z Z Z<|jW 3 Z (au Z) eN<|dx 4 Z (bg Z)<|dy 7 Z Z Z<|jW 7 Z (au Z) eN<|dx 8 Z (bg Z)<|dI 9 Z<|Jq (id:=T.NL+1) (b:=rb) (a:=⟨I,c,gs,fl.NO.length,vs⟩) (R:=FK.Rn.begun fl) Z Z fK Z Z Z (λr hr=>by have:=O r hr;omega)<|dK [false,false] ak<|dE<|sT<|sQ ?_
  obtain⟨p',Fd⟩:∃p',p'=p.add (T.NL+1) rb ⟨I,c,gs,fl.NO.length,vs⟩:=⟨_,rfl⟩;rw[<-Fd];have N5:(T.begin fl).now=S.now:=k1;have N6:(T.begin fl).sets=S.sets:=k4;have LT:(T.begin fl).tms=S.tms:=k3;refine sZ Z<|ea Z Z<|dy 6 Z Z Z<|jW 3 Z (au Z) eN<|dx 4 Z (bg Z)<|dy 7 Z Z Z<|jW 7 Z (au Z) eN<|dx 8 Z (bI (cs:=#[cd ((T.NL+1:Nat):Int),aA (-1),aA 0]) Z Z Z Z Z)<|cC Z Z<|bB Z (bd 0 Z)<|bN Z (au Z) (ah Z)<|dI 12 Z<|dP Z (m0 (S:=T.begin fl) fl.deadline am t7 hd) aQ ?_
  rintro v m ⟨rfl,rfl⟩;refine ae<|dK [false,true,true] (aj eN (aj eN ak))<|dI 13 Z<|dP Z (sY (S:=T.begin fl) ⟨T.NL+1,-1,0⟩ ((T.begin fl).later fl.deadline.toNat) (f7 _ _ am) (d6 _ _) am (by rw[LT];omega)) aQ ?_
  rintro v m ⟨rfl,rfl⟩;refine ae<|dK [true,false] (aj (mr (S:=(T.begin fl).setT ⟨T.NL+1,-1,0⟩ ((T.begin fl).later fl.deadline.toNat)) λ_ _ _=>rfl) ak)<|dE<|sT<|sQ ?_
  obtain⟨U,hU⟩:∃U,U=(T.begin fl).setT ⟨T.NL+1,-1,0⟩ ((T.begin fl).later fl.deadline.toNat):=⟨_,rfl⟩;rw[<-hU];have NT:U.getR (T.NL+1)=some (FK.Rn.begun fl):=by rw[hU];exact FK.vm O
  have f9:U.NL=T.NL+1:=by rw[hU];rfl
  have NU:U.NP=S.NP:=by rw[hU];exact k5
  refine sG<|sM Z<|cE 7 Z Z<|bF (au (v:=cd ((T.NL+1:Nat):Int)) Z) (mr (S:=U) λ_ _ _=>by rw[<-f9];rfl)<|bV Z (wq (S:=U) NT f8 d7 t6 (by rw[NU];exact hq)) aQ<|ae<|sN<|sQ ?_
  obtain⟨NY,NZ,N0,N1,N2,N3,d9,N4⟩:=FK.oE U (T.NL+1);obtain⟨V,hV⟩:∃V,V=U.wake (T.NL+1):=⟨_,rfl⟩;rw[<-hV]at d9;rw[<-hV];refine sG<|cE 7 Z Z<|bF (au (v:=cd ((T.NL+1:Nat):Int)) Z) (mr (S:=V) λ_ _ _=>by rw[<-f9,<-d9];rfl)<|sB Z<|an ?_
  have mt:V=T.submit fl:=by rw[hV,hU];rfl
  exact ar [aP e p' V] rfl Z ⟨T,p',hT,by rw[k6],by rw[mt]⟩<|Ent.cons Ent.drop
abbrev cv(run:Nat)(st:Int)(E I:Value):List Value:=[cd run,aA st,E,I]
theorem Bs(id:Nat)(I:S.getR id=none):dz G 116 [aY e,aU id] [aP e p S] λv m=>v=.tuple #[.agg (cv 0 0 cB cB).toArray,.bool false]/\m=[aP e p S]:=by
 refine bz func116 Z λE fr J=>ae<|sS<|sO (cO (z:=.agg #[cd 0,aA 0,cB,cB]) Z λK=>(sB Z (sS (sM Z (cZ Z (bm 1 Z (bF (au (v:=.map (some p.rm)) Z) eN (sM Z<|bF (k9 (m:=fF S p) Z fK Z Z Z (qR I)) eA<|sM Z<|bG Z Z<|bG Z Z<|sA Z<|sB Z<|sQ<|bp Z<|sP (cA Z Z)<|sN<|aK Z<|sS<|bF (bR (vs:=cv 0 0 cB cB) Z) (bl Z) (sO<|bk (vs:=cv 0 0 cB cB) Z (m:=4) Z Z Z Z eG (by show 0+4<=4;omega) ?_)))))))))
 exact sB Z<|an<|aD<|de [aP e p S] rfl (bU (vs:=cv 0 0 cB cB) Z Z Z Z (bl Z)) (bS Z) ec Ent.drop
def Br{id:Nat}(hR:S.getR id=some R)(hn:R.NN.length<=100):dz G 116 [aY e,aU id] [aP e p S] λv m=>∃v2 v3,v=.tuple #[.agg (cv id R.state v2 v3).toArray,.bool true]/\m=[aP e p S,bL v2 (R.NN.map (·.state)),bL v3 (R.NN.map (·.NM))]:=by
 refine bz func116 Z λE fr hE=>ae<|sS<|sO (cO (z:=.agg #[cd 0,aA 0,cB,cB]) Z λb4=>(sB Z (sS (sM Z (cZ Z (bm 1 Z (bF (au (v:=.map (some p.rm)) Z) eN (sM Z<|bF (kZ (m:=fF S p) Z fK Z Z (gR hR)) eA<|sM Z<|bG Z Z<|bG Z Z<|sA Z<|sB Z<|sQ<|bp Z<|sP (cA Z Z)<|sN<|ag Z<|aa<|sT<|sQ (sG<|sM Z<|cE 2 Z Z<|bF (au (v:=aA R.state) Z) (cT hR Z)<|sP (bI (cs:=(cv id R.state cB cB).toArray) Z Z Z Z Z) (sO<|bk (vs:=cv id R.state cB cB) Z (m:=4) Z Z Z Z eG (by show 0+4<=4;omega) (sN<|sQ<|sS<|cE 3 Z Z<|bF (au (v:=(p.ra id).sv R) Z) (cT hR Z)<|sP (bh Z Z)<|sM Z<|sN<|ai ?_)))))))))))
 refine aO (X:=Nat×Value×Value) (λx=>[(32,aA x.1),(31,aA R.NN.length),(30,(p.ra id).sv R),(4,aY b4),(6,aY (p.fb id))]) (λx=>blk b4 72 (cv id R.state x.2.1 x.2.2).toArray::row 3 1 x.2.1 x.1 (eO ((R.NN.take x.1).map (·.state)))::row 3 1 x.2.2 x.1 (eO ((R.NN.take x.1).map (·.NM)))::aP e p S::fr) (λx=>x.1<=R.NN.length) (λx=>R.NN.length-x.1) (0,cB,cB) (Nat.zero_le _) bW (Ent.cons (Ent.row0.trans (Ent.cons Ent.row0))) ?_;rintro⟨k,v2,v3⟩ hk;replace hk:k<=R.NN.length:=hk;refine ao (l':=blk b4 72 (cv id R.state v2 v3).toArray::row 3 1 v2 k (eO ((R.NN.take k).map (·.state)))::row 3 1 v3 k (eO ((R.NN.take k).map (·.NM)))::aP e p S::fr) aQ ?_;refine sS<|sP (bq Z Z Z)<|sN<|sQ<|aC Z (λd9=>?_) λd9=>?_
 ·have d6:k<R.NN.length:=by have:(k:Int)<(R.NN.length:Int):=d9;omega
  obtain⟨s,hs⟩:∃s,R.NN[k]?=some s:=⟨R.NN[k],by simp[d6]⟩;have f7:eO ((R.NN.take k).map (·.state))++[aA s.state]=eO ((R.NN.take (k+1)).map (·.state)):=by rw[List.take_add_one,hs];simp[eO]
  have f8:eO ((R.NN.take k).map (·.NM))++[aA s.NM]=eO ((R.NN.take (k+1)).map (·.NM)):=by rw[List.take_add_one,hs];simp[eO]
  refine aa<|sT<|sQ<|ai<|sS<|sP (aV (z:=3) Z Z Z Z d6)<|bF (bR (vs:=xw s) Z) (zy hR hs)<|sO (cO (z:=.agg #[aA 0,aA 0,cd 0]) Z λb8=>sO<|bk (vs:=xw s) Z (m:=3) Z Z Z Z eG (by show 0+3<=3;omega) (ao (l':=blk b8 189 (xw s).toArray::blk b4 72 (cv id R.state v2 v3).toArray::row 3 1 v2 k (eO ((R.NN.take k).map (·.state)))::row 3 1 v3 k (eO ((R.NN.take k).map (·.NM)))::aP e p S::fr) aQ (sN<|sZ Z<|dx 0 Z (bd 2 Z)<|bN Z (au Z) (ah Z)<|bB Z (bd 0 Z)<|bN Z (au Z) (ah Z)<|dx 6 Z (bd 3 Z)<|bN Z (au Z) (ah Z)<|bB Z (bd 1 Z)<|bN Z (au Z) (ah Z) (i7 4 10 Z Z Z Z eS (fd Z Z Z Z Z Z λmt=>?_) (fd Z Z Z Z Z Z λf9=>?_)))))
  ·refine dK [true,true,false,true] (aj (ah Z) (aj (ah Z) (aj (ah Z) ak)))<|i7 5 10 rfl rfl rfl rfl eS (ce rfl rfl j5 rfl am rfl rfl (HasVal.sel (v:=v2)) (news:=[aA s.state]) rfl fX iy eG gk am λT d7=>?_) (fd rfl rfl rfl rfl rfl rfl λf9=>?_)
   ·refine aN (HasVal.sel (v:=T)) ?_;rintro I J rfl - - - - -
    refine dK [true,true,false] (aj (ah Z) (aj (ah Z) ak))<|dx 12 Z (bd 2 Z)<|dI 10 Z (fd Z Z Z Z Z Z λf9=>(dK [false,true] (aj (ah Z) ak) (dR 11 rfl rfl (ce rfl rfl j5 rfl am rfl rfl (HasVal.sel (v:=v3)) (news:=[aA s.NM]) rfl fX iy eG gk am λY d8=>aN (HasVal.sel (v:=Y)) ?_))))
    rintro K O rfl - - - - -
    refine dK [false] ak<|dI 13 Z<|cq Z Z Z Z Z fW<|dK [] ak<|dx 14 Z (bd 3 Z)<|dI 15 Z<|cq Z Z Z Z Z fW ?_
    refine dK [] ak<|dE<|al<|sT<|aB b4 (cv id R.state (.slice I (k+1) J) (.slice K (k+1) O)).toArray Z<|sG<|sP (dM Z Z)<|sM Z<|ap<|aH (k+1,.slice I (k+1) J,.slice K (k+1) O) d6 (by show R.NN.length-(k+1)<R.NN.length-k;omega) bW (by rw[f7,f8];exact aG)
   ·refine dK [false,true,true] (aj (ah Z) (aj (ah Z) ak))<|dR 5 rfl rfl (ce rfl rfl j5 rfl am rfl rfl (HasVal.sel (v:=v2)) (news:=[aA s.state]) rfl fX iy eG gk am λT d7=>aN (HasVal.sel (v:=T)) ?_)
    rintro I J rfl - - - - -
    refine dK [true,false] (aj (ah Z) ak)<|dx 12 Z (bd 2 Z)<|dR 11 rfl rfl (ce rfl rfl j5 rfl am rfl rfl (HasVal.sel (v:=v3)) (news:=[aA s.NM]) rfl fX iy eG gk am λY d8=>aN (HasVal.sel (v:=Y)) ?_)
    rintro K O rfl - - - - -
    refine dK [false] ak<|dI 13 Z<|cq Z Z Z Z Z fW<|dK [] ak<|dx 14 Z (bd 3 Z)<|dI 15 Z<|cq Z Z Z Z Z fW ?_
    refine dK [] ak<|dE<|al<|sT<|aB b4 (cv id R.state (.slice I (k+1) J) (.slice K (k+1) O)).toArray Z<|sG<|sP (dM Z Z)<|sM Z<|ap<|aH (k+1,.slice I (k+1) J,.slice K (k+1) O) d6 (by show R.NN.length-(k+1)<R.NN.length-k;omega) bW (by rw[f7,f8];exact aG)
  ·refine dK [false,true,true,true] (aj (ah Z) (aj (ah Z) (aj (ah Z) ak)))<|dI 4 Z (fd Z Z Z Z Z Z λmt=>(dK [true,false,true] (aj (ah Z) (aj (ah Z) ak)) (dR 5 rfl rfl (ce rfl rfl j5 rfl am rfl rfl (HasVal.sel (v:=v2)) (news:=[aA s.state]) rfl fX iy eG gk am λT d7=>aN (HasVal.sel (v:=T)) ?_))))
   rintro I J rfl - - - - -
   refine dK [true,false] (aj (ah Z) ak)<|dx 12 Z (bd 2 Z)<|dR 11 rfl rfl (ce rfl rfl j5 rfl am rfl rfl (HasVal.sel (v:=v3)) (news:=[aA s.NM]) rfl fX iy eG gk am λY d8=>aN (HasVal.sel (v:=Y)) ?_)
   rintro K O rfl - - - - -
   refine dK [false] ak<|dI 13 Z<|cq Z Z Z Z Z fW<|dK [] ak<|dx 14 Z (bd 3 Z)<|dI 15 Z<|cq Z Z Z Z Z fW ?_
   refine dK [] ak<|dE<|al<|sT<|aB b4 (cv id R.state (.slice I (k+1) J) (.slice K (k+1) O)).toArray Z<|sG<|sP (dM Z Z)<|sM Z<|ap<|aH (k+1,.slice I (k+1) J,.slice K (k+1) O) d6 (by show R.NN.length-(k+1)<R.NN.length-k;omega) bW (by rw[f7,f8];exact aG)
 ·have t6:k=R.NN.length:=by have:¬(k:Int)<(R.NN.length:Int):=d9;omega
  refine aM<|aw<|az<|aq<|sT<|sQ<|aN (HasVal.sel (v:=v2)) ?_
  rintro A2 c2 rfl - - - - -
  refine aN (HasVal.sel (v:=v3)) ?_;rintro A3 c3 rfl - - - - -
  refine sG<|bF (bR (vs:=cv id R.state (.slice A2 k c2) (.slice A3 k c3)) Z) (bl Z)<|sO<|bk (vs:=cv id R.state (.slice A2 k c2) (.slice A3 k c3)) Z (m:=4) Z Z Z Z eG (by show 0+4<=4;omega) ?_
  refine sB Z<|an ?_
  refine de [aP e p S,bL (.slice A2 k c2) (R.NN.map (·.state)),bL (.slice A3 k c3) (R.NN.map (·.NM))] rfl (bU (vs:=cv id R.state (.slice A2 k c2) (.slice A3 k c3)) Z Z Z Z (bl Z)) (bS Z) ⟨_,_,rfl,rfl⟩ ?_;rw[List.take_of_length_le am];show Ent _ (aP e p S::row 3 1 _ (R.NN.map (·.state)).length _::row 3 1 _ (R.NN.map (·.NM)).length _::fr);rw[List.length_map,List.length_map,<-t6];exact aG
abbrev qV(S:FK.En)(l:List FK.Pl):List Value:=l.flatMap λq=>ci q.run q.node (S.tryOf q) 0
def uv:fm prog 95 (gA 0 0 0 0) 4 32:=by unfold fm;kernel_rfl
def rj(id:Nat)(j t:Int)(tok:Nat):Instr.fill (λi=>some (i*4,4)) (Array.map (λx=>(gA 0 0 0 0).cells[x%(gA 0 0 0 0).cells.size]!) (Array.range (1*4))) ((List.map (λx=>x.fst) [((0:Nat),Operand.tmp 39)]).zip [gA id j t tok])=some (ci id j t tok).toArray:=by
 have e1:Array.range (1*4)=#[0,1,2,3]:=rfl;rw[e1];simp[Instr.fill,Value.cells]
theorem Ds(d6:S.QueueOk)(hq:S.NP.length<=1000):dz G 118 [aY e] [aP e p S] λv m=>m=[aP e p S,row 95 4 v S.NP.length (qV S S.NP)]:=by
 refine bz func118 Z λE fr hE=>ae<|sS<|sB Z<|sS<|sB Z<|sQ<|sS<|cE 3 Z Z<|bV Z uj aQ<|ae<|sM Z<|sN<|ai<|aO (X:=Nat×Value) (λx=>[(10,aA x.1),(9,aA S.NP.length),(3,x.2),(0,aY e)]) (λx=>row 95 4 x.2 x.1 (qV S (S.NP.take x.1))::aP e p S::fr) (λx=>x.1<=S.NP.length) (λx=>S.NP.length-x.1) (0,cB) (Nat.zero_le _) bW Ent.row0 ?_
 rintro⟨k,v3⟩ hk;replace hk:k<=S.NP.length:=hk;refine sS<|sP (bq Z Z Z)<|sN<|sQ<|aC Z (λJ=>?_) λJ=>?_
 ·have T:k<S.NP.length:=by have:(k:Int)<(S.NP.length:Int):=J;omega
  obtain⟨q,K⟩:∃q,S.NP[k]?=some q:=⟨S.NP[k],by simp[T]⟩;obtain⟨mt,R,s,I,O,hs1,t6⟩:=d6 q (cg K);obtain⟨j,hj⟩:∃j:Nat,q.node=(j:Int):=⟨q.node.toNat,am⟩;obtain⟨id,nd,wh⟩:=q;subst hj;rw[Int.toNat_natCast]at O;have d8:=(gfGet.1 O).1;have Y:S.tryOf ⟨id,(j:Int),wh⟩=s.NM+1:=by
   unfold FK.En.tryOf;simp only[I,Int.toNat_natCast,O]
  have d9:qV S (S.NP.take k)++ci id (j:Int) (s.NM+1) 0=qV S (S.NP.take (k+1)):=by
   rw[List.take_add_one,K];unfold qV;rw[List.flatMap_append,<-Y]
   rfl
  refine aa<|sT<|sQ<|ai<|bp Z<|sB Z<|sS<|cE 3 Z Z<|sM Z<|bV Z (K6 K) gfE1<|ae<|sO (cO (z:=.agg #[cd 0,aA 0,aA 0]) Z λb5=>sO<|bk (vs:=ja ⟨id,(j:Int),wh⟩) Z (m:=3) Z Z Z Z eG (by show 0+3<=3;omega) ?_)
  refine aB b5 (ja ⟨id,(j:Int),wh⟩).toArray Z<|sN<|sZ Z<|ea Z Z<|bB Z (bd 0 Z)<|bN Z (au Z) (ah Z)<|bB Z (bd 1 Z)<|bN Z (au Z) (ah Z)<|cC Z Z<|dy 1 Z Z Z<|jW 8 Z (au (v:=.map (some p.rm)) Z) eN<|dx 9 Z (bd 0 Z)<|bN Z (au Z) (ah Z)<|bN Z (hZ (a:=id) (v:=aY (p.fb id)) Z fK Z Z (gR I)) eA<|dy 3 Z Z Z<|bN Z (au (v:=(p.ra id).sv R) Z) (cT I Z)<|bB Z (bd 1 Z)<|bN Z (au Z) (ah Z)<|bB Z (aV (z:=3) Z Z Z Z d8)<|bB Z (bd 1 Z)<|bN Z (au (v:=aA s.NM) Z) (fI I O Z)<|bB Z (bH (r:=s.NM+1) Z Z (by rw[iP am]))<|bB Z (bI (cs:=(ci id j (s.NM+1) 0).toArray) Z Z Z Z Z)<|dI 22 Z (dw (m:=1) (z:=gA 0 0 0 0) (size:=4) (ps:=[(0,.tmp 39)]) (vs:=[gA id j (s.NM+1) 0]) (cs:=(ci id j (s.NM+1) 0).toArray) Z Z Z Z am am Z (rj _ _ _ _) λf9=>dK [true,true,true,true,true,true,true,true] (aj (fI I O Z) (aj (ah Z) (aj (cT I Z) (aj eA (aj (ah Z) (aj eN (aj (ah Z) (aj (ah Z) ak)))))))) (dR 23 rfl rfl (ce rfl rfl uv rfl am rfl rfl (HasVal.sel (v:=v3)) (news:=ci id j (s.NM+1) 0) rfl fX iy eG gk am λd7 f8=>dK [true,true,true,true,true,true,true,true] (aj (fI I O Z) (aj (ah Z) (aj (cT I Z) (aj eA (aj (ah Z) (aj eN (aj (ah Z) (aj (ah Z) ak)))))))) (dx 24 Z (aX Z)<|dE<|al<|sT<|sG<|sP (dM Z Z)<|sM Z<|ap (aH (k+1,d7) T (by show S.NP.length-(k+1)<S.NP.length-k;omega) bW (by rw[d9];exact aG))))))
 ·have f7:k=S.NP.length:=by have:¬(k:Int)<(S.NP.length:Int):=J;omega
  rw[f7,List.take_length];refine aM<|aw<|az<|aq<|sT<|bp Z<|sB Z<|an<|ar [aP e p S,row 95 4 v3 S.NP.length (qV S S.NP)] rfl Z Z aG
def vG{Y:List HP}(xs:List Int)(A:Option Addr)(c:Nat)(F:FuncId)(cap:Array Value)(f:Int->Bool)(d8:xs.length<=9223372036854775807)(hA:xs≠[]->∃g,A=some ⟨g,0,none⟩/\∀E w r,Holds E w (Y++r)->∀j x,xs[j]?=some x->cw ⟨g,0+j*1,none⟩ (aA x) w)(hF:eT prog F=true)(hf:∀x∈xs,Does prog G F (#[aA x]++cap) Y λv m=>v=.bool (f x)/\m=Y) :
 dz G 249 [.slice A xs.length c,.func (.func F) #[] cap] Y λu m=>(∃i:Int,u=aA i/\(0<=i<->xs.any f=true))/\m=Y:=by
 refine bz func249 Z λE fr hE=>sS<|sB Z<|sQ<|bp Z<|sP (bh Z Z)<|sM Z<|sN<|ai<|aO (X:=Nat) (λk=>[(8,aA k),(7,aA xs.length),(0,.slice A xs.length c),(1,.func (.func F) #[] cap)]) (λ_=>Y++fr) (λk=>k<=xs.length/\(xs.take k).any f=false) (λk=>xs.length-k) 0 ⟨Nat.zero_le _,rfl⟩ bW aQ ?_
 rintro k ⟨hk,hno⟩;refine sS<|sP (bq Z Z Z)<|sN<|sQ<|aC Z (λc9=>?_) λc9=>?_
 ·have I:k<xs.length:=am;obtain⟨g,rfl,O⟩:=hA (by intro h;rw[h]at I;simp at I);obtain⟨x,T⟩:∃x,xs[k]?=some x:=⟨xs[k],by simp[I]⟩;have d6:xs.take (k+1)=xs.take k++[x]:=by rw[List.take_add_one,T];rfl
  refine aa<|sT<|sQ<|ai<|bp Z<|sB Z<|bp Z<|sM Z<|bY Z (aV (z:=1) Z Z Z Z I)<|bF (au (v:=aA x) Z) (λw hw=>O _ _ _ hw k x T)<|sO<|iR Z Z hF Z hE (hf x (cg T)) aQ ?_
  rintro v m ⟨rfl,hm⟩;rw[hm];refine sN<|cf Z (λJ=>?_) λJ=>?_
  ·refine bp Z<|sB Z<|an<|aJ<|aD<|bM<|aJ<|aD<|ar Y Z Z ⟨⟨_,rfl,by
    have:xs.any f=true:=List.any_eq_true.2 ⟨x,cg T,J⟩;simp[this]⟩,rfl⟩ aQ
  ·refine aa<|al<|sT<|sG<|sP (dM Z Z)<|sM Z<|ap<|aH (k+1) ⟨I,by rw[d6,List.any_append,hno];simp[J]⟩ am bW aQ
 ·have d7:k=xs.length:=am;rw[d7,List.take_length]at hno;refine aM<|aw<|az<|aq<|sT<|sS<|sB Z<|an<|ar Y Z Z ⟨⟨_,rfl,by simp[hno]⟩,rfl⟩ aQ
def qx{Y:List HP}(xs:List Int)(A:Option Addr)(c:Nat)(F:FuncId)(cap:Array Value)(f:Int->Bool)(I:xs.length<=9223372036854775807)(J:xs≠[]->∃g,A=some ⟨g,0,none⟩/\∀E w r,Holds E w (Y++r)->∀j x,xs[j]?=some x->cw ⟨g,0+j*1,none⟩ (aA x) w)(O:eT prog F=true)(T:∀x∈xs,Does prog G F (#[aA x]++cap) Y λv m=>v=.bool (f x)/\m=Y) :
 dz G 223 [.slice A xs.length c,.func (.func F) #[] cap] Y λu m=>u=.bool (xs.any f)/\m=Y:=by
 refine bz func223 Z λE fr hE=>sS<|sB Z<|bp Z<|sM Z<|bQ Z (vG xs A c F cap f I J O T) aQ ?_
 rintro v m ⟨⟨i,rfl,hi⟩,hm⟩;rw[hm];refine sP (nH Z Z Z)<|sB Z<|an ?_
 have hd:decide ((0:Int)<=i)=xs.any f:=by
  cases hx:xs.any f with
  |true=>exact xC (hi.2 hx)
  |false=>exact qF (λh=>by rw[hi.1 h]at hx;cases hx)
 exact ar Y Z Z ⟨by rw[hd],rfl⟩ aQ
def Ent.under{n:Nat}{a b:List HP}(h:Ent a b):Ent (a.map (SL.under n)) (b.map (SL.under n)):=λw _ s=>(Star.under (h w _ (nb s)) λ_ hk=>hk.2).mono λ_ hk=>hk.1
def Ho{g m size:Nat}:Ent (SL.under n (row t size (dQ g m c) m xs)::r) (HP.pure (g<n)::row t size (dQ g m c) m xs::r):=λw F ⟨F1,F2,J,O,T,I,Y⟩=>
 Ent.pure (I.2 g rfl).2 w F ⟨F1,F2,J,O,T,(row t size (dQ g m c) m xs).loc (λ_ h=>h.1) (λ_ _=>rfl) I,Y⟩
def Hp{g m size:Nat}(J:g<n):Ent (row t size (dQ g m c) m xs::r) (SL.under n (row t size (dQ g m c) m xs)::r):=λ_ _ ⟨F1,F2,O,T,Y,I,hl⟩=>
 ⟨F1,F2,O,T,Y,⟨I.1,λk hk=>⟨I.2 k hk,by injection hk with hk;subst hk;exact J⟩⟩,hl⟩
def Kp:Ent (SL.under n (ob b o)::r) (HP.pure (b<n)::ob b o::r):=λw F ⟨F1,F2,J,O,T,I,Y⟩=>
 Ent.pure I.1.2 w F ⟨F1,F2,J,O,T,⟨I.1.1,I.2⟩,Y⟩
def uG(J:b<n):Ent (ob b o::r) (SL.under n (ob b o)::r):=λ_ _ ⟨F1,F2,O,T,Y,I,hl⟩=>
 ⟨F1,F2,O,T,Y,⟨⟨I.1,J⟩,I.2⟩,hl⟩
section
variable{l:List HP}{pos:String}{x y:Operand}
def Gt{h id o:Nat}{s':FK.Sp}(H:Sel (SL.under h (aP e p S)) l r)(Y:S.getR id=some R)(O:R.NN[k]?=some s)(hz:dq P t 1)(hx:ev ts x=some (eg ((p.ra id).gs) o))(hy:ev ts y=some v)(ho:o=0+k*3+j)(hj:j<3)(hv:v.oneCell'=true)(I:(xw s).set j v=xw s')
(hk:At E n D ts (SL.under h (aP e p (S.setR id (R.setS k s')))::r) K):At E n D ts l (λa w=>(Oper.mk none (.store t x y) ty pos af g).wp P a w K Q):=by
 refine ao (Ent.sel H)<|bA (p:=fy S) (λw hw=>pm hw) λT=>?_
 obtain⟨a,b,J,hset'⟩:=lD Y T;refine ao ((Ent.under (n:=h) (lQ (e:=e) (p:=p) (r:=[]) J)).append r) ?_;rw[List.append_nil];have d6:=(gfGet.1 O).1;have hl:(R.setS k s').NN.length=R.NN.length:=by simp[FK.Rn.setS]
 refine ao (gfE4.trans Ho)<|eW .head λhg=>gc .head hz hx hy hv am<|ao ?_ hk
 subst ho;rw[ud O hj I];refine(Hp hg).trans<|((cM bJ bJ bJ).trans (Ent.cons (Ent.cons (Ent.cons gfE1)))).trans ?_
 have hc:=(Ent.under (n:=h) (kS (e:=e) (p:=p) (r:=[]) T (hset' (R.setS k s')))).append r;rw[List.append_nil]at hc;refine Ent.trans ?_ hc;show Ent _ (SL.under h (HP.pure ((p.ra id).vs.length=R.fl.NO.length))::SL.under h (blk (p.fb id) 184 #[aA R.fl.deadline,(p.ra id).nv R,aA R.state,.slice (some ⟨(p.ra id).gs,0,none⟩) (R.setS k s').NN.length (p.ra id).cs,cd R.ended])::SL.under h (row 51 7 ((p.ra id).nv R) R.fl.NO.length (dc R.fl.NO (p.ra id).vs))::SL.under h (fS (p.ra id).vs R.fl.NO)::SL.under h (row 189 3 (.slice (some ⟨(p.ra id).gs,0,none⟩) (R.setS k s').NN.length (p.ra id).cs) (R.setS k s').NN.length (za (R.NN.set k s')))::((pH e p S a b).map (SL.under h)++r));rw[hl];exact aQ
end
end Go.Y
namespace FK
def skipK_at{ns:List Node}{nd:Node}(E:l[k]?=some s)(I:ns[k]?=some nd):skipK ns l k=if s.state=1/\(nd.after.any λu=>cY l u.toNat 6||cY l u.toNat 7) then l.set k {s with state:=7} else l:=by
 unfold skipK;rw[E,I]
end FK
namespace Go.Y
open Go.Proofs Tryz
open Go Go.RowKit Go.SL
abbrev iX(c:Nat)(v:Value):HP:=blk c 181 #[v]
section
variable{id:Nat}
def KW(E:S.getR id=some R)(I:fy S):S.setR id R=S:=by
 obtain⟨a,b,J,K⟩:=lD E I;have h3:(S.setR id R).runs=S.runs:=by rw[K,J]
 have O:S.setR id R={S with runs:=(S.setR id R).runs}:=rfl;rw[O,h3]
theorem yT{u h:Nat}(I:S.getR id=some R)(J:R.NN[u]?=some s):dz G 224 [aA u,aY c] [SL.under h (aP e p S),iX c (aY (p.fb id))] λv m=>v=.bool (decide (s.state∈[6,7]))/\m=[SL.under h (aP e p S),iX c (aY (p.fb id))]:=by
 refine bz func224 Z λE fr O=>aE<|sS<|sB Z<|sS<|aL Z Z Z Z<|sM Z<|sO (zO Z Z Z Z Z Z Z Z λK=>bV Z (ut [6,7] (some ⟨K,0,none⟩) 2 I J) ((bo bJ .head).trans (Ent.cons (i8 (xs:=[6,7]) (show 2<=9223372036854775807 by omega)))) (ae<|sB Z<|an<|ar [_,_] rfl Z ⟨rfl,rfl⟩ aQ))
def B9{h:Nat}(J:S.getR id=some R)(t7:R.NN.length=R.fl.NO.length)(d6:vK R.fl)(_:R.fl.NO.length<=100)(hk:k<R.fl.NO.length) :
 Does prog G 222 (#[aA k]++#[aY c]) [SL.under h (aP e p S),SL.under h (iX c (aY (p.fb id)))] λv m=>v=.tuple #[]/\m=[SL.under h (aP e p (S.setR id {R with NN:=FK.skipK R.fl.NO R.NN k})),SL.under h (iX c (aY (p.fb id)))]:=by
 obtain⟨s,hs⟩:∃s,R.NN[k]?=some s:=⟨R.NN[k]'am,by simp⟩;obtain⟨nd,hnd⟩:∃nd,R.fl.NO[k]?=some nd:=⟨R.fl.NO[k],by simp[hk]⟩;have f9:=(gfGet.1 hs).1;have Y:=FK.skipK_at hs hnd;refine bz func222 Z λE fr hE=>aE<|ao (gfE1.trans Kp) (eW .head λO=>bA (p:=fy S) (λw hw=>pm hw) λd8=>?_)
 have I:S.setR id R=S:=KW J d8;refine bA (λw hw=>nS J hnd hw) λhA=>?_;obtain⟨A,ca,hu,f7,f8,t8,d7⟩:=hA;replace d7:ca<=9223372036854775807:=d7;have mt:∀x∈nd.after,Does prog G 224 (#[aA x]++#[aY c]) [SL.under h (aP e p S),iX c (aY (p.fb id))] λv m=>v=.bool (FK.cY R.NN x.toNat 6||FK.cY R.NN x.toNat 7)/\m=[SL.under h (aP e p S),iX c (aY (p.fb id))]:=λx hx=>by
  obtain⟨wf,BT⟩:=d6 nd (cg hnd) x hx;obtain⟨u,rfl⟩:∃u:Nat,x=(u:Int):=⟨x.toNat,am⟩;obtain⟨s2,T⟩:∃s2,R.NN[u]?=some s2:=⟨R.NN[u]'am,by simp⟩;have hb:decide (s2.state∈([6,7]:List Int))=(FK.cY R.NN (u:Int).toNat 6||FK.cY R.NN (u:Int).toNat 7):=by
   rw[Int.toNat_natCast,FK.fO T,FK.fO T]
   by_cases h6:s2.state=6
   ·simp[h6]
   ·by_cases h7:s2.state=7<;>simp[h6,h7]
  rw[<-hb];exact yT J T
 have t6:nd.after≠[]->∃g,A=some ⟨g,0,none⟩/\∀E w r,Holds E w ([SL.under h (aP e p S),iX c (aY (p.fb id))]++r)->∀j x,nd.after[j]?=some x->cw ⟨g,0+j*1,none⟩ (aA x) w:=λd9=>by
  have hp:=List.length_pos_iff.2 d9;cases A with
  |none=>have:=(f7 rfl).1;omega
  |some ad=>
   obtain⟨g,rfl⟩:=f8 ad rfl;exact⟨g,rfl,λE w r hw j x hx=>AB (l:=SL.under h (aP e p S)::iX c (aY (p.fb id))::r) J hnd hu hx w hw⟩
 refine sQ ?_
 by_cases HW:s.state=1
 ·refine sG<|aL Z Z Z Z<|sM Z<|sO (fd Z Z Z Z Z Z λb5=>bV Z (ut [1] (some ⟨b5,0,none⟩) 1 J hs) ((bo dm .head).trans (Ent.cons (i8 (xs:=[1]) (show 1<=9223372036854775807 by omega)))) (ae ?_))
  rw[show decide (s.state∈([1]:List Int))=true by simp[HW]];refine sM Z<|fM (au Z) (ah Z)<|bO (cI Z)<|bO (bd 0 Z)<|bO (bd 1 Z)<|fM (au (v:=(p.ra id).nv R) Z) (cT J Z)<|cN Z<|bO (aV (z:=7) Z Z Z Z hk)<|bO (bd 6 Z)<|fM (au (v:=.slice A nd.after.length ca) Z) (λw hw=>fT J hnd hu w hw 6 _ Z)<|bO (gj Z Z)<|iS Z Z Z<|dP Z (qx nd.after A ca 224 #[aY c] (λx=>FK.cY R.NN x.toNat 6||FK.cY R.NN x.toNat 7) am t6 Z mt) aQ ?_
  rintro v m ⟨rfl,rfl⟩;refine aE<|sP (aF Z Z Z)<|sN<|cf Z (λK=>?_) λK=>?_
  ·refine sG<|aL Z Z Z Z<|cZ Z<|bm 3 Z<|bF (au (v:=(p.ra id).sv R) Z) (cT J Z)<|bY Z (aV (z:=3) Z Z Z Z f9)<|bm 0 Z<|sO<|Gt (j:=0) (s':={s with state:=7}) .head J hs Z Z Z Z am Z Z<|ap<|bt [SL.under h (aP e p (S.setR id {R with NN:=FK.skipK R.fl.NO R.NN k})),SL.under h (iX c (aY (p.fb id)))] rfl ec (by
    rw[Y,if_pos ⟨HW,K⟩];exact Ent.cons (uG O))
  ·refine aa<|bt [SL.under h (aP e p (S.setR id {R with NN:=FK.skipK R.fl.NO R.NN k})),SL.under h (iX c (aY (p.fb id)))] rfl ec (by
    rw[Y,if_neg (λh=>by rw[h.2]at K;cases K),I];exact Ent.cons (uG O))
 ·refine sG<|aL Z Z Z Z<|sM Z<|sO (fd Z Z Z Z Z Z λb5=>bV Z (ut [1] (some ⟨b5,0,none⟩) 1 J hs) ((bo dm .head).trans (Ent.cons (i8 (xs:=[1]) (show 1<=9223372036854775807 by omega)))) (ae ?_))
  rw[show decide (s.state∈([1]:List Int))=false by simp[HW]];refine sM Z<|aR Z<|aR Z<|aR Z<|aR Z<|aR Z<|aR Z<|aR Z<|aR Z<|aR Z<|aR Z<|aR Z<|sP (aF Z Z Z)<|sN<|ag Z<|aa<|bt [SL.under h (aP e p (S.setR id {R with NN:=FK.skipK R.fl.NO R.NN k})),SL.under h (iX c (aY (p.fb id)))] rfl ec (by
   rw[Y,if_neg (λh=>HW h.1),I];exact Ent.cons (uG O))
end
def OwnNodes.nodesAtB{B:Nat}{base:Nat}{A:Option Addr}{l:List FK.Node}{vs:List Value}(h:OwnNodes w base (.slice A l.length c) l vs)
(d6:∀g,(Value.slice A l.length c).ownBlock=some g->g<B)(O:∀(i:Nat) (u:Value),vs[i]?=some u->∀g,u.ownBlock=some g->g<B)(hr:∀n∈l,(i64 n.NR/\i64 n.close/\i64 n.beat/\i64 n.base/\i64 n.cap/\i64 n.NS)/\∀x∈n.after,i64 x):NodesAt w B A c l:=by
 have J:=h.row;rcases J.2 with⟨K,h0⟩|⟨g,cap,f8,K,hb,hg,h1,h2,_⟩
 ·injection K with _ _ hc
  subst hc;exact⟨am,am,λhl=>by omega⟩
 ·injection K with hA _ hc
  subst hA;subst hc;refine⟨h1,by unfold maxLen at h2;omega,λhl=>⟨g,0,rfl,d6 _ Z,λi n hn=>?_⟩⟩;obtain⟨hi,_⟩:=gfGet.1 hn;have T:∃u,vs[i]?=some u:=⟨vs[i]'(by rw[h.len];exact hi),by simp⟩;obtain⟨u,T⟩:=T;have I:=h.ints i n u hn T;have E:∀j x,j<7->(bn n u)[j]?=some x->w.cell? ⟨g,0+i*7+j,none⟩=some x:=λj x hj hx=>by
   have:=J.cells (g:=g) rfl (i*7+j) x (by rw[mD l vs i j n u h.len hn T hj];exact hx);have e:(⟨g,0,none⟩:Addr).add (i*7+j)=⟨g,i*7+j,none⟩:=by unfold Addr.add;split<;>simp_all
   rw[e]at this;rw[Nat.zero_add];exact this
  obtain⟨A6,c6,rfl,f7,h6,d7⟩:=zL I;have Y:=hr n (cg hn);refine⟨E 0 _ am Z,E 1 _ am Z,E 2 _ am Z,E 3 _ am Z,E 4 _ am Z,E 5 _ am Z,⟨A6,c6,E 6 _ am Z,Y.2,h6,by unfold maxLen at d7;omega,λhl=>?_⟩,Y.1⟩;rcases I.2 with⟨K,h0⟩|⟨g6,d8,d9,K,_⟩
  ·omega
  ·injection K with hA _ _
   subst hA;refine⟨g6,0,rfl,O i _ T _ Z,λj x hx=>?_⟩;have:=I.cells (g:=g6) rfl j (aA x) (by simp[eO,hx]);have e:(⟨g6,0,none⟩:Addr).add j=⟨g6,j,none⟩:=by unfold Addr.add;split<;>simp_all
   rw[e]at this;rw[Nat.zero_add];exact this
def Gi(nd:FK.Node)(A:Option Addr)(n c:Nat)(k:Int)(seed:Nat)(E:1<=nd.base)(I:nd.base<=nd.cap)(h3:nd.cap<=1048576)(J:0<=nd.NS)(K:nd.NS<=1048576)(O:seed<18446744073709551616):dz G 221 [.agg (bn nd (.slice A n c)).toArray,aA k,cd seed] [] λv m=>v=aA (gG nd.base nd.cap nd.NS k seed)/\m=[]:=
 (fg (φ:=λ_=>True) λ_ w _ _ _=>sF nd.NR nd.close nd.beat nd.base nd.cap nd.NS A n c k seed w E I h3 J K am am).does
def G5{id:Nat}(hR:S.getR id=some R)(h:(aP e p S).sat w F)(hF:∀k,F k->k<n)(hr:∀n∈R.fl.NO,(i64 n.NR/\i64 n.close/\i64 n.beat/\i64 n.base/\i64 n.cap/\i64 n.NS)/\∀x∈n.after,i64 x):NodesAt w n (some ⟨(p.ra id).gn,0,none⟩) (p.ra id).cn R.fl.NO:=by
 have h0:Star w (kL e p S) F:=h;have h1:Star w (iE p S.runs) F:=Star.mem (p:=gZ p S.runs) h0 di;have h2:(mc (p.fb id) (p.ra id) R).sat w F:=Star.mem h1 (List.mem_map.2 ⟨(id,R),ux hR,rfl⟩);have h3:Star w (qD (p.fb id) (p.ra id) R) F:=h2;have E:(p.ra id).vs.length=R.fl.NO.length:=Star.mem (p:=HP.pure ((p.ra id).vs.length=R.fl.NO.length)) h3 di;have I:=Star.mem (p:=row 51 7 ((p.ra id).nv R) R.fl.NO.length (dc R.fl.NO (p.ra id).vs)) h3 di;have K:Star w (dC (p.ra id).vs R.fl.NO) F:=Star.mem (p:=fS (p.ra id).vs R.fl.NO) h3 di;have J:∀(i:Nat) (nd:FK.Node) (u:Value),R.fl.NO[i]?=some nd->(p.ra id).vs[i]?=some u->(bL u nd.after).sat w F:=λi nd u hi O=>by
  have hz:((p.ra id).vs.zip R.fl.NO)[i]?=some (u,nd):=by simp[List.getElem?_zip_eq_some,hi,O]
  exact Star.mem K<|List.mem_map.2 ⟨(u,nd),cg hz,rfl⟩
 have T:OwnNodes w 0 ((p.ra id).nv R) R.fl.NO (p.ra id).vs:=⟨E,I.1,λi nd u hi O=>(J i nd u hi O).1⟩;refine T.nodesAtB (λg Y=>hF g (I.2 g Y)) (λi u O g Y=>?_) hr;have d6:i<R.fl.NO.length:=by rw[<-E];exact(gfGet.1 O).1
 exact hF g ((J i R.fl.NO[i] u (List.getElem?_eq_getElem d6) O).2 g Y)
def aft_lt(h:vK fl):∀i,∀k∈FK.aft fl.NO i,k<fl.NO.length:=λi k hk=>by
 unfold FK.aft at hk
 split at hk
 ·rename_i n I
  obtain⟨x,E,rfl⟩:=List.mem_map.1 hk;obtain⟨J,K⟩:=h n (cg I) x E;omega
 ·cases hk
def uR{T:List Nat}:((R.turned k s st).skips T).NN.length=R.NN.length:=by
 unfold FK.Rn.skips;rw[show({R.turned k s st with NN:=T.foldl (FK.skipK (R.turned k s st).fl.NO) (R.turned k s st).NN}:FK.Rn).NN=T.foldl (FK.skipK (R.turned k s st).fl.NO) (R.turned k s st).NN from rfl,FK.mz];unfold FK.Rn.turned FK.Rn.setS;simp
def Ec{id:Nat}{nd:FK.Node}(hG:∀E w,G E->E.is w->Tab w)(J:S.getR id=some R)(hs:R.NN[k]?=some s)(hnd:R.fl.NO[k]?=some nd)(f8:R.NN.length=R.fl.NO.length)(hn:R.fl.NO.length<=12)(Y:vK R.fl)(t7:∀n∈R.fl.NO,(i64 n.NR/\i64 n.close/\i64 n.beat/\i64 n.base/\i64 n.cap/\i64 n.NS)/\∀x∈n.after,i64 x)
(hq:S.NP.length<=300)(hl:S.tms.length<=99997)(d9:S.ends<9223372036854775807)(LE:S.now<=4611686018427387904)(t8:S.sets+1<9223372036854775807)(d6:S.seed<18446744073709551616)(h1:1<=nd.base)(h2:nd.base<=nd.cap)(h3:nd.cap<=1048576)(h4:0<=nd.NS)(h5:nd.NS<=1048576)(K:0<=gG nd.base nd.cap nd.NS s.NM S.seed/\gG nd.base nd.cap nd.NS s.NM S.seed<=4611686018427387904) :
 dz G 199 [aY e,jj ⟨id,(k:Int),wh⟩] [aP e p S] λv m=>v=.tuple #[]/\((s.NM<nd.NR/\m=[aP e p (S.rests id k R s (gG nd.base nd.cap nd.NS s.NM S.seed).toNat)])\/(nd.NR<=s.NM/\∃left T,FK.Ordering R.fl.NO left T/\(∀i,left.testBit i=true->∃j∈FK.aft R.fl.NO i,left.testBit j=true)/\m=[aP e p (S.dies id k R s T)])):=by
 have Fd:=(gfGet.1 hnd).1;have I:=FK.jZ J hs;have d8:=FK.setS_at (R:=R) (s':={s with token:=0}) hs;refine bz func199 Z λE fr hE=>ae ?_;refine bA (λw hw=>nS J hnd hw) λhA=>?_;obtain⟨A,c,hu,-⟩:=hA;refine sS<|sO (cP Z Z λb3=>(sN (sQ (sZ Z (ea Z Z (bB Z (cI Z) (bB Z (bd 1 Z) ?_)))))))
 refine jW 3 Z (au Z) eN ?_;refine dx 4 Z (bd 0 Z)<|bN Z (au Z) (ah Z)<|bN Z (hZ (a:=id) (v:=aY (p.fb id)) Z fK Z Z (gR J)) eA<|xx Z (cO (z:=.pointer none) Z λb4=>?_)
 refine dK [true,true,true] (aj eA (aj (ah Z) (aj eN ak))) ?_;refine dI 8 Z<|cq Z Z Z Z Z (by show 0<1;omega) ?_
 refine dK [false,false,false] ak<|dE<|sT ?_
 refine sQ<|cu (X:=Nat) (λb=>[(0,aY e),(3,aY b3),(4,aY b4),(5,eg ((p.ra id).gs) (0+k*3)),(6,aY b)]) (λb=>aP e p (S.leave id k)::blk b3 157 (ja ⟨id,(k:Int),wh⟩).toArray::iX b4 (aY (p.fb id))::blk b 51 (bn nd (.slice A nd.after.length c)).toArray::fr) (λ_=>True) ?_ ?_
 ·refine aB b4 #[aY (p.fb id)] rfl<|sZ Z<|ea Z Z<|bN Z (bR (vs:=ja ⟨id,(k:Int),wh⟩) Z) (bl Z)<|jW 3 Z (au Z) (ah Z)<|dy 0 Z Z Z<|bB Z (bd 1 Z)<|bN Z (au (v:=(p.ra id).nv R) Z) (cT J Z)<|bB Z (bd 1 Z)<|bN Z (au Z) (ah Z)<|bB Z (aV (z:=7) Z Z Z Z Fd)<|bN Z (bR (vs:=bn nd (.slice A nd.after.length c)) Z) (fT J hnd hu) ?_
  refine i7 2 12 Z Z Z Z eS (dP Z (mX (wh:=wh) J hs am) (Ent.trans (Ent.sel HasEng.sel) aQ) ?_) (cO (z:=.agg #[aA 0,aA 0,aA 0,aA 0,aA 0,aA 0,cB]) Z λb6=>?_)
  ·rintro v m ⟨rfl,rfl⟩;refine ae ?_;refine dK [true,true,true,true,false] (aj (by first|exact fT I hnd hu|exact fT J hnd hu) (aj (ah Z) (aj (by first|exact cT I Z|exact cT J Z) (aj (ah Z) ak)))) ?_;refine dI 12 Z (cO (z:=.agg #[aA 0,aA 0,aA 0,aA 0,aA 0,aA 0,cB]) Z λb6=>?_);refine dK [true,true,true,true] (aj (by first|exact fT I hnd hu|exact fT J hnd hu) (aj (ah Z) (aj (by first|exact cT I Z|exact cT J Z) (aj (ah Z) ak)))) ?_;refine dx 13 Z (aX Z) ?_;refine dI 14 Z<|bk (vs:=bn nd (.slice A nd.after.length c)) Z (m:=7) Z Z Z Z (by simp[bn,Value.oneCell']) (by show 0+7<=7;omega) ?_
   exact dK [false,false,false,false] ak<|dE<|aB b6 (bn nd (.slice A nd.after.length c)).toArray Z<|aB b3 (ja ⟨id,(k:Int),wh⟩).toArray Z<|aT b6 trivial bW aG
  ·refine dK [true,true,true,true,true] (aj (by first|exact fT I hnd hu|exact fT J hnd hu) (aj (ah Z) (aj (by first|exact cT I Z|exact cT J Z) (aj (ah Z) (aj (bl Z) ak))))) ?_;refine dI 2 Z<|dP Z (mX (wh:=wh) J hs am) (Ent.trans (Ent.sel HasEng.sel) aQ) ?_
   rintro v m ⟨rfl,rfl⟩;refine ae ?_;refine dK [true,true,true,true,false] (aj (by first|exact fT I hnd hu|exact fT J hnd hu) (aj (ah Z) (aj (by first|exact cT I Z|exact cT J Z) (aj (ah Z) ak)))) ?_;refine dx 13 Z (aX Z) ?_;refine dI 14 Z<|bk (vs:=bn nd (.slice A nd.after.length c)) Z (m:=7) Z Z Z Z (by simp[bn,Value.oneCell']) (by show 0+7<=7;omega) ?_
   exact dK [false,false,false,false] ak<|dE<|aB b6 (bn nd (.slice A nd.after.length c)).toArray Z<|aB b3 (ja ⟨id,(k:Int),wh⟩).toArray Z<|aT b6 trivial bW aG
 rintro b6 -
 refine sQ<|sQ<|sZ Z<|ea Z Z<|dy 1 Z Z Z<|bN Z (au (v:=aA s.NM) Z) (fI I d8 Z)<|bB Z (bd 0 Z)<|bN Z (au Z) (ah Z)<|bB Z (bq Z Z Z)<|dE<|sT ?_
 refine aC Z (λwf=>?_) λwf=>?_
 ·refine sS<|cE 0 Z Z ?_
  refine sO<|mi (S:=S.leave id k) (R:=R.setS k {s with token:=0}) (s:={s with token:=0}) (j:=0) (s':={s with token:=0,state:=4}) I d8 Z Z Z Z am Z Z ?_
  refine sN<|sQ ?_
  obtain⟨T,hT⟩:∃T,T=(S.leave id k).setR id (R.turned k s 4):=⟨_,rfl⟩;have O:T.getR id=some (R.turned k s 4):=by rw[hT];exact FK.ek I
  have In:(R.turned k s 4).NN[k]?=some {s with token:=0,state:=4}:=FK.setS_at d8;have LT:T.now=S.now:=by rw[hT,FK.fL J hs];rfl
  have NT:T.sets=S.sets:=by rw[hT,FK.fL J hs];rfl
  have mt:T.seed=S.seed:=by rw[hT,FK.fL J hs];rfl
  have NU:T.tms.length<=S.tms.length:=by rw[hT];exact FK.oJ
  refine ao (l':=aP e p T::blk b3 157 (ja ⟨id,(k:Int),wh⟩).toArray::iX b4 (aY (p.fb id))::blk b6 51 (bn nd (.slice A nd.after.length c)).toArray::fr) (by rw[hT];exact aQ) ?_;rw[<-mt]at K d6;refine sZ Z<|ea Z Z<|dy 6 Z Z Z ?_
  refine jW 3 Z (au Z) eN ?_;refine dx 4 Z (bd 0 Z)<|bN Z (au Z) (ah Z)<|bB Z (bd 1 Z)<|bN Z (au Z) (ah Z)<|bB Z (bI (cs:=#[cd id,aA (k:Int),aA 1]) Z Z Z Z Z)<|cC Z Z<|bN Z (bR (vs:=bn nd (.slice A nd.after.length c)) Z) (bl Z)<|cC Z Z<|dy 1 Z Z Z<|bN Z (au (v:=aA s.NM) Z) (fI O In Z)<|cC Z Z<|dy 0 Z Z Z ?_
  refine jW 18 Z (au (v:=cd T.seed) Z) eN ?_;refine dI 19 Z<|dP Z (Gi nd A nd.after.length c s.NM T.seed h1 h2 h3 h4 h5 d6) aQ ?_
  rintro v m ⟨rfl,rfl⟩;rw[List.nil_append];refine dK [false,false,false,true,true,true] (aj (ah Z) (aj (ah Z) (aj eN ak))) ?_;refine dI 20 Z<|dP Z (m0 (S:=T) (gG nd.base nd.cap nd.NS s.NM T.seed) am K.1 K.2) aQ ?_
  rintro v m ⟨rfl,rfl⟩;refine ae ?_;refine dK [true,true,true] (aj (ah Z) (aj (ah Z) (aj eN ak))) ?_;refine dI 21 Z<|dP Z (sY (S:=T) ⟨id,(k:Int),1⟩ (T.later (gG nd.base nd.cap nd.NS s.NM T.seed).toNat) (by unfold FK.En.later;omega) (by unfold FK.En.later;omega) am am) aQ ?_
  rintro v m ⟨rfl,rfl⟩;refine ae<|dK [true,true,false] (aj (ah Z) (aj (ah Z) ak))<|dE<|sT<|an<|aD<|bt [_] rfl ⟨rfl,.inl ⟨am,rfl⟩⟩ ?_
  have t6:T.setT ⟨id,(k:Int),1⟩ (T.later (gG nd.base nd.cap nd.NS s.NM T.seed).toNat)=S.rests id k R s (gG nd.base nd.cap nd.NS s.NM S.seed).toNat:=by rw[mt,hT];rfl
  rw[<-t6];exact Ent.cons<|Ent.drop.trans<|Ent.drop.trans Ent.drop
 ·refine aa<|sT<|sS<|cE 0 Z Z ?_
  refine sO<|mi (S:=S.leave id k) (R:=R.setS k {s with token:=0}) (s:={s with token:=0}) (j:=0) (s':={s with token:=0,state:=6}) I d8 Z Z Z Z am Z Z ?_
  refine sN<|sQ ?_
  have O:∀T,((S.leave id k).setR id ((R.turned k s 6).skips T)).getR id=some ((R.turned k s 6).skips T):=λT=>FK.ek I;refine ao (l':=aP e p ((S.leave id k).setR id ((R.turned k s 6).skips []))::iX b4 (aY (p.fb id))::blk b3 157 (ja ⟨id,(k:Int),wh⟩).toArray::blk b6 51 (bn nd (.slice A nd.after.length c)).toArray::fr) (Ent.cons gfE1) ?_;refine sG<|aL Z Z Z Z<|cZ Z<|bm 0 Z<|bm 1 Z<|bF (au (v:=(p.ra id).nv R) Z) (cT (O []) Z) ?_
  refine sP (gj Z Z) ?_;refine sO (pk Z Z Z hE (Dx (l:=R.fl.NO) (F:=222) (cap:=#[aY b4]) (L:=λT=>[aP e p ((S.leave id k).setR id ((R.turned k s 6).skips T)),iX b4 (aY (p.fb id))]) hn (aft_lt Y) (λn hn x hx=>(Y n hn x hx).1) (λ_ _=>rfl) hG (λn T w F BT hF=>(by
 obtain⟨F1,F2,f1,_,_,hp,_⟩:=BT;exact G5 (R:=(R.turned k s 6).skips T) (O T) hp (λq hq=>hF q (f1 q hq)) t7)) (λn T j hj _ _=>(by
 refine(B9 (h:=n) (c:=b4) (O T) (by rw[uR];exact f8) Y (by show R.fl.NO.length<=100;omega) hj).mono ?_;rintro v m ⟨rfl,rfl⟩;refine⟨_,⟨rfl,rfl⟩,?_⟩;rw[FK.setR_setR];have f7:({(R.turned k s 6).skips T with NN:=FK.skipK ((R.turned k s 6).skips T).fl.NO ((R.turned k s 6).skips T).NN j}:FK.Rn)=(R.turned k s 6).skips (T++[j]):=by
  unfold FK.Rn.skips;rw[List.foldl_append]
  rfl
 rw[f7];exact aQ))) aQ ?_)
  rintro v m ⟨left,T,rfl,f9,d7,rfl⟩;refine aE<|sN<|sG<|sM Z<|bm 0 Z<|aL Z Z Z Z ?_
  refine bV Z (rK (O T) (by rw[uR];omega) (by show(S.leave id k).NP.length<=400;rw[FK.n0];omega) (by show(S.leave id k).tms.length<=99999;have:=FK.oJ (S:=S) (id:=id) (k:=k);omega) (by show(S.leave id k).ends<_;rw[FK.fL J hs];exact d9)) aQ ?_;refine ae<|ap ?_
  exact bt [aP e p (S.dies id k R s T)] rfl ⟨rfl,.inr ⟨am,left,T,f9,d7,rfl⟩⟩<|Ent.cons<|Ent.drop.trans<|Ent.drop.trans Ent.drop
end Go.Y
