/- Slices of timers: Insert behind all, BinarySearchFunc ahead of nothing; the wheel's small closures. -/
import Derived.Test.YtkckgjpkkbkkgaaGreatDoorCoD
import Derived.LaidEql
import Derived.Test.YtkckgjpkkbkkgaaGreatDoorCoA
import Derived.Laws.Externs
import Derived.Lib.LaidTab
import Derived.Lib.ItoaNum
import Derived.Test.YtkckgjpkkbkkgaaGreatDoorCoC
import Derived.Test.YtkckgjpkkbkkgaaGreatDoorCoB
set_option maxHeartbeats 4000000
set_option maxRecDepth 100000
namespace Go.SL
open Go.RowKit
section
variable {P:Program} {ts:List (Nat×Value)}
def B9 (b:Nat) (w:World):Prop:=∃cs t,w.heap[b]?=some (.cells cs t (0,0))
theorem JG {t O e:TypeId} {x y:Operand} {b c m:Nat} {r:Bool} (E:P.underlying t=some (.pointer e)) (I:dm P e (m+1)) (T:ev ts x=some (.pointer (some ⟨b,0,none⟩))) (Y:ev ts y=some (.pointer (some ⟨c,0,none⟩))) (hr:decide (b=c)=r):Ev P ts (.binOp .eql t x y O) (.bool r) (λw=>B9 b w/\B9 c w):=by
 intro ac w _ _ _ _ _ K ⟨⟨cs,u,hb⟩,d6,u',hc⟩;subst hr;refine eT (K.eval T) (K.eval Y) (by simp[eqGuard]) (k9 Z λd=>?_)
 by_cases h:b=c
 · subst h
   simp[Op.equalIn,run_underlying E,cY I,run_sameAddr_same]
 · have:=run_sameAddr_other (P:=P) w (a:=⟨b,0,none⟩) (b:=⟨c,0,none⟩) cP hb hc
   simp[Op.equalIn,run_underlying E,cY I,this,h]
end
end Go.SL
namespace Go.Y
open Go.Proofs Go.RowKit Go.SL
variable {G:Env->Prop}
abbrev aX (b:Nat):Value:=.pointer (some ⟨b,0,none⟩)
abbrev ee (v:Value) (bs:List Nat):HP:=row 236 1 v bs.length (bs.map aX)
theorem CH:(Tryz.prog.info? 236).map (λi=>(i.zero,i.size,i.bytes))=some (some (.pointer none),1,8):=by kernel_rfl
structure Below' (p:HP) (bs:List Nat) (sq:Nat->Nat) (n:Nat):Prop where
 lt:∀b∈bs,sq b<n
 cell:∀w F,p.sat w F->∀b∈bs,w.cell? ⟨b,4,none⟩=some (.int .u64 (sq b))
section
variable {bs:List Nat} {A:Option Addr} {p:HP} {sq:Nat->Nat} {c n:Nat} {l r:List HP}
theorem Below'.at {E:Env} {b:Nat} (h:Below' p bs sq n) (s:Sel p l r) (I:b∈bs):∀w,Holds E w l->cR ⟨b,4,none⟩ (.int .u64 (sq b)) w:=λw hw=>by
 obtain⟨F1,_,_,_,_,K,_⟩:=(hw.sel s).star;exact h.cell w F1 K b I
theorem IP {a:Nat} (h:a<n) (E:n<9223372036854775808):IntKind.i64.wrap (IntKind.u64.wrap ((a:Int)-(n:Int)))=(a:Int)-n:=by
 rw[mM];have:((a:Int)-n)%18446744073709551616=(a:Int)-n+18446744073709551616:=ai;rw[this,IntKind.wrap_i64];omega
theorem put1 (K:Below' p bs sq n) (T:n<9223372036854775808) (b:Nat) (O:b∈bs):Does Tryz.prog G 173 [aX b,.int .u64 n].toArray [p] λv m=>v=.int .i64 ((sq b:Int)-n)/\m=[p]:=by
 have I:=K.lt b O;refine bz Tryz.func173 Z λE fr Y=>?_;exact ae<|sS<|sB Z<|sS<|dS 4 Z Z<|cE (aF Z) (K.at .head O)<|cG Z (cH Z Z Z)<|sP (bJ Z Z Z (IP I T))<|sB Z<|an<|aw [_] rfl Z ⟨rfl,rfl⟩ aN
theorem half (i n:Nat) (h:i<n) (K:n<=100000):((IntKind.u64.wrap ((i+n:Nat):Int))).fdiv (2 ^ min ((1:Int)).toNat IntKind.u64.bits)=(((i+n)/2:Nat):Int):=by
 rw[mM];have E:((i+n:Nat):Int)%18446744073709551616=((i+n:Nat):Int):=ai;have I:(2:Int) ^ min ((1:Int)).toNat IntKind.u64.bits=2:=rfl;rw[E,I,Int.fdiv_eq_ediv_of_nonneg _ ai];omega
theorem AG (hp:Below' p bs sq n) (hn:n<9223372036854775808) (hl:bs.length<=100000) :
 Does Tryz.prog G 172 [.slice A bs.length c,.int .u64 n,.func (.func 173) #[] #[]].toArray [ee (.slice A bs.length c) bs,p]
  λv m=>v=.tuple #[.int .i64 bs.length,.bool false]/\m=[ee (.slice A bs.length c) bs,p]:=by
 refine bz Tryz.func172 Z λE fr hE=>az<|aI .head ?_
 intro A' c' hA K I f7 d6 _;injection hA with hA _ d7;subst hA;subst d7;have f8:c<=9223372036854775807:=by unfold maxLen at d6;omega
 refine sS<|sA Z<|sB Z<|bg Z<|sP (bh Z Z)<|sB Z<|bg Z<|sA Z<|sB Z ?_
 refine sQ<|aj ?_
 refine aL (X:=Nat) (λi=>[(9,.int .i64 i),(10,.int .i64 bs.length),(8,.int .i64 bs.length),(0,.slice A bs.length c),(1,.int .u64 n),(2,.func (.func 173) #[] #[])]) (λ_=>ee (.slice A bs.length c) bs::p::fr) (λi=>i<=bs.length) (λi=>bs.length-i) 0 ai cf aN ?_;intro i hi;refine sQ<|bg Z<|cG Z (bB Z Z Z)<|sN ?_
 refine aA Z (λY=>?_) λY=>?_
 ·
  have d8:i<bs.length:=ai;obtain⟨g,rfl⟩:∃g,A=some ⟨g,0,none⟩:=by
   cases A with
   | none=>have:=(K rfl).1;omega
   | some ad=>obtain⟨g,rfl⟩:=I ad rfl;exact⟨g,rfl⟩
  obtain⟨h,hh⟩:∃h,h=(i+bs.length)/2:=⟨_,rfl⟩;have O:h<bs.length:=ai;obtain⟨b,hb⟩:∃b,bs[h]?=some b:=⟨bs[h],by simp[O]⟩;have T:=du hb;have d9:=hp.lt b T;refine ah<|sT<|aj<|bg Z<|cG Z (aT (r:=((i+bs.length:Nat):Int)) Z Z eg)<|sP (bJ Z Z Z Z) ?_
  refine sP (fU (r:=(h:Int)) Z Z ai (by rw[hh];exact half i bs.length d8 hl)) ?_;refine sP (bJ Z Z Z (iI ai))<|sB Z<|bg Z<|sM Z<|cG Z (bp (z:=1) Z Z Z Z O)<|cE (aF (v:=aX b) Z) (fg .head (by simp[hb]))<|sM Z ?_
  refine sO<|ct Z Z Z Z hE (put1 hp hn b T) gfE1 ?_
  rintro v m ⟨rfl,rfl⟩;refine ae<|sP (bB (r:=true) Z Z (by rw[decide_eq_true_eq];omega))<|sN<|aO Z<|sG<|cG Z (aT Z Z (iI ai))<|sA Z<|aq<|am ?_
  exact aC (h+1) ai ai cf<|Ent.perm<|List.Perm.swap _ _ _
 ·
  obtain rfl:i=bs.length:=ai;refine aK<|av<|au<|ao<|sT<|bg Z<|sM Z<|cG Z (bB (r:=false) Z Z cP)<|sM Z<|bQ Z<|bQ Z<|bQ Z<|bQ Z<|bQ Z<|bQ Z<|bQ Z<|bQ Z<|sP (aS Z Z Z)<|sA Z<|sA Z ?_
  exact sN<|an<|db [_,_] rfl Z Z ⟨rfl,rfl⟩ aN
theorem Bj {g t:Nat} (hl:bs.length<=100000) :
 Does Tryz.prog G 174 [.slice A bs.length c,.int .i64 bs.length,.slice (some ⟨g,0,none⟩) 1 1].toArray [ee (.slice A bs.length c) bs,blk g 236 #[aX t]]
  λv m=>(∃A' Y,v=.slice A' (bs++[t]).length Y)/\m=[ee v (bs++[t])]:=by
 refine bz Tryz.func174 Z λE fr hE=>az<|aI .head ?_
 intro A' Y I d6 K O d8 _;injection I with I _ T;subst I;subst T;refine sS<|sB Z<|bg Z<|cG Z (eG (z:=1) (a:=bs.length) (b:=bs.length) Z Z Z ⟨_,rfl⟩ rfl (cm _) O)<|sN<|bg Z<|sP (bh Z Z)<|sB Z<|sQ ?_
 refine bg Z<|sP (bC (r:=false) Z Z Z)<|sN<|ak Z<|ah<|sT<|bg Z<|sP (bh Z Z)<|sB Z<|sQ<|bg Z ?_
 refine cG Z (bC (r:=true) Z Z cP)<|sN<|aO Z<|bg Z<|sM Z ?_
 refine eu rfl (cU rfl rfl CH rfl ai rfl rfl .head (news:=[aX t]) rfl (λh=>by cases h) (iu (λj u h=>by simpa using h)) fx (by unfold maxLen;omega) ai λv' d7=>?_);refine aI .head ?_;rintro A7 c7 rfl _ _ _ _ _;refine sB Z<|an<|aH ?_
 exact aw [_] rfl Z ⟨⟨A7,c7,by simp⟩,rfl⟩ (by simp only[ee,List.length_append,List.map_append,List.length_cons,List.length_nil,List.map_cons,List.map_nil];exact Ent.cons Ent.drop)
def Blks (p:HP) (bs:List Nat):Prop:=∀w F,p.sat w F->∀b∈bs,B9 b w
theorem Blks.at {E:Env} {b:Nat} (h:Blks p bs) (s:Sel p l r) (I:b∈bs):∀w,Holds E w l->B9 b w:=λw hw=>by
 obtain⟨F1,_,_,_,_,K,_⟩:=(hw.sel s).star;exact h w F1 K b I
theorem drop1 (K:Blks p bs) (o t I:Nat) (O:o∈bs) (T:t∈bs):Does Tryz.prog G 170 [aX o,aX I].toArray [blk I 236 #[aX t],p] λv m=>v=.bool (decide (o=t))/\m=[blk I 236 #[aX t],p]:=by
 refine bz Tryz.func170 Z λE fr Y=>az<|sS<|sB Z<|bg Z<|aE Z Z Z Z ?_
 refine cE (JG (m:=6) Z Z Z Z Z) (λw hw=>⟨K.at bM O w hw,K.at bM T w hw⟩) ?_;exact sB Z<|an<|aw [_,_] rfl Z ⟨rfl,rfl⟩ aN
theorem Hg (hp:Blks p bs) {i t T:Nat} (hi:bs[i]?=some t) (d8:∀j,j<i->bs[j]?≠some t) (hl:bs.length<=100000) :
 Does Tryz.prog G 197 [.slice A bs.length c,.func (.func 170) #[] #[aX T]].toArray [ee (.slice A bs.length c) bs,blk T 236 #[aX t],p]
  λv m=>v=.int .i64 i/\m=[ee (.slice A bs.length c) bs,blk T 236 #[aX t],p]:=by
 have t6:=(gfGet.1 hi).1;refine bz Tryz.func197 Z λE fr hE=>cD<|aI .head ?_
 intro A' c' hA Y O f9 mt _;injection hA with hA _ d9;subst hA;subst d9;obtain⟨g,rfl⟩:∃g,A=some ⟨g,0,none⟩:=by
  cases A with
  | none=>have:=(Y rfl).1;omega
  | some ad=>obtain⟨g,rfl⟩:=O ad rfl;exact⟨g,rfl⟩
 refine sS<|sB Z<|sQ<|bg Z<|sP (bh Z Z)<|sM Z<|sN<|aj ?_
 refine aL (X:=Nat) (λk=>[(8,.int .i64 k),(7,.int .i64 bs.length),(0,.slice (some ⟨g,0,none⟩) bs.length c),(1,.func (.func 170) #[] #[aX T])]) (λ_=>ee (.slice (some ⟨g,0,none⟩) bs.length c) bs::blk T 236 #[aX t]::p::fr) (λk=>k<=i) (λk=>i-k) 0 ai cf aN ?_;intro k hk;refine sS<|sP (bB Z Z Z)<|sN<|sQ ?_
 refine aA Z (λc9=>?_) λc9=>?_
 ·
  have d6:k<bs.length:=ai;obtain⟨o,K⟩:∃o,bs[k]?=some o:=⟨bs[k],by simp[d6]⟩;have f7:=du K;have f8:=du hi;refine ah<|sT<|sQ<|aj<|bg Z<|sB Z<|bg Z<|sM Z<|cG Z (bp (z:=1) Z Z Z Z d6)<|cE (aF (v:=aX o) Z) (fg .head (by simp[K])) ?_
  refine sO<|ct Z Z Z Z hE (drop1 hp o t T f7 f8) (aY bM bM) ?_
  rintro v m ⟨rfl,rfl⟩;refine az<|sN ?_
  refine aA Z (λI=>?_) λI=>?_
  ·
   have d7:k=i:=Nat.le_antisymm hk (Nat.le_of_not_lt λh=>d8 k h (by rw[K,I]));subst d7;exact bg Z<|sB Z<|an<|aJ<|aH<|cu<|aJ<|aH<|aw [_,_,_] rfl Z ⟨rfl,rfl⟩<|dd dj .head .head
  ·
   have d7:k≠i:=λh=>I (by subst h;rw[hi] at K;injection K with K;exact K.symm);refine ah<|am<|sT<|sG<|sP (aT Z Z (iI ai))<|sM Z<|aq ?_
   exact aC (k+1) ai ai cf<|dd dj .head .head
 ·
  refine aK<|av<|au<|ao<|sT<|sS<|sB Z<|an ?_
  exact absurd hk ai
end
end Go.Y

namespace Go.SL
open Go.RowKit
def ky {α:Type}:List α->Nat->List α->List α
 | xs,_,[]=>xs
 | xs,o,v::vs=>ky (xs.set o v) (o+1) vs
theorem gp {α:Type}:∀(vs xs:List α) (o:Nat),(ky xs o vs).length=xs.length
 | [],_,_=>rfl
 | v::vs,xs,o=>by simp[ky,gp vs]
theorem jg {α:Type}:∀(vs xs:List α) (o j:Nat),(j<o\/o+vs.length<=j)->(ky xs o vs)[j]?=xs[j]?
 | [],_,_,_,_=>rfl
 | v::vs,xs,o,j,h=>by
  simp only[ky];rw[jg vs (xs.set o v) (o+1) j (by simp at h;omega),List.getElem?_set_ne (by simp at h;omega)]
theorem nt {α:Type}:∀(vs xs:List α) (o j:Nat) (u:α),o+vs.length<=xs.length->vs[j]?=some u->(ky xs o vs)[o+j]?=some u
 | [],_,_,_,_,_,h=>by simp at h
 | v::vs,xs,o,0,u,hl,h=>by
  simp at h hl;subst h;simp only[ky];rw[jg vs (xs.set o v) (o+1) (o+0) ai];simp only[Nat.add_zero] at hl ⊢;exact List.getElem?_set_self ai
 | v::vs,xs,o,j+1,u,hl,h=>by
  simp only[ky];have:=nt vs (xs.set o v) (o+1) j u (by simp at hl ⊢;omega) (by simpa using h);rw[show o+(j+1)=o+1+j by omega];exact this
theorem pQ {α:Type}:∀(vs xs:List α) (o k:Nat),(ky xs o vs).take k=ky (xs.take k) o vs
 | [],_,_,_=>rfl
 | v::vs,xs,o,k=>by simp only[ky];rw[pQ vs,List.take_set]
theorem jX:∀(vs:List Value) (cs:Array Value) (o:Nat),(iO cs o vs).toList=ky cs.toList o vs
 | [],_,_=>rfl
 | v::vs,cs,o=>by simp only[iO,ky];rw[jX vs];simp
section
variable {P:Program} {E:Env} {n:Nat} {D:List Deferred} {ts:List (Nat×Value)} {l:List HP} {ops:Array Oper} {Q:Exit->Act->World->Prop} {ty:TypeId} {pos:String} {af:Array Edge} {gd:Option (Nat×Bool)}
section
variable {K:Act->World->Prop} {y:Operand} {r:List HP} {e t:TypeId}
theorem fL {x:Operand} {g o m c size:Nat} {v:Value} {xs:List Value} (s:Sel (row e size (.slice (some ⟨g,0,none⟩) m c) m xs) l r) (hz:dm P t 1) (hx:ev ts x=some (.pointer (some ⟨g,o,none⟩))) (hy:ev ts y=some v) (hv:v.oneCell'=true)
 (ho:o<m*size) (h:At E n D ts (row e size (.slice (some ⟨g,0,none⟩) m c) m (xs.set o v)::r) K):At E n D ts l (λa w=>(Oper.mk none (.store t x y) ty pos af gd).wp P a w K Q):=by
 refine jQ s (λh _ _=>by cases h) ?_;intro g' cap T I _ hm hc hs ht;injection I with I _ O;injection I with I;injection I with I;subst I;subst O;have Y:o<T.size:=by rw[hs];exact Nat.lt_of_lt_of_le ho (Nat.mul_le_mul_right _ hm)
 refine cp Z hz hx hy hv Y<|al (dI hm hc (by rw[Array.size_setIfInBounds];exact hs) ?_) h
 rw[Array.toList_setIfInBounds,List.take_set,ht]
theorem eU {x:Operand} {g o m c size k:Nat} {vs xs:List Value} (s:Sel (row e size (.slice (some ⟨g,0,none⟩) m c) m xs) l r) (hz:dm P t k) (hk:vs.length=k) (hx:ev ts x=some (.pointer (some ⟨g,o,none⟩))) (hy:ev ts y=some (.agg vs.toArray)) (hv:∀u∈vs,u.oneCell'=true)
 (ho:o+k<=m*size) (h:At E n D ts (row e size (.slice (some ⟨g,0,none⟩) m c) m (ky xs o vs)::r) K):At E n D ts l (λa w=>(Oper.mk none (.store t x y) ty pos af gd).wp P a w K Q):=by
 refine jQ s (λh _ _=>by cases h) ?_;intro g' cap T I _ Y hc hs ht;injection I with I _ O;injection I with I;injection I with I;subst I;subst O;have d6:o+k<=T.size:=by rw[hs];exact Nat.le_trans ho (Nat.mul_le_mul_right _ Y)
 refine aZ Z hz hx hy hk hv ai<|al (dI Y hc (by rw[ib];exact hs) ?_) h
 rw[jX,pQ,ht]
end
end
end Go.SL

namespace Go.SL
open Go.RowKit
section
variable {P:Program} {E:Env} {n:Nat} {D:List Deferred} {ts:List (Nat×Value)} {l:List HP} {ops:Array Oper} {Q:Exit->Act->World->Prop} {ty:TypeId} {pos:String} {af:Array Edge} {g:Option (Nat×Bool)}
theorem GO {t e tb:TypeId} {x:Operand} {b o c:Nat} {z:Value} {cs:Array Value} {r:List HP} {d:Option Tmp} {K:Act->World->Prop} [hh:Has b l (.cells cs tb) r] (hd:d=none) (O:P.underlying t=some (.slice e)) (T:iM P e z) (I:z.cells=#[z])
 (Y:ev ts x=some (.slice (some ⟨b,o,none⟩) 1 c)) (hv:z.oneCell'=true) (hi:o<cs.size) (h:At E n D ts (blk b tb (cs.setIfInBounds o z)::r) K) :
 At E n D ts l (λa w=>(Oper.mk d (.call {callee:=.builtin .clear,args:=#[x],argTypes:=#[t]}) ty pos af g).wp P a w K Q):=λa w f hw=>by
 subst hd;have hb:=(hw.ob hh.sel).1;have:(execOp a.eval (Oper.mk none (.call {callee:=.builtin .clear,args:=#[x],argTypes:=#[t]}) ty pos af g)).run P w=.ok (.value (.tuple #[])) (w.setCell ⟨b,o,none⟩ z):=by
  simp[execOp,resolve,invoke,builtin,f.eval Y,Builtin.clear_,run_underlying O,iS T,I,Builtin.zeroCells,storeCells,add_plain,kK hb hi hv]
 show(Oper.mk none (.call {callee:=.builtin .clear,args:=#[x],argTypes:=#[t]}) ty pos af g).wp P a w K Q;unfold Oper.wp;rw[this];exact h a _ f<|hw.store hh.sel
theorem JE {t e:TypeId} {x o:Operand} {b m c a d:Nat} {k:IntKind} (K:P.underlying t=some (.slice e)) (O:dm P e 1) (T:ev ts x=some (.slice (some ⟨b,0,none⟩) m c)) (Y:ev ts o=some (.int k (a:Int))) (h1:a<=m) (h2:m<=c) (I:c≠a) (hd:m-a=d) :
 Ev P ts (.slice t x (some o) none none) (.slice (some ⟨b,a,none⟩) d (c-a)) Any:=by
 have:=eG (P:=P) (lo:=some o) (hi:=none) (a:=a) (b:=m) K O T ⟨k,Y⟩ rfl h1 h2;rw[if_neg I,hd] at this;simpa[add_plain] using this
theorem JF {t e:TypeId} {x o:Operand} {b m c a:Nat} {k:IntKind} (I:P.underlying t=some (.slice e)) (K:dm P e 1) (O:ev ts x=some (.slice (some ⟨b,0,none⟩) m c)) (T:ev ts o=some (.int k (a:Int))) (Y:a<=c) :
 Ev P ts (.slice t x none (some o) none) (.slice (some ⟨b,0,none⟩) a c) Any:=by
 have:=eG (P:=P) (lo:=none) (hi:=some o) (a:=0) (b:=a) I K O rfl ⟨k,T⟩ (Nat.zero_le _) Y;simpa[add_plain] using this
end
end Go.SL
namespace Go.Y
open Go.Proofs Go.RowKit Go.SL
variable {G:Env->Prop}
def kw (bs:List Nat) (i j:Nat):List Value:=((bs.eraseIdx i).take (j-1)++bs.drop (j-1)).map aX
theorem D5 (bs:List Nat) (i:Nat) (hi:i<bs.length):kw bs i (i+1)=bs.map aX:=by
 unfold kw;have:(bs.eraseIdx i).take i=bs.take i:=by
  rw[List.eraseIdx_eq_take_drop_succ,List.take_append_of_le_length (by simp;omega),List.take_take,Nat.min_self]
 rw[Nat.add_sub_cancel,this,List.take_append_drop]
theorem KU {bs:List Nat} {i j:Nat} {o:Nat} (K:i<j) (I:bs[j]?=some o):(kw bs i j)[j]?=some (aX o):=by
 have T:=(gfGet.1 I).1;unfold kw;rw[List.getElem?_map,List.getElem?_append_right (by simp[List.length_eraseIdx];split<;>omega)];have O:((bs.eraseIdx i).take (j-1)).length=j-1:=by simp[List.length_eraseIdx];split<;>omega
 rw[O,List.getElem?_drop,show j-1+(j-(j-1))=j by omega,I]
 rfl
theorem GT {bs:List Nat} {i j:Nat} {o:Nat} (O:i<j) (I:bs[j]?=some o):(kw bs i j).set (j-1) (aX o)=kw bs i (j+1):=by
 have hl:=(gfGet.1 I).1;have T:((bs.eraseIdx i).take (j-1)).length=j-1:=by simp[List.length_eraseIdx];split<;>omega
 have Y:(bs.eraseIdx i)[j-1]?=some o:=by
  rw[List.getElem?_eraseIdx,if_neg ai,show j-1+1=j by omega,I]
 have h3:bs.drop (j-1)=bs[j-1]::bs.drop j:=by
  rw[List.drop_eq_getElem_cons ai]
  congr 2
  omega
 unfold kw;rw[<-List.map_set,List.set_append_right _ _ ai,T,Nat.sub_self,h3,List.set_cons_zero,Nat.add_sub_cancel];have K:=fB Y;rw[show j-1+1=j by omega] at K;rw[K];simp
theorem Jh {bs:List Nat} {i:Nat} (hi:i<bs.length):(kw bs i bs.length).take (bs.length-1)=(bs.eraseIdx i).map aX:=by
 unfold kw;have I:(bs.eraseIdx i).length=bs.length-1:=by simp[List.length_eraseIdx,hi]
 rw[<-List.map_take,List.take_append_of_le_length (by simp[I]),List.take_take,Nat.min_self,List.take_of_length_le ai]
theorem JS {bs:List Nat} {i c:Nat} {I:Array Value} {z:Value} (O:I.size=c*1) (K:I.toList.take (bs.length*1)=kw bs i bs.length) (hc:bs.length<=c) (hi:i<bs.length):(I.setIfInBounds (bs.length-1) z).toList.take ((bs.length-1)*1)=(bs.eraseIdx i).map aX:=by
 rw[<-Jh hi,<-K,Array.toList_setIfInBounds,List.take_set,List.take_take];rw[List.set_eq_of_length_le (by simp;omega)]
 congr 1
 omega
theorem BK {p:HP} {bs:List Nat} (hp:Blks p bs) {A:Option Addr} {c i t T:Nat} (hi:bs[i]?=some t) (Y:∀j,j≠i->bs[j]?≠some t) (hl:bs.length<=100000) :
 Does Tryz.prog G 169 [.slice A bs.length c,.func (.func 170) #[] #[aX T]].toArray [ee (.slice A bs.length c) bs,blk T 236 #[aX t],p]
  λv m=>(∃A' c',v=.slice A' (bs.eraseIdx i).length c')/\m=[ee v (bs.eraseIdx i),blk T 236 #[aX t],p]:=by
 have O:=(gfGet.1 hi).1;refine bz Tryz.func169 Z λE fr hE=>cD<|aI .head ?_
 intro A' c' hA d6 I f9 mt _;injection hA with hA _ wf;subst hA;subst wf;have LC:c<=9223372036854775807:=by unfold maxLen at mt;omega
 obtain⟨g,rfl⟩:∃g,A=some ⟨g,0,none⟩:=by
  cases A with
  | none=>have:=(d6 rfl).1;omega
  | some ad=>obtain⟨g,rfl⟩:=I ad rfl;exact⟨g,rfl⟩
 refine sS<|sB Z<|bg Z<|sM Z ?_
 refine bV Z (Hg hp hi (λj hj=>Y j ai) hl) aN ?_;refine cD<|sB Z<|sQ<|bg Z<|sP (bC (r:=false) Z Z (by rw[decide_eq_false_iff_not];omega))<|sN<|ak Z<|ah<|sT<|sQ<|bg Z<|sP (aT Z Z (iI ai))<|sA Z ?_
 refine sN<|aj ?_
 refine aL (X:=Nat) (λj=>[(6,.int .i64 (j:Nat)),(5,.int .i64 (j-1:Nat)),(0,.slice (some ⟨g,0,none⟩) bs.length c),(1,.func (.func 170) #[] #[aX T])]) (λj=>row 236 1 (.slice (some ⟨g,0,none⟩) bs.length c) bs.length (kw bs i j)::blk T 236 #[aX t]::p::fr) (λj=>i<j/\j<=bs.length) (λj=>bs.length-j) (i+1) ai cf (by rw[D5 bs i O];exact aN) ?_;rintro j ⟨d7,hj⟩;refine sQ<|bg Z<|cG Z (bh Z Z)<|sP (bB Z Z Z)<|sN ?_
 refine aA Z (λf8=>?_) λf8=>?_
 ·
  have d9:j<bs.length:=ai;obtain⟨o,ho⟩:∃o,bs[j]?=some o:=⟨bs[j],by simp[d9]⟩;have BT:=du ho;have Fd:=du hi;have In:o≠t:=λh=>Y j ai (by rw[ho,h]);refine ah<|sT<|sQ<|aj<|bg Z<|cG Z (bp (z:=1) Z Z Z Z d9)<|cE (aF (v:=aX o) Z) (fg .head (by simpa using KU d7 ho))<|sB Z<|bg Z<|sM Z ?_
  refine sO<|ct Z Z Z Z hE (drop1 hp o t T BT Fd) (aY bM bM) ?_
  rintro v m ⟨rfl,rfl⟩;refine az<|sP (dp (r:=true) Z (by simp[In]))<|sN<|aO Z<|bg Z<|sM Z<|cG Z (bp (z:=1) Z Z Z Z (by omega:j-1<bs.length)) ?_
  refine sO<|fL dj Z Z Z Z ai ?_
  rw[show 0+(j-1)*1=j-1 by omega,GT d7 ho];refine sN<|sG<|cG Z (aT (r:=((j+1-1:Nat):Int)) Z Z eg)<|sA Z<|aq<|am<|sT<|sG<|cG Z (aT Z Z (iI ai))<|sA Z<|aq ?_
  exact aC (j+1) ai ai cf aN
 ·
  obtain rfl:j=bs.length:=ai;have f7:(bs.eraseIdx i).length=bs.length-1:=by simp[List.length_eraseIdx,O]
  have LB:¬c=bs.length-1:=ai;refine jQ .head (λh=>by cases h) ?_;intro g' cap t6 K _ hm t7 hs t8;injection K with K _ d8;injection K with K;injection K with K;subst K;subst d8;refine aK<|av<|au<|ao<|sT<|bg Z<|cG Z (JE (a:=bs.length-1) (d:=1) Z Z Z Z ai f9 LB ai) ?_
  refine sO<|GO (z:=.pointer none) (b:=g) (o:=bs.length-1) (c:=c-(bs.length-1)) (cs:=t6) Z Z Z Z Z Z ai ?_
  refine sN<|bg Z<|cG Z (JF (a:=bs.length-1) Z Z Z Z ai)<|sB Z<|an ?_
  exact aw [_,_,_] rfl Z ⟨⟨some ⟨g,0,none⟩,c,by rw[f7]⟩,rfl⟩ (by rw[ee,f7];exact dI ai t7 (by simpa using hs) (JS hs t8 ai O))
end Go.Y

namespace Go.SL
open Go.RowKit
section
variable {P:Program} {ts:List (Nat×Value)}
section
variable {y:Operand} {k:IntKind} {t t':TypeId}
theorem Ew {x:Operand} {s:ByteArray} {i:Nat} {b:UInt8} (I:P.underlying t=some .string) (K:ev ts x=some (.string s)) (O:ev ts y=some (.int k (i:Int))) (T:s[i]?=some b):Ev P ts (.index t x y) (.int .u8 b.toNat) Any:=by
 intro a w _ _ _ _ _ E _;simp[execOp,E.eval K,E.eval O,Instr.index,asIntOf,run_underlying I,T]
theorem rL {x:Operand} {a b r:Int} (I:ev ts x=some (.int k a)) (K:ev ts y=some (.int k b)) (O:max a b=r):Ev P ts (.call {callee:=.builtin .max,args:=#[x,y],argTypes:=#[t,t']}) (.int k r) Any:=by
 intro ac w _ _ _ _ _ E _;subst O;have:max a b=if b>a then b else a:=by split<;>omega
 simp[execOp,resolve,invoke,builtin,Builtin.max_,Builtin.max2,E.eval I,E.eval K,this]
theorem FV {x:Operand} {a b r:Int} (I:ev ts x=some (.int k a)) (K:ev ts y=some (.int k b)) (O:min a b=r):Ev P ts (.call {callee:=.builtin .min,args:=#[x,y],argTypes:=#[t,t']}) (.int k r) Any:=by
 intro ac w _ _ _ _ _ E _;subst O;have:min a b=if b<a then b else a:=by split<;>omega
 simp[execOp,resolve,invoke,builtin,Builtin.min_,Builtin.min2,E.eval I,E.eval K,this]
end
end
end Go.SL
namespace Go.Y
open Go.Proofs Go.RowKit Go.SL
variable {G:Env->Prop}
def gh (x:Nat):Nat:=if x=0 then 0 else Nat.log2 x+1
theorem ne {x:Nat} (k:Nat) (h:2 ^ k<=x):gh x=k+gh (x/2 ^ k):=by
 have E:0<2 ^ k:=Nat.two_pow_pos k;have I:x≠0:=ai;have K:x/2 ^ k≠0:=by
  have:=Nat.div_pos h E;omega
 unfold gh;rw[if_neg I,if_neg K];have T:Nat.log2 x=k+Nat.log2 (x/2 ^ k):=by
  rw[Nat.log2_eq_iff I];obtain⟨O,h3⟩:=(Nat.log2_eq_iff K).1 rfl;constructor
  · rw[Nat.pow_add,Nat.mul_comm]
    exact(Nat.le_div_iff_mul_le E).1 O
  · rw[show k+Nat.log2 (x/2 ^ k)+1=(Nat.log2 (x/2 ^ k)+1)+k by omega,Nat.pow_add]
    exact(Nat.div_lt_iff_lt_mul E).1 h3
 omega
def len8:ByteArray:=⟨((List.range 256).map λi=>UInt8.ofNat (gh i)).toArray⟩
theorem qv {i:Nat} (h:i<256):gh i<=8:=by
 unfold gh
 split
 · omega
 · rename_i E
   have:=(Nat.log2_lt E).2 (show i<2 ^ 8 by omega);omega
theorem Jm {i:Nat} (h:i<256):len8[i]?=some (UInt8.ofNat (gh i)):=by
 have:len8.data[i]?=some (UInt8.ofNat (gh i)):=by simp[len8,h]
 rw[<-this]
 rfl
theorem G0 {i:Nat} (h:i<256):(UInt8.ofNat (gh i)).toNat=gh i:=by
 have:=qv h;simp;omega
theorem oG (x k:Nat) (_hx:x<18446744073709551616) (I:k<=64):((x:Int)).fdiv (2 ^ min ((k:Int)).toNat IntKind.u64.bits)=((x/2 ^ k:Nat):Int):=by
 have E:min ((k:Int)).toNat IntKind.u64.bits=k:=by
  show min ((k:Int)).toNat 64=k;omega
 rw[E,Int.fdiv_eq_ediv_of_nonneg _ (Int.le_of_lt (Int.pow_pos ai))];simp
theorem Be (x:Nat) (hx:x<18446744073709551616):Does Tryz.prog G 171 [.int .u64 x].toArray [] λv m=>v=.int .i64 (gh x)/\m=[]:=by
 refine bz Tryz.func171 Z λE fr hE=>aB<|sS<|sB Z ?_
 refine sQ<|cT (X:=Nat×Nat) (λy=>[(0,.int .u64 y.1),(2,.int .i64 y.2)]) (λ_=>fr) (λy=>y.1<2 ^ 32/\gh x=y.2+gh y.1/\y.2<=32) ?_ ?_
 ·
  refine bg Z<|sP (n9 Z Z Z)<|sN ?_
  refine aA Z (λc4=>?_) λc4=>?_
  ·
   refine bg Z<|sP (fU (r:=((x/2 ^ 32:Nat):Int)) Z Z ai (oG x 32 hx ai))<|sB Z<|sG<|sA Z<|aq ?_
   exact bd (x/2 ^ 32,32) ⟨by simp only;omega,ne 32 ai,by simp⟩ cf aN
  ·
   refine ah ?_;exact bd (x,0) ⟨by simp only;omega,by simp,by simp⟩ cf aN
 rintro⟨T,n1⟩ ⟨d7,K,d8⟩;simp only at d7 K d8 ⊢;refine sQ<|cT (X:=Nat×Nat) (λy=>[(0,.int .u64 y.1),(2,.int .i64 y.2)]) (λ_=>fr) (λy=>y.1<2 ^ 16/\gh x=y.2+gh y.1/\y.2<=48) ?_ ?_
 ·
  refine bg Z<|sP (n9 Z Z Z)<|sN ?_
  refine aA Z (λc8=>?_) λc8=>?_
  ·
   refine bg Z<|sP (fU (r:=((T/2 ^ 16:Nat):Int)) Z Z ai (oG T 16 ai ai))<|sB Z<|sG<|cG Z (aT (r:=((n1+16:Nat):Int)) Z Z eg)<|sA Z<|aq ?_
   exact bd (T/2 ^ 16,n1+16) ⟨by simp only;omega,by rw[K,ne (x:=T) 16 ai];simp only;omega,by simp only;omega⟩ cf aN
  ·
   refine ah ?_;exact bd (T,n1) ⟨by simp only;omega,K,by simp only;omega⟩ cf aN
 rintro⟨Y,n2⟩ ⟨d9,O,f7⟩;simp only at d9 O f7 ⊢;refine sQ<|cT (X:=Nat×Nat) (λy=>[(0,.int .u64 y.1),(2,.int .i64 y.2)]) (λ_=>fr) (λy=>y.1<256/\gh x=y.2+gh y.1/\y.2<=56) ?_ ?_
 ·
  refine bg Z<|sP (n9 Z Z Z)<|sN ?_
  refine aA Z (λd6=>?_) λd6=>?_
  ·
   refine bg Z<|sP (fU (r:=((Y/2 ^ 8:Nat):Int)) Z Z ai (oG Y 8 ai ai))<|sB Z<|sG<|cG Z (aT (r:=((n2+8:Nat):Int)) Z Z eg)<|sA Z<|aq ?_
   exact bd (Y/2 ^ 8,n2+8) ⟨by simp only;omega,by rw[O,ne (x:=Y) 8 ai];simp only;omega,by simp only;omega⟩ cf aN
  ·
   refine ah ?_;exact bd (Y,n2) ⟨by simp only;omega,O,by simp only;omega⟩ cf aN
 rintro⟨x3,n3⟩ ⟨I,f8,f9⟩;simp only at I f8 f9 ⊢;have mt:=qv I;refine bg Z<|cG Z (bJ (r:=(x3:Int)) Z Z Z (wu8 ai))<|sP (Ew (s:=len8) Z eP Z (Jm I)) ?_
 refine sP (bJ (r:=(gh x3:Int)) Z Z Z (by rw[G0 I];exact iI ai)) ?_;exact sP (aT (r:=((gh x:Nat):Int)) Z Z eg)<|sB Z<|an<|aw [] rfl Z ⟨rfl,rfl⟩ aN
end Go.Y

namespace Go.Y
open Go.Proofs Go.RowKit Go.SL
open FK (gg dJ dc)
def zJ (n:Nat) (f:Nat->Value):Array Value:=((List.range n).map f).toArray
theorem Kt {n:Nat} (f:Nat->Value) {i:Nat} (h:i<n):(zJ n f)[i]?=some (f i):=by simp[zJ,h]
theorem gU (n:Nat) (f:Nat->Value):(zJ n f).size=n:=by simp[zJ]
theorem Dp {n:Nat} {f g:Nat->Value} (h:∀i,i<n->f i=g i):zJ n f=zJ n g:=by
 unfold zJ
 congr 1
 exact List.map_congr_left λi hi=>h i (List.mem_range.1 hi)
theorem IB (n:Nat) (f:Nat->Value) (i:Nat) (v:Value):(zJ n f).setIfInBounds i v=zJ n (gg f i v):=by
 apply Array.ext
 · simp[zJ]
 · intro j I K
   simp only[zJ,Array.size_setIfInBounds,List.size_toArray,List.length_map,List.length_range] at I
   by_cases E:i=j
   · subst E
     simp[zJ,gg]
   · rw[Array.getElem_setIfInBounds_ne (by simpa[zJ] using I) E]
     simp[zJ,gg,Ne.symm E]
attribute [irreducible] zJ
abbrev wc (f:Nat->Value):Array Value:=zJ 718 f
theorem ur (f:Nat->Value) {i:Nat} (h:i<718):(wc f)[i]?=some (f i):=Kt f h
theorem oM {f g:Nat->Value} (h:∀i,i<718->f i=g i):wc f=wc g:=Dp h
theorem lq (f:Nat->Value) (i:Nat) (v:Value):(wc f).setIfInBounds i v=wc (gg f i v):=IB 718 f i v
def fN (now seq:Nat) (sl:Nat->Value) (us:Nat->Nat) (mp:Nat):Nat->Value:=λi=>
 if i=0 then .int .u64 now else if i=1 then .int .u64 seq else if i<706 then sl (i-2) else if i<717 then .int .u64 (us (i-706)) else .map (some mp)
theorem pD (now seq:Nat) (sl:Nat->Value) (us:Nat->Nat) (mp E:Nat):wc (gg (fN now seq sl us mp) 0 (.int .u64 E))=wc (fN E seq sl us mp):=oM λi _=>by
 unfold gg fN
 by_cases h:i=0<;>simp[h]
theorem Do (now seq:Nat) (sl:Nat->Value) (us:Nat->Nat) (mp E:Nat):wc (gg (fN now seq sl us mp) 1 (.int .u64 E))=wc (fN now E sl us mp):=oM λi _=>by
 unfold gg fN
 by_cases h:i=1
 · simp[h]
 · simp[h]
theorem od (now seq:Nat) (sl:Nat->Value) (us:Nat->Nat) (mp:Nat) {k:Nat} (E:k<704) (v:Value):wc (gg (fN now seq sl us mp) (2+k) v)=wc (fN now seq (gg sl k v) us mp):=oM λi _=>by
 unfold fN
 by_cases h:i=2+k
 · subst h
   rw[dJ,if_neg ai,if_neg ai,if_pos ai,show 2+k-2=k by omega,dJ]
 · rw[dc _ _ h]
   split
   · rfl
   · split
     · rfl
     · split
       · rw[dc _ _ ai]
       · rfl
theorem oc (now seq:Nat) (sl:Nat->Value) (us:Nat->Nat) (mp:Nat) {k:Nat} (I:k<11) (E:Nat):wc (gg (fN now seq sl us mp) (706+k) (.int .u64 E))=wc (fN now seq sl (gg us k E) mp):=oM λi _=>by
 unfold fN
 by_cases h:i=706+k
 · subst h
   rw[dJ,if_neg ai,if_neg ai,if_neg ai,if_pos ai,show 706+k-706=k by omega,dJ]
 · rw[dc _ _ h]
   split
   · rfl
   · split
     · rfl
     · split
       · rfl
       · split
         · rw[dc _ _ ai]
         · rfl
theorem jx (now seq:Nat) (sl:Nat->Value) (us:Nat->Nat) (mp:Nat):(wc (fN now seq sl us mp))[0]?=some (.int .u64 now):=ur _ ai
theorem pE (now seq:Nat) (sl:Nat->Value) (us:Nat->Nat) (mp:Nat):(wc (fN now seq sl us mp))[1]?=some (.int .u64 seq):=ur _ ai
theorem kj (now seq:Nat) (sl:Nat->Value) (us:Nat->Nat) (mp:Nat) {k:Nat} (E:k<704):(wc (fN now seq sl us mp))[2+k]?=some (sl k):=by
 rw[ur _ ai];unfold fN;rw[if_neg ai,if_neg ai,if_pos ai,show 2+k-2=k by omega]
theorem nB (now seq:Nat) (sl:Nat->Value) (us:Nat->Nat) (mp:Nat) {k:Nat} (E:k<11):(wc (fN now seq sl us mp))[706+k]?=some (.int .u64 (us k)):=by
 rw[ur _ ai];unfold fN;rw[if_neg ai,if_neg ai,if_neg ai,if_pos ai,show 706+k-706=k by omega]
theorem iY (now seq:Nat) (sl:Nat->Value) (us:Nat->Nat) (mp:Nat):(wc (fN now seq sl us mp))[717]?=some (.map (some mp)):=ur _ ai
def mN (n:Nat) (sl:Nat->Value) (bs:Nat->List Nat):List HP:=(List.range n).map λi=>ee (sl i) (bs i)
abbrev nW (sl:Nat->Value) (bs:Nat->List Nat):List HP:=mN 704 sl bs
theorem Gl {n:Nat} (sl:Nat->Value) (bs:Nat->List Nat) {i:Nat} (h:i<n):(mN n sl bs)[i]?=some (ee (sl i) (bs i)):=by simp[mN,h]
theorem wH (n:Nat) (sl:Nat->Value) (bs:Nat->List Nat):(mN n sl bs).length=n:=by simp[mN]
theorem DD {n:Nat} (sl:Nat->Value) (bs:Nat->List Nat) (i:Nat) (v:Value) (b:List Nat):mN n (gg sl i v) (gg bs i b)=(mN n sl bs).set i (ee v b):=by
 unfold mN;apply List.ext_getElem
 · simp
 · intro j I K
   simp only[List.getElem_map,List.getElem_range,List.getElem_set]
   by_cases E:i=j
   · subst E
     simp[gg]
   · simp[gg,E,Ne.symm E]
attribute [irreducible] mN
section
variable {bs:Nat->List Nat} {sl:Nat->Value} {fr:List HP}
def j9 (sl:Nat->Value) (bs:Nat->List Nat):HP:=HP.all (nW sl bs)
def kG (sl:Nat->Value) (bs:Nat->List Nat) (i:Nat):HP:=HP.all ((nW sl bs).eraseIdx i)
theorem Ent.pick:∀{l:List HP} {i:Nat} {p:HP},l[i]?=some p->Ent l (p::l.eraseIdx i)
 | [],_,_,h=>by simp at h
 | q::l,0,p,h=>by
  simp at h;subst h;exact aN
 | q::l,i+1,p,h=>(Ent.cons (Ent.pick (l:=l) (by simpa using h))).trans (Ent.perm (List.Perm.swap _ _ _))
theorem tP:∀(l:List HP) (i:Nat) (p:HP),i<l.length->Ent (p::l.eraseIdx i) (l.set i p)
 | [],_,_,h=>by simp at h
 | q::l,0,p,_=>aN
 | q::l,i+1,p,h=>(Ent.perm (List.Perm.swap _ _ _)).trans (Ent.cons (tP l i p (by simpa using h)))
theorem mh {i:Nat} (hi:i<704):Ent (j9 sl bs::fr) (ee (sl i) (bs i)::kG sl bs i::fr):=
 (Ent.unall (m:=nW sl bs)).trans (((Ent.pick (Gl sl bs hi)).append fr).trans (Ent.cons (Ent.all (m:=(nW sl bs).eraseIdx i))))
theorem jW {i:Nat} (hi:i<704) {v:Value} {b:List Nat}:Ent (ee v b::kG sl bs i::fr) (j9 (gg sl i v) (gg bs i b)::fr):=by
 have E:=(tP (nW sl bs) i (ee v b) (by rw[wH];exact hi)).append fr;have e:(nW sl bs).set i (ee v b)=nW (gg sl i v) (gg bs i b):=(DD sl bs i v b).symm;rw[e] at E;exact((Ent.cons (Ent.unall (m:=(nW sl bs).eraseIdx i))).trans E).trans (Ent.all (m:=nW (gg sl i v) (gg bs i b)))
end
end Go.Y

namespace Go.SL
open Go.RowKit
section
variable {P:Program} {ts:List (Nat×Value)}
theorem fQ {t e:TypeId} {x y:Operand} {k:IntKind} {i b o o' n z:Nat} (E:P.underlying t=some (.array n e)) (I:dm P e z) (K:ev ts x=some (.pointer (some ⟨b,o,none⟩))) (O:ev ts y=some (.int k (i:Int))) (Y:i<n) (T:o+i*z=o') :
 Ev P ts (.indexAddr t x y) (.pointer (some ⟨b,o',none⟩)) Any:=by
 have:=Lh (P:=P) E I K O ai ai;subst T;simpa using this
end
end Go.SL
namespace Go.Y
open Go.Proofs Go.RowKit Go.SL
open FK (gg dJ dc)
variable {G:Env->Prop}
theorem wu64 {a:Nat} (h:a<18446744073709551616):IntKind.u64.wrap (a:Int)=(a:Int):=by rw[mM];omega
theorem Iz {a b:Nat} (E:a<18446744073709551616) (I:b<18446744073709551616):bits .xor .u64 (a:Int) (b:Int)=((a ^^^ b:Nat):Int):=by
 have K:a ^^^ b<18446744073709551616:=Nat.xor_lt_two_pow (n:=64) E I;have e:bits .xor .u64 (a:Int) (b:Int)=IntKind.u64.wrap (((BitVec.ofInt 64 (a:Int)) ^^^ (BitVec.ofInt 64 (b:Int))).toNat:Int):=rfl;rw[e,BitVec.toNat_xor,BitVec.ofInt_natCast,BitVec.ofInt_natCast,BitVec.toNat_ofNat,BitVec.toNat_ofNat,Nat.mod_eq_of_lt E,Nat.mod_eq_of_lt I,wu64 K]
theorem FC {a b:Nat} (E:a<18446744073709551616) (I:b<18446744073709551616):bits .or .u64 (a:Int) (b:Int)=((a|||b:Nat):Int):=by
 have K:a|||b<18446744073709551616:=Nat.or_lt_two_pow (n:=64) E I
 have e:bits .or .u64 (a:Int) (b:Int)=IntKind.u64.wrap (((BitVec.ofInt 64 (a:Int))|||(BitVec.ofInt 64 (b:Int))).toNat:Int):=rfl;rw[e,BitVec.toNat_or,BitVec.ofInt_natCast,BitVec.ofInt_natCast,BitVec.toNat_ofNat,BitVec.toNat_ofNat,Nat.mod_eq_of_lt E,Nat.mod_eq_of_lt I,wu64 K]
theorem CY {a s:Nat} (E:a<18446744073709551616) (I:s<64):bits .andNot .u64 (a:Int) ((2 ^ s:Nat):Int)=((FK.clr a s:Nat):Int):=by
 have K:(2:Nat) ^ s<18446744073709551616:=Nat.pow_lt_pow_right (a:=2) (m:=s) (n:=64) ai I;have e:bits .andNot .u64 (a:Int) ((2 ^ s:Nat):Int)=IntKind.u64.wrap (((BitVec.ofInt 64 (a:Int))&&&~~~ (BitVec.ofInt 64 ((2 ^ s:Nat):Int))).toNat:Int):=rfl;have O:a&&&(2 ^ 64-1-2 ^ s)=FK.clr a s:=by
  unfold FK.clr
  congr 1
  omega
 rw[e,BitVec.toNat_and,BitVec.toNat_not,BitVec.ofInt_natCast,BitVec.ofInt_natCast,BitVec.toNat_ofNat,BitVec.toNat_ofNat,Nat.mod_eq_of_lt E,Nat.mod_eq_of_lt K,O,wu64 (FK.clr_lt E)]
theorem wa {s:Nat} (E:s<64):IntKind.u64.wrap ((1:Int)*2 ^ min ((s:Int)).toNat IntKind.u64.bits)=((2 ^ s:Nat):Int):=by
 have I:(2:Nat) ^ s<18446744073709551616:=Nat.pow_lt_pow_right (a:=2) (m:=s) (n:=64) ai E;have K:min ((s:Int)).toNat IntKind.u64.bits=s:=by
  show min ((s:Int)).toNat 64=s;omega
 rw[K,Int.one_mul,show((2:Int) ^ s)=((2 ^ s:Nat):Int) by simp,wu64 I]
theorem Jl (x:Nat):(gh x-1)/6=Nat.log2 x/6:=by
 unfold gh
 split
 · rename_i h;subst h;rfl
 · rw[Nat.add_sub_cancel]
theorem G5 {x:Nat} (E:x<18446744073709551616):gh x<=64:=by
 unfold gh
 split
 · omega
 · rename_i I
   have:=(Nat.log2_lt I).2 (show x<2 ^ 64 from E);omega
abbrev Is (p:FK.Pl):Array Value:=#[.int .u64 p.run,.int .i64 p.node,.int .i64 p.what]
abbrev iW (p:FK.Pl):Value:=.agg (Is p)
abbrev gM (t:FK.Tmr):HP:=blk t.blk 239 #[.int .u64 t.key.run,.int .i64 t.key.node,.int .i64 t.key.what,.int .u64 t.due,.int .u64 t.seq,.int .i64 t.lvl,.int .i64 t.slot]
def i8 (l:List FK.Tmr):HP:=HP.all (l.map gM)
def fO (l:List FK.Tmr):List (FK.Pl×Value):=l.map λt=>(t.key,aX t.blk)
abbrev Dc (w:Nat) (S:FK.WS) (sl:Nat->Value) (mp:Nat):HP:=blk w 235 (wc (fN S.now S.seq sl S.us mp))
section
variable {a b l:List FK.Tmr} {r:List HP} {t:FK.Tmr} {S:FK.WS} {bs:List Nat}
def cb (w:Nat) (S:FK.WS):HP:=HP.ex λp:(Nat->Value)×Nat=>HP.all [Dc w S p.1 p.2,j9 p.1 S.bs,i8 S.tms,cA iW p.2 (fO S.tms)]
theorem dY {E:Env} {n:Nat} {D:List Deferred} {ts:List (Nat×Value)} {l:List HP} {K:Act->World->Prop} {w:Nat} (s:Sel (cb w S) l r)
 (h:∀sl mp,At E n D ts (Dc w S sl mp::j9 sl S.bs::i8 S.tms::cA iW mp (fO S.tms)::r) K):At E n D ts l K:=by
 exact cN s λp=>bl<|h p.1 p.2
theorem cV {w:Nat} {sl:Nat->Value} {mp:Nat}:Ent (Dc w S sl mp::j9 sl S.bs::i8 S.tms::cA iW mp (fO S.tms)::r) (cb w S::r):=
 (Ent.all (m:=[Dc w S sl mp,j9 sl S.bs,i8 S.tms,cA iW mp (fO S.tms)])).trans (Ent.ex (f:=λp:(Nat->Value)×Nat=>HP.all [Dc w S p.1 p.2,j9 p.1 S.bs,i8 S.tms,cA iW p.2 (fO S.tms)]) (sl,mp))
theorem tmrs_open:Ent (i8 (a++t::b)::r) (gM t::i8 (a++b)::r):=by
 refine(Ent.unall (m:=(a++t::b).map gM)).trans ?_;have h:((a++t::b).map gM++r).Perm (gM t::((a++b).map gM++r)):=by
  have:((a++t::b).map gM).Perm (gM t::(a++b).map gM):=by
   have E:=(List.perm_middle (a:=t) (l₁:=a) (l₂:=b)).map gM
   rwa [List.map_cons] at E
  exact this.append_right r
 exact(Ent.perm h).trans (Ent.cons (Ent.all (m:=(a++b).map gM)))
theorem tmrs_close:Ent (gM t::i8 (a++b)::r) (i8 (a++t::b)::r):=by
 refine(Ent.cons (Ent.unall (m:=(a++b).map gM))).trans ?_;have h:(gM t::((a++b).map gM++r)).Perm ((a++t::b).map gM++r):=by
  have:(gM t::(a++b).map gM).Perm ((a++t::b).map gM):=by
   have E:=((List.perm_middle (a:=t) (l₁:=a) (l₂:=b)).map gM).symm
   rwa [List.map_cons] at E
  exact this.append_right r
 exact(Ent.perm h).trans (Ent.all (m:=(a++t::b).map gM))
theorem mZ {w:World} {F:Nat->Prop} (h:(i8 l).sat w F) (E:t∈l):w.heap[t.blk]?=some (.cells #[.int .u64 t.key.run,.int .i64 t.key.node,.int .i64 t.key.what,.int .u64 t.due,.int .u64 t.seq,.int .i64 t.lvl,.int .i64 t.slot] 239):=
 (Star.mem h (List.mem_map_of_mem E)).2
theorem pB {E:Env} {m:List HP} {i:Nat} {v:Value} (s:Sel (i8 l) m r) (I:t∈l) (K:(#[Value.int .u64 t.key.run,.int .i64 t.key.node,.int .i64 t.key.what,.int .u64 t.due,.int .u64 t.seq,.int .i64 t.lvl,.int .i64 t.slot])[i]?=some v):∀w,Holds E w m->cR ⟨t.blk,i,none⟩ v w:=λw hw=>by
 obtain⟨F1,_,_,_,_,O,_⟩:=(hw.sel s).star;have:=mZ O I;simp[cR,World.cell?,this,K]
def Ix (l:List FK.Tmr) (b:Nat):Nat:=((l.find? (·.blk==b)).map (·.seq)).getD 0
theorem uF {b:Nat} (h:∃u∈l,u.blk=b):∃u∈l,u.blk=b/\Ix l b=u.seq:=by
 obtain⟨u,E,e⟩:=h;cases hf:l.find? (·.blk==b) with
 | none=>
  have:=List.find?_eq_none.1 hf u E;simp[e] at this
 | some v=>
  have I:=List.find?_some hf;exact⟨v,List.mem_of_find?_eq_some hf,by simpa using I,by simp[Ix,hf]⟩
theorem An {n:Nat} (h:∀b∈bs,∃u∈l,u.blk=b) (I:∀u∈l,u.blk∈bs->u.seq<n):Below' (i8 l) bs (Ix l) n:=by
 constructor
 · intro b E
   obtain⟨u,K,e,O⟩:=uF (h b E);rw[O];exact I u K (e▸E)
 · intro w F O b E
   obtain⟨u,K,e,T⟩:=uF (h b E);have:=mZ O K;rw[T,<-e];simp[World.cell?,this]
theorem Du (h:∀b∈bs,∃u∈l,u.blk=b):Blks (i8 l) bs:=by
 intro w F I b K;obtain⟨u,E,e⟩:=h b K;have:=mZ I E;rw[e] at this;exact⟨_,_,this⟩
theorem r9 {E:List Nat} (h:FK.Inv S E) (I:S.tms.length<=100000) {i:Nat} (hi:i<704):(S.bs i).length<=100000:=by
 rw[h.slot i hi,List.length_map];exact Nat.le_trans (List.length_filter_le _ _) I
end
end Go.Y

namespace Go.Y
open Go.Proofs Go.RowKit Go.SL Go.Extern
structure Good (E:Env):Prop where
 tab:∀w,E.is w->Tab w
 err:∀w,E.is w->w.cell? ⟨0,0,none⟩=some (.iface 257 (.agg #[.pointer (some ⟨Tryz.prog.globals.size,71,none⟩)]))
 syn:∀w,E.is w->∃t p,w.cell? ⟨3,0,none⟩=some (.iface t p)
 pow:∀w,E.is w->Lib.TabIs Tryz.prog w "internal/strconv.uint64pow10" .u64 Lib.pow10Tab
section
variable {args:Array Value} {w w':World} {v:Value}
noncomputable abbrev hnd (t:TypeId):Value:=.pointer (some ⟨Tryz.prog.globals.size,t,none⟩)
noncomputable abbrev rt (t:TypeId):Value:=.iface 257 (.agg #[hnd t])
noncomputable abbrev rv (t:TypeId) (b k:Nat):Value:=.agg #[hnd t,.pointer (some ⟨b,0,none⟩),.int .u64 k]
theorem gX {f:FuncId} {I:Func} {e:Array Value->Sem Value} (K:Tryz.prog.funcs[f]?=some I) (E:(I.name== "runtime.NumGoroutine")=false) (O:I.body.isNone=true) (T:Extern.findNext I=none) (Y:Extern.find I=some e)
 (h:(e args).run Tryz.prog w=.ok v w'):(callFunc f args).run Tryz.prog w=.ok (.value v) w':=by
 rw[run_callFunc_extern K E O T Y,h];rfl
theorem uw (h:Value) (w:World):(Go.method (Tryz.prog.types.size+Made.depth) 257 (.agg #[h]) "Kind").run Tryz.prog w=.ok (253,h) w:=by kernel_rfl
theorem E6 (h:Value) (w:World):(Go.method (Tryz.prog.types.size+Made.depth) 257 (.agg #[h]) "Elem").run Tryz.prog w=.ok (294,.agg #[h]) w:=by kernel_rfl
theorem nc (h:Value) (w:World):(Go.method (Tryz.prog.types.size+Made.depth) 257 (.agg #[h]) "Implements").run Tryz.prog w=.ok (295,.agg #[h]) w:=by kernel_rfl
theorem lw (h:Value) (w:World):(Go.method (Tryz.prog.types.size+Made.depth) 257 (.agg #[h]) "AssignableTo").run Tryz.prog w=.ok (292,.agg #[h]) w:=by kernel_rfl
theorem qu (h:Value) (w:World):(Go.method (Tryz.prog.types.size+Made.depth) 257 (.agg #[h]) "Comparable").run Tryz.prog w=.ok (293,.agg #[h]) w:=by kernel_rfl
theorem Ji (p:Addr) (w:World):(Go.method (Tryz.prog.types.size+Made.depth) 125 (.pointer (some p)) "Unwrap").run Tryz.prog w=.ok (286,.pointer (some p)) w:=by kernel_rfl
theorem B6 (h:((λargs=>ReflectliteValue.unpack (args.getD 0 (.tuple #[]))) args).run Tryz.prog w=.ok v w'):(callFunc 111 args).run Tryz.prog w=.ok (.value v) w':=
 gX (e:=(λargs=>ReflectliteValue.unpack (args.getD 0 (.tuple #[])))) Tryz.func111 eP eP eP eP h
theorem uB (t:Nat) (w:World):(callFunc 111 #[.iface 127 (.pointer (some ⟨t,0,none⟩))]).run Tryz.prog w=.ok (.value (rv 127 w.heap.size 150)) (w.alloc (.cells #[.pointer (some ⟨t,0,none⟩)] 127)):=B6 eP
theorem F9 (e:Addr) (w:World):(callFunc 111 #[.iface 125 (.pointer (some e))]).run Tryz.prog w=.ok (.value (rv 125 w.heap.size 150)) (w.alloc (.cells #[.pointer (some e)] 125)):=B6 eP
theorem Kd (h:((ReflectliteValue.methodAny (ReflectliteValue.valueError "reflectlite.Value.Type" 0) (λt _ _ _=>ReflectliteType.toType t)) args).run Tryz.prog w=.ok v w'):(callFunc 112 args).run Tryz.prog w=.ok (.value v) w':=
 gX (e:=(ReflectliteValue.methodAny (ReflectliteValue.valueError "reflectlite.Value.Type" 0) (λt _ _ _=>ReflectliteType.toType t))) Tryz.func112 eP eP eP eP h
theorem Fq (b:Nat) (w:World):(callFunc 112 #[rv 127 b 150]).run Tryz.prog w=.ok (.value (rt 127)) w:=Kd eP
theorem B5 (h:((ReflectliteType.abiMethod λt=>Functor.map (λa:Nat=>Value.int IntKind.u8 (a:Int)) (Rtype.kind t)) args).run Tryz.prog w=.ok v w'):(callFunc 253 args).run Tryz.prog w=.ok (.value v) w':=
 gX (e:=(ReflectliteType.abiMethod λt=>Functor.map (λa:Nat=>Value.int IntKind.u8 (a:Int)) (Rtype.kind t))) Tryz.func253 eP eP eP eP h
theorem FM (w:World):(callFunc 253 #[hnd 127]).run Tryz.prog w=.ok (.value (.int .u8 22)) w:=B5 eP
theorem J9 (w:World):(callFunc 253 #[hnd 125]).run Tryz.prog w=.ok (.value (.int .u8 22)) w:=B5 eP
theorem Kc (h:((ReflectliteType.method ReflectliteType.elem) args).run Tryz.prog w=.ok v w'):(callFunc 294 args).run Tryz.prog w=.ok (.value v) w':=
 gX (e:=(ReflectliteType.method ReflectliteType.elem)) Tryz.func294 eP eP eP eP h
theorem FW (w:World):(callFunc 294 #[.agg #[hnd 127]]).run Tryz.prog w=.ok (.value (rt 125)) w:=Kc eP
theorem Kb (h:((ReflectliteType.relation "Implements" ReflectliteType.implements_) args).run Tryz.prog w=.ok v w'):(callFunc 295 args).run Tryz.prog w=.ok (.value v) w':=
 gX (e:=(ReflectliteType.relation "Implements" ReflectliteType.implements_)) Tryz.func295 eP eP eP eP h
theorem qy (w:World):(callFunc 295 #[.agg #[hnd 125],rt 71]).run Tryz.prog w=.ok (.value (.bool true)) w:=Kb eP
theorem Ka (h:(ReflectliteType.typeOf args).run Tryz.prog w=.ok v w'):(callFunc 115 args).run Tryz.prog w=.ok (.value v) w':=
 gX (e:=ReflectliteType.typeOf) Tryz.func115 eP eP eP eP h
theorem ID (v:Value) (w:World):(callFunc 115 #[.iface 125 v]).run Tryz.prog w=.ok (.value (rt 125)) w:=Ka eP
theorem E9 (h:((ReflectliteType.relation "AssignableTo" ReflectliteType.assignableTo) args).run Tryz.prog w=.ok v w'):(callFunc 292 args).run Tryz.prog w=.ok (.value v) w':=
 gX (e:=(ReflectliteType.relation "AssignableTo" ReflectliteType.assignableTo)) Tryz.func292 eP eP eP eP h
theorem zH (w:World):(callFunc 292 #[.agg #[hnd 125],rt 125]).run Tryz.prog w=.ok (.value (.bool true)) w:=E9 eP
theorem find7 (h:((ReflectliteType.method λt=>do Rtype.noPackHeld "Comparable" t;pure (.bool (<-typeInfo t).comparable)) args).run Tryz.prog w=.ok v w'):(callFunc 293 args).run Tryz.prog w=.ok (.value v) w':=
 gX (e:=(ReflectliteType.method λt=>do Rtype.noPackHeld "Comparable" t;pure (.bool (<-typeInfo t).comparable))) Tryz.func293 eP eP eP eP h
theorem Dr (t:Nat) (w:World):(callFunc 111 #[.iface 131 (.pointer (some ⟨t,0,none⟩))]).run Tryz.prog w=.ok (.value (rv 131 w.heap.size 150)) (w.alloc (.cells #[.pointer (some ⟨t,0,none⟩)] 131)):=B6 eP
theorem F8 (x:Int) (w:World):(callFunc 111 #[.iface 33 (.int .i64 x)]).run Tryz.prog w=.ok (.value (rv 33 w.heap.size 130)) (w.alloc (.cells #[.int .i64 x] 33)):=B6 eP
theorem Kv (b:Nat) (w:World):(callFunc 112 #[rv 131 b 150]).run Tryz.prog w=.ok (.value (rt 131)) w:=Kd eP
theorem K3 (w:World):(callFunc 253 #[hnd 131]).run Tryz.prog w=.ok (.value (.int .u8 22)) w:=B5 eP
theorem kindN (w:World):(callFunc 253 #[hnd 33]).run Tryz.prog w=.ok (.value (.int .u8 2)) w:=B5 eP
theorem Ln (w:World):(callFunc 294 #[.agg #[hnd 131]]).run Tryz.prog w=.ok (.value (rt 33)) w:=Kc eP
theorem y7 (w:World):(callFunc 295 #[.agg #[hnd 33],rt 71]).run Tryz.prog w=.ok (.value (.bool true)) w:=Kb eP
theorem qX (v:Value) (w:World):(callFunc 115 #[.iface 33 v]).run Tryz.prog w=.ok (.value (rt 33)) w:=Ka eP
theorem zG (w:World):(callFunc 292 #[.agg #[hnd 33],rt 33]).run Tryz.prog w=.ok (.value (.bool true)) w:=E9 eP
theorem qK (w:World):(callFunc 293 #[.agg #[hnd 33]]).run Tryz.prog w=.ok (.value (.bool true)) w:=find7 eP
theorem xc (w:World):(callFunc 292 #[.agg #[hnd 33],rt 125]).run Tryz.prog w=.ok (.value (.bool false)) w:=E9 eP
theorem rlm (z:Sem Value) (f:TypeId->Addr->Nat->Nat->Sem Value) (v:Value) :
 ReflectliteValue.method z f #[v]=(do match<-ReflectliteValue.parts v with|none=>z|some (t,a,fl)=>f t a fl (fl%32)):=rfl
theorem rls (v x:Value):ReflectliteValue.set #[v,x]=(do
 let(some (dst,a,fl),some (src,b,_)):=(<-ReflectliteValue.parts v,<-ReflectliteValue.parts x)
  | unsupported (.noEntry "extern/(internal/reflectlite.Value).Set.zeroValue")
 if fl/ReflectliteValue.flagAddr%2==0 then unsupported (.noEntry "extern/(internal/reflectlite.Value).Set.unaddressable")
 let val<-loadVar src b
 if<-Rtype.directlyAssignable dst src then storeVar dst a val
 else if<-Rtype.implements dst src then
  if (<-Rtype.kind src)==20 then
   match val with
   | .nilIface=>unsupported (.noEntry "extern/reflectlite: a nil value of one interface type handed on as a value of another")
   | _=>storeVar dst a val
  else storeVar dst a (.iface src val)
 else panicString ("reflectlite.Set: value of type "++(<-Rtype.spelt src)++ " is not assignable to type "++(<-Rtype.spelt dst))
 pure (.tuple #[])):=rfl
theorem vp (h:((ReflectliteValue.method (ReflectliteValue.valueError "reflectlite.Value.IsNil" 0) ReflectliteValue.isNil) args).run Tryz.prog w=.ok v w'):(callFunc 113 args).run Tryz.prog w=.ok (.value v) w':=
 gX (e:=(ReflectliteValue.method (ReflectliteValue.valueError "reflectlite.Value.IsNil" 0) ReflectliteValue.isNil)) Tryz.func113 eP eP eP eP h
theorem xY (h:((ReflectliteValue.method (ReflectliteValue.valueError "reflectlite.Value.Elem" 0) ReflectliteValue.elem) args).run Tryz.prog w=.ok v w'):(callFunc 150 args).run Tryz.prog w=.ok (.value v) w':=
 gX (e:=(ReflectliteValue.method (ReflectliteValue.valueError "reflectlite.Value.Elem" 0) ReflectliteValue.elem)) Tryz.func150 eP eP eP eP h
theorem CM (h:(ReflectliteValue.set args).run Tryz.prog w=.ok v w'):(callFunc 151 args).run Tryz.prog w=.ok (.value v) w':=
 gX (e:=ReflectliteValue.set) Tryz.func151 eP eP eP eP h
theorem Cq (b:Nat) (w:World):(ReflectliteValue.parts (rv 127 b 150)).run Tryz.prog w=.ok (some (127,⟨b,0,none⟩,150)) w:=by kernel_rfl
theorem I3 (b:Nat) (w:World):(ReflectliteValue.parts (rv 125 b 406)).run Tryz.prog w=.ok (some (125,⟨b,0,none⟩,406)) w:=by kernel_rfl
theorem I1 (b:Nat) (w:World):(ReflectliteValue.parts (rv 125 b 150)).run Tryz.prog w=.ok (some (125,⟨b,0,none⟩,150)) w:=by kernel_rfl
theorem mkF (b:Nat) (w:World):(ReflectliteValue.mk 125 ⟨b,0,none⟩ ReflectliteValue.flagAddr).run Tryz.prog w=.ok (rv 125 b 406) w:=by kernel_rfl
theorem JL (w:World):(Rtype.elem? 127).run Tryz.prog w=.ok (some 125) w:=by kernel_rfl
theorem JQ (w:World):(Rtype.directlyAssignable 125 125).run Tryz.prog w=.ok true w:=by kernel_rfl
theorem CE (a p:Nat) (w:World) (E:cR ⟨a,0,none⟩ (.pointer (some ⟨p,0,none⟩)) w):(callFunc 113 #[rv 127 a 150]).run Tryz.prog w=.ok (.value (.bool false)) w:=
 vp (by
  rw[rlm];simp only[Sem.run_bind,Cq,Result.andThen];have:=gz (P:=Tryz.prog) (t:=127) eP E;simp[ReflectliteValue.isNil,this,Result.andThen])
theorem Lm (a p:Nat) (w:World) (E:cR ⟨a,0,none⟩ (.pointer (some ⟨p,0,none⟩)) w):(callFunc 150 #[rv 127 a 150]).run Tryz.prog w=.ok (.value (rv 125 p 406)) w:=
 xY (by
  rw[rlm];simp only[Sem.run_bind,Cq,Result.andThen];have:=gz (P:=Tryz.prog) (t:=127) eP E;simp[ReflectliteValue.elem,this,Result.andThen,JL,mkF])
theorem setF (E b:Nat) (e:Addr) (old:Value) (w:World) (I:cR ⟨b,0,none⟩ (.pointer (some e)) w) (K:w.heap[E]?=some (.cells #[old] 125)) :
 (callFunc 151 #[rv 125 E 406,rv 125 b 150]).run Tryz.prog w=.ok (.value (.tuple #[])) (w.setCell ⟨E,0,none⟩ (.pointer (some e))):=
 CM (by
  rw[rls];simp only[Sem.run_bind,I3,I1,Result.andThen];have O:=gz (P:=Tryz.prog) (t:=125) eP I;have T:=kK (P:=Tryz.prog) (i:=0) (v:=.pointer (some e)) K cP rfl;have h3:=cY (P:=Tryz.prog) (t:=125) (n:=1) (by unfold dm;kernel_rfl) w;simp[ReflectliteValue.flagAddr,O,Result.andThen,JQ,storeVar,Value.cells,storeCells,Addr.add,T,h3])
theorem Cp (b:Nat) (w:World):(ReflectliteValue.parts (rv 131 b 150)).run Tryz.prog w=.ok (some (131,⟨b,0,none⟩,150)) w:=by kernel_rfl
theorem I2 (b:Nat) (w:World):(ReflectliteValue.parts (rv 33 b 386)).run Tryz.prog w=.ok (some (33,⟨b,0,none⟩,386)) w:=by kernel_rfl
theorem I0 (b:Nat) (w:World):(ReflectliteValue.parts (rv 33 b 130)).run Tryz.prog w=.ok (some (33,⟨b,0,none⟩,130)) w:=by kernel_rfl
theorem mkN (b:Nat) (w:World):(ReflectliteValue.mk 33 ⟨b,0,none⟩ ReflectliteValue.flagAddr).run Tryz.prog w=.ok (rv 33 b 386) w:=by kernel_rfl
theorem JK (w:World):(Rtype.elem? 131).run Tryz.prog w=.ok (some 33) w:=by kernel_rfl
theorem JP (w:World):(Rtype.directlyAssignable 33 33).run Tryz.prog w=.ok true w:=by kernel_rfl
theorem Js (a p:Nat) (w:World) (E:cR ⟨a,0,none⟩ (.pointer (some ⟨p,0,none⟩)) w):(callFunc 113 #[rv 131 a 150]).run Tryz.prog w=.ok (.value (.bool false)) w:=
 vp (by
  rw[rlm];simp only[Sem.run_bind,Cp,Result.andThen];have:=gz (P:=Tryz.prog) (t:=131) eP E;simp[ReflectliteValue.isNil,this,Result.andThen])
theorem Ll (a p:Nat) (w:World) (E:cR ⟨a,0,none⟩ (.pointer (some ⟨p,0,none⟩)) w):(callFunc 150 #[rv 131 a 150]).run Tryz.prog w=.ok (.value (rv 33 p 386)) w:=
 xY (by
  rw[rlm];simp only[Sem.run_bind,Cp,Result.andThen];have:=gz (P:=Tryz.prog) (t:=131) eP E;simp[ReflectliteValue.elem,this,Result.andThen,JK,mkN])
theorem setN (E b:Nat) (e:Int) (old:Value) (w:World) (I:cR ⟨b,0,none⟩ (.int .i64 e) w) (K:w.heap[E]?=some (.cells #[old] 33)) :
 (callFunc 151 #[rv 33 E 386,rv 33 b 130]).run Tryz.prog w=.ok (.value (.tuple #[])) (w.setCell ⟨E,0,none⟩ (.int .i64 e)):=
 CM (by
  rw[rls];simp only[Sem.run_bind,I2,I0,Result.andThen];have O:=gz (P:=Tryz.prog) (t:=33) eP I;have T:=kK (P:=Tryz.prog) (i:=0) (v:=.int .i64 e) K cP rfl;have h3:=cY (P:=Tryz.prog) (t:=33) (n:=1) (by unfold dm;kernel_rfl) w;simp[ReflectliteValue.flagAddr,O,Result.andThen,JP,storeVar,Value.cells,storeCells,Addr.add,T,h3])
end
abbrev eh (f:FuncId) (a:List Value):=Does Tryz.prog Good f a.toArray
abbrev dZ (G:Env->Prop) (f:FuncId) (a:List Value):=Does Tryz.prog G f a.toArray
end Go.Y

namespace Go.Y
open Go.Proofs Go.RowKit Go.SL
open FK (gg dJ dc)
theorem xD {G:Env->Prop} {S:FK.WS} {a b:List FK.Tmr} {t:FK.Tmr} {rest:List Nat} (w:Nat) (h:FK.Inv S (t.blk::rest)) (hS:S.tms=a++t::b) (LK:S.seq<9223372036854775808) (LL:S.tms.length<=99999)
 (Y:∀u∈S.tms,u.blk∉t.blk::rest->u.pos=(t.place S.now).pos->u.seq<t.seq) :
 dZ G 141 [aX w,aX t.blk] [cb w S] λv m=>v=.tuple #[]/\m=[cb w (S.put a t b)]:=by
 have d7:t∈S.tms:=by rw[hS];simp
 obtain⟨k1,k2,T⟩:=FK.sg h d7;obtain⟨LM,LN⟩:=FK.jA (f:=FK.Tmr.blk) (t:=t) (by rw[<-hS];exact h.blks);obtain⟨I,f8⟩:∃I,I=FK.jY S.now t.due:=⟨_,rfl⟩;obtain⟨st,f9⟩:∃st,st=FK.zL I t.due:=⟨_,rfl⟩;obtain⟨k,hk⟩:∃k,k=64*I+st:=⟨_,rfl⟩;have d8:t.place S.now={t with lvl:=I,slot:=st}:=by subst f9;subst f8;rfl
 have mt:(t.place S.now).pos=k:=by rw[d8,hk];rfl
 rw[d8] at k1 k2;replace k1:I<11:=k1;replace k2:st<64:=k2;rw[mt] at T Y;have O:=h.due t d7;have LH:S.now<=t.due:=O.1;have LJ:t.due<=4611686018427387904:=O.2;have t6:t.due ^^^ S.now<18446744073709551616:=Nat.xor_lt_two_pow (n:=64) (show t.due<18446744073709551616 by omega) (show S.now<18446744073709551616 by omega);have LQ:=G5 t6;have t7:(gh (t.due ^^^ S.now)-1)/6=I:=by rw[Jl,f8];rfl
 have d9:t.due/2 ^ (6*I)%64=st:=by rw[f9,<-FK.rD];rfl
 have t8:t.due/2 ^ (6*I)<=t.due:=Nat.div_le_self _ _;have wf:=r9 h ai T;have LD:=h.uslt I k1;have LR:=h.seqle t d7;have f7:∀x∈S.bs k,∃u∈a++b,u.blk=x:=λx hx=>by
  obtain⟨u,K,e,_,d6⟩:=h.of_slot T hx;rw[hS] at K;rcases List.mem_append.1 K with K|K
  · exact⟨u,by simp[K],e⟩
  · rcases List.mem_cons.1 K with rfl|K
    · simp at d6
    · exact⟨u,by simp[K],e⟩
 have BT:Below' (i8 (a++b)) (S.bs k) (Ix (a++b)) t.seq:=An f7 λu K LB=>by
  have Fd:u∈S.tms:=by
   rw[hS];rcases List.mem_append.1 K with K|K<;>simp[K]
  obtain⟨x,hx,e,hp,d6⟩:=h.of_slot T LB;have:x=u:=FK.fX h.blks hx Fd e;subst this;exact Y x Fd d6 hp
 obtain⟨q,hq⟩:∃q,q=t.due/2 ^ (6*I):=⟨_,rfl⟩;rw[<-hq] at d9 t8;have LE:(2:Nat) ^ st<18446744073709551616:=Nat.pow_lt_pow_right (a:=2) (m:=st) (n:=64) ai k2;have In:S.put a t b={S with us:=gg S.us I (S.us I|||2 ^ st),bs:=gg S.bs k (S.bs k++[t.blk]),tms:=a++{t with lvl:=I,slot:=st}::b}:=by
  unfold FK.WS.put;rw[mt,d8]
 have LF:fO (a++t::b)=fO (a++{t with lvl:=I,slot:=st}::b):=by simp[fO]
 clear O;refine bz Tryz.func141 Z λE fr hE=>ae (dY .head λsl mp=>?_);rw[hS];refine al (l':=ee (sl k) (S.bs k)::kG sl S.bs k::gM t::i8 (a++b)::Dc w S sl mp::cA iW mp (fO (a++t::b))::fr) ?_ ?_
 · refine(Ent.perm (List.Perm.swap _ _ _)).trans ((mh T).trans (Ent.cons (Ent.cons ?_)))
   refine(Ent.perm (List.Perm.swap _ _ _)).trans (tmrs_open.trans ?_);exact aN
 refine aI .head ?_;intro A c hA LG LC LO LP _;rw[hA];refine sQ<|sZ Z<|eI Z Z<|cJ Z Z<|dv 3 Z Z Z<|bZ Z (aF Z) (ag Z)<|cJ Z Z<|dv 0 Z Z Z<|bZ Z (aF Z) (ag (jx _ _ _ _ _))<|bF Z (Ld (r:=((t.due ^^^ S.now:Nat):Int)) Z Z (Iz ai ai)) ?_
 refine cK 10 Z<|cF Z (Be _ t6) aN ?_
 rintro v m ⟨rfl,rfl⟩;refine aB<|dK [true,true] (aa (ag (jx _ _ _ _ _)) (aa (ag Z) ab))<|dr 11 Z (cH (r:=((gh (t.due ^^^ S.now):Int)-1)) Z Z (by rw[iI ai]))<|bF Z (rL (r:=((gh (t.due ^^^ S.now)-1:Nat):Int)) Z Z ai)<|bF Z (n8 (r:=(I:Int)) Z Z ai (by rw[<-t7,Int.tdiv_eq_ediv_of_nonneg ai,iI ai];omega))<|dv 5 Z Z Z ?_
 refine cK 16 Z<|cp Z Z Z Z Z ii ?_
 refine dK [false,false] ab<|dE<|sT<|sQ<|sZ Z<|eI Z Z<|cJ Z Z<|dv 3 Z Z Z<|bZ Z (aF Z) (ag Z)<|cJ Z Z<|dv 5 Z Z Z<|bZ Z (aF Z) (ag Z)<|bF Z (l5 (r:=((6*I:Nat):Int)) Z Z (by rw[iI ai];simp)) ?_
 refine dr 10 Z (fU (r:=(q:Int)) Z Z ai (by rw[hq];exact oG t.due (6*I) ai ai)) ?_;refine dr 11 Z (bJ (r:=(q:Int)) Z Z Z (iI ai))<|bF Z (lZ (r:=(st:Int)) Z Z ai (by rw[Int.tmod_eq_emod_of_nonneg ai];omega))<|dv 6 Z Z Z ?_
 refine cK 15 Z<|cp Z Z Z Z Z ii ?_
 refine dK [false,false] ab<|dE<|sT<|sQ<|sZ Z<|eI Z Z<|cJ Z Z<|dv 5 Z Z Z<|bZ Z (aF Z) (ag Z)<|cJ Z Z<|dv 6 Z Z Z<|bZ Z (aF Z) (ag Z)<|dv 2 Z Z Z<|bF Z (fQ (i:=I) (z:=64) (o':=2+64*I) Z Z Z Z k1 ai)<|bF Z (fQ (i:=st) (z:=1) (o':=2+k) Z Z Z Z k2 ai)<|bF Z (aQ Z)<|dE ?_
 refine sT<|sQ<|sZ Z<|eI Z Z<|bF Z (cv Z)<|bZ Z (aF (v:=.slice A (S.bs k).length c) Z) (ag (by rw[kj _ _ _ _ _ T,hA]))<|cJ Z Z<|dv 4 Z Z Z<|bZ Z (aF Z) (ag Z) ?_
 refine cK 7 Z<|cF Z (AG BT ai wf) (aY bM dj) ?_
 rintro v m ⟨rfl,rfl⟩;refine az<|dK [false,false] ab<|dr 8 Z (bn Z)<|bF Z (bA Z Z)<|bF Z (bA Z Z)<|bF Z (aQ Z)<|bF Z (aQ Z)<|dE<|sT<|bg Z<|sM Z<|dA Z<|cE (aF (v:=.slice A (S.bs k).length c) Z) (ag (by rw[kj _ _ _ _ _ T,hA]))<|sM Z<|sM Z<|sO (eE Z Z Z Z Z Z λg=>?_)
 refine ch Z (Bj wf) (aY bM .head) ?_;rintro v m ⟨⟨A',c',rfl⟩,rfl⟩;refine ae<|dA Z<|bK Z Z Z Z (by rw[gU];omega) ?_
 rw[lq,od _ _ _ _ _ T];refine sN<|sZ Z<|eI Z Z<|cJ Z Z<|dv 5 Z Z Z<|bZ Z (aF Z) (ag Z)<|dv 706 Z Z Z<|bF Z (fQ (i:=I) (z:=1) (o':=706+I) Z Z Z Z k1 ai)<|bZ Z (aF Z) (ag (nB _ _ _ _ _ k1))<|cJ Z Z<|dv 6 Z Z Z<|bZ Z (aF Z) (ag Z)<|bF Z (mV (r:=((2 ^ st:Nat):Int)) Z Z ai (wa k2)) ?_
 refine dr 14 Z (xp (r:=((S.us I|||2 ^ st:Nat):Int)) Z Z (FC LD LE)) ?_;refine dr 15 Z (cv Z)<|bF Z (bL 706 Z)<|bF Z (fQ (i:=I) (z:=1) (o':=706+I) Z Z Z Z k1 ai) ?_
 refine cK 18 Z<|cp Z Z Z Z Z (by rw[gU];omega) ?_
 rw[lq,oc _ _ _ _ _ k1];refine dK [false,false,false] ab<|dE ?_
 rw[In];refine bm [_] rfl ⟨rfl,rfl⟩ ?_;rw[LF];refine(aY bM gC).trans ((jW T).trans ?_);refine(aY (p:=gM {t with lvl:=I,slot:=st}) gC dj).trans (tmrs_close.trans ?_);exact(aY dj bM).trans (cV (S:={S with us:=gg S.us I (S.us I|||2 ^ st),bs:=gg S.bs k (S.bs k++[t.blk]),tms:=a++{t with lvl:=I,slot:=st}::b}) (sl:=gg sl k _) (mp:=mp))
def J2 (us:Nat->Nat) (v:Value):Prop:=
 ∃(l s:Nat) (any:Bool),v=.tuple #[.int .i64 (l:Int),.int .i64 (s:Int),.bool any]/\
  (any=true->l<11/\s<64/\(us l).testBit s=true/\(∀j,j<s->(us l).testBit j=false)/\∀k,k<l->us k=0)/\(any=false->∀k,k<11->us k=0)
def Kh (us:Nat->Nat):List Value:=(List.range 11).map λl=>.int .u64 (us l)
theorem Fo (us:Nat->Nat) {l:Nat} (h:l<11):(Kh us)[l]?=some (.int .u64 (us l)):=by simp[Kh,h]
theorem Ku (us:Nat->Nat) {l:Nat} {v:Value} (h:(Kh us)[l]?=some v):l<11:=by
 have:=(gfGet.1 h).1;simpa[Kh] using this
theorem By (w now seq:Nat) (sl:Nat->Value) (us:Nat->Nat) (mp:Nat) (d7:∀l,l<11->us l<18446744073709551616) :
 eh 205 [aX w] [blk w 235 (wc (fN now seq sl us mp))] λv m=>J2 us v/\m=[blk w 235 (wc (fN now seq sl us mp))]:=by
 refine bz Tryz.func205 Z λE fr hE=>ae<|sS<|sA Z<|sA Z<|sB Z<|sQ<|sS<|dS 706 Z Z ?_
 refine lH rfl (pc (n:=11) (vs:=Kh us) rfl rfl (by simp[Kh]) rfl) (BY (λj v T=>by have hl:=Ku us T;rw[Fo us hl] at T;injection T with T;subst T;exact nB _ _ _ _ _ hl)) ?_;refine sM Z<|sN<|aj ?_
 refine aL (X:=Nat) (λi=>[(11,.int .i64 i),(10,.agg (Kh us).toArray),(0,aX w)]) (λ_=>blk w 235 (wc (fN now seq sl us mp))::fr) (λi=>i<=11/\∀k,k<i->us k=0) (λi=>11-i) 0 ⟨ai,by simp⟩ cf aN ?_;rintro i ⟨hi,O⟩;refine sS<|sP (bB Z Z Z)<|sN<|sQ ?_
 refine aA Z (λd8=>?_) λd8=>?_
 ·
  have K:i<11:=ai;have Y:=d7 i K;refine ah<|sT<|sQ<|aj<|bg Z<|sP (sx (v:=.int .u64 (us i)) Z Z Z Z Z K (by simpa using Fo us K))<|sA Z<|sB Z<|bg Z<|sP (dq Z Z Z)<|sN ?_
  refine aA Z (λd9=>?_) λd9=>?_
  ·
   have d6:us i≠0:=ai;have I:=rx (us i) Y d6;refine bg Z<|sM Z ?_
   refine sO<|KR Z Z Z (λw hw=>(tc (us i) Y d6 w (hE.tab w hw.is)).mono λe w' ⟨he,f7⟩=>⟨_,he,(rfl:_=Value.int .i64 ((Lib.ctz 64 (us i):Nat):Int)),f7▸Below.refl _ _⟩) ?_
   rintro v rfl;refine sA Z<|sA Z<|sB Z<|an<|aJ<|aH<|cu<|aJ<|aH ?_
   exact fM [_] rfl rfl rfl rfl ⟨⟨i,_,true,rfl,(λ_=>⟨K,I.2.2,I.1,I.2.1,O⟩),(λh=>by cases h)⟩,rfl⟩ aN
  ·
   refine ah<|am<|sT<|sG<|sP (aT Z Z (iI ai))<|sM Z<|aq ?_
   exact aC (i+1) ⟨ai,λk hk=>by rcases Nat.lt_or_ge k i with h|h;exact O k h;obtain rfl:k=i:=ai;omega⟩ ai cf aN
 ·
  refine aK<|av<|au<|ao<|sT<|sS<|sA Z<|sA Z<|sB Z<|an ?_
  exact fM [_] rfl rfl rfl rfl ⟨⟨0,0,false,rfl,(λh=>by cases h),λ_ k hk=>O k ai⟩,rfl⟩ aN
end Go.Y

namespace Go.Y
open Go.Proofs Go.RowKit Go.SL
open FK (gg dJ dc)
theorem BZ:KeyK Tryz.prog 157 FK.Pl iW:=
 K5 (arr:=Is) eP eP (λa=>by cases a;kernel_rfl) (λa b=>by cases a;cases b;kernel_rfl) (λa b=>by rw[Bool.eq_iff_iff,FK.Pl.beq_iff,FK.Pl.beq_iff];exact eq_comm) (λa b h=>(FK.Pl.beq_iff a b).1 h) (λa=>by simp[Instr.sameBits,Is])
abbrev iq (p:FK.Pl):List Value:=[.int .u64 p.run,.int .i64 p.node,.int .i64 p.what]
section
variable {a b:List FK.Tmr} {t:FK.Tmr} {S:FK.WS} {G:Env->Prop}
theorem JV (h:((a++t::b).map FK.Tmr.key).Nodup):er (fO (a++t::b)) t.key=some (aX t.blk):=by
 have K:=(FK.jA h).1;unfold er fO;rw[List.map_append,List.find?_append];have:(a.map λt=>(t.key,aX t.blk)).find? (·.1==t.key)=none:=by
  rw[List.find?_eq_none];intro p I;obtain⟨u,E,rfl⟩:=List.mem_map.1 I;simpa using K u E
 rw[this];simp
theorem C3 {l:List FK.Tmr} {k:FK.Pl} (h:k∉l.map FK.Tmr.key):er (fO l) k=none:=by
 unfold er fO;rw[Option.map_eq_none_iff,List.find?_eq_none];intro p I;obtain⟨u,E,rfl⟩:=List.mem_map.1 I;have:u.key≠k:=λe=>h (e▸List.mem_map_of_mem E);simpa using this
theorem Lp (h:((a++t::b).map FK.Tmr.key).Nodup):(fO (a++t::b)).eraseP (·.1==t.key)=fO (a++b):=by
 have K:=(FK.jA h).1;unfold fO;rw[List.map_append,List.map_append,List.eraseP_append_right,List.map_cons,List.eraseP_cons_of_pos]
 · simp
 · intro p I
   obtain⟨u,E,rfl⟩:=List.mem_map.1 I;simpa using K u E
theorem qG:∀{l:List Nat} {i x:Nat},l.Nodup->l[i]?=some x->l.erase x=l.eraseIdx i
 | [],_,_,_,h=>by simp at h
 | y::l,0,x,_,h=>by
  simp at h;subst h;simp
 | y::l,i+1,x,hn,h=>by
  rw[List.nodup_cons] at hn;have I:x∈l:=du (by simpa using h);have E:(y==x)=false:=by
   simp only[beq_eq_false_iff_ne];rintro rfl;exact hn.1 I
  rw[List.erase_cons_tail (by simp[E]),List.eraseIdx_cons_succ,qG hn.2 (by simpa using h)]
theorem AE {E:List Nat} (h:FK.Inv S E) {i:Nat} (hi:i<704):(S.bs i).Nodup:=by
 rw[h.slot i hi];exact h.blks.sublist<|List.filter_sublist.map _
theorem EE (w:Nat) (k:FK.Pl) (I:k∉S.tms.map FK.Tmr.key) :
 dZ G 140 [aX w,iW k] [cb w S] λv m=>v=.tuple #[]/\m=[cb w S]:=by
 refine bz Tryz.func140 Z λE fr K=>ae (dY .head λsl mp=>(sS (sO (cL Z Z λb3=>(sN (sQ (sZ Z (eI Z Z (bF Z (cv Z) (bF Z (bL 717 Z) (bZ Z (aF Z) (ag (iY _ _ _ _ _)) (bZ Z (bR (vs:=iq k) Z) (aR Z) (bZ Z (nL (m:=fO S.tms) Z BZ Z Z Z (C3 I)) (iN lp) (cJ Z Z (bF Z (bA Z Z) (bF Z (bA Z Z) (tV Z (cX (z:=.pointer none) Z λO=>(dK [true,true,true] (aa (iN tY) (aa (aR Z) (aa (ag (iY _ _ _ _ _)) ab))) ?_)))))))))))))))))));refine cK 10 Z<|cp Z Z Z Z Z ii ?_
 exact dK [false,false,false] ab<|dr 11 Z (aQ Z)<|dE<|sT<|sQ<|bg Z<|sP (dp Z Z)<|sN<|aO Z<|an<|aH<|de [_] rfl ⟨rfl,rfl⟩<|Ent.drop.trans<|Ent.drop.trans<|cV (S:=S) (sl:=sl) (mp:=mp)
theorem vx (w:Nat) (h:FK.Inv S []) (Y:S.tms=a++t::b) (BT:S.tms.length<=99999) :
 dZ G 140 [aX w,iW t.key] [cb w S] λv m=>v=.tuple #[]/\m=[cb w (S.drop a t b),gM t]:=by
 have I:t∈S.tms:=by rw[Y];simp
 obtain⟨k1,k2⟩:=h.lvl' I cP;have T:=h.pos I cP;obtain⟨k,hk⟩:∃k,k=t.pos:=⟨_,rfl⟩;have LC:k=64*t.lvl+t.slot:=hk;have f9:t.blk∈S.bs k:=by rw[hk];exact h.mem_slot I cP
 rw[<-hk] at T;have mt:=h.uslt t.lvl k1;have t6:=r9 h ai T;have hnd:=AE h T;obtain⟨i,d9,hi⟩:=List.getElem_of_mem f9;have d7:(S.bs k)[i]?=some t.blk:=by rw[List.getElem?_eq_getElem d9,hi]
 have t7:∀j,j≠i->(S.bs k)[j]?≠some t.blk:=λj hj e=>by
  obtain⟨Fd,f7⟩:=gfGet.1 e;exact hj ((List.getElem_inj hnd).1 (f7.trans hi.symm))
 have d8:(S.bs k).erase t.blk=(S.bs k).eraseIdx i:=by
  exact qG hnd d7
 have t8:Blks (i8 S.tms) (S.bs k):=Du λx hx=>by
  obtain⟨u,hu,e,_⟩:=h.of_slot T hx;exact⟨u,hu,e⟩
 have LD:(2:Nat) ^ t.slot<18446744073709551616:=Nat.pow_lt_pow_right (a:=2) (m:=t.slot) (n:=64) ai k2;have K:=h.keys;rw[Y] at K;refine bz Tryz.func140 Z λE fr hE=>ae (dY .head λsl mp=>?_);refine al (l':=ee (sl k) (S.bs k)::kG sl S.bs k::Dc w S sl mp::i8 S.tms::cA iW mp (fO (a++t::b))::fr) ?_ ?_
 · refine(Ent.perm (List.Perm.swap _ _ _)).trans ((mh T).trans (Ent.cons (Ent.cons ?_)))
   rw[<-Y];exact aN
 refine aI .head ?_;intro A c hA wf f8 In LB _;rw[hA];refine sS<|sO (cL Z Z λb3=>(sN (sQ (sZ Z (eI Z Z (bF Z (cv Z) (bF Z (bL 717 Z) (bZ Z (aF Z) (ag (iY _ _ _ _ _)) (bZ Z (bR (vs:=iq t.key) Z) (aR Z) (bZ Z (lS Z BZ Z Z (JV K)) (iN tY) (cJ Z Z (bF Z (bA Z Z) (bF Z (bA Z Z) (tV Z (cX (z:=.pointer none) Z λb4=>(dK [true,true,true] (aa (iN De) (aa (aR Z) (aa (ag (iY _ _ _ _ _)) ab))) ?_))))))))))))))))
 refine cK 10 Z<|cp Z Z Z Z Z ii ?_
 refine dK [false,false,false] ab<|dr 11 Z (aQ Z)<|dE<|sT<|sQ<|bg Z<|sP (dp Z Z)<|sN<|ak Z<|ah<|sT<|sQ<|sZ Z<|eI Z Z<|dv 717 Z Z Z<|bZ Z (aF Z) (ag (iY _ _ _ _ _)) ?_
 refine iJ 4 Z (bR (vs:=iq t.key) Z) (aR Z)<|tV Z<|vR Z Z BZ Z Z De ?_
 rw[Lp K];refine dK [false,false] ab<|dE<|sT<|sQ<|sZ Z<|eI Z Z<|bZ Z (aF Z) (ag Z)<|dv 5 Z Z Z<|bZ Z (aF Z) (pB De I Z)<|bZ Z (aF Z) (ag Z)<|dv 6 Z Z Z<|bZ Z (aF Z) (pB De I Z)<|dv 2 Z Z Z<|bF Z (fQ (i:=t.lvl) (z:=64) (o':=2+64*t.lvl) Z Z Z Z k1 ai)<|bF Z (fQ (i:=t.slot) (z:=1) (o':=2+k) Z Z Z Z k2 ai)<|bF Z (aQ Z)<|dE ?_
 refine sT<|bg Z<|sM Z<|dA Z<|cE (aF (v:=.slice A (S.bs k).length c) Z) (ag (by rw[kj _ _ _ _ _ T,hA])) ?_
 refine sP (ew Z Z) ?_;refine ch Z (BK t8 d7 t7 t6) (dd gC bM lp) ?_;rintro v m ⟨⟨A',c',rfl⟩,rfl⟩;refine cD<|dA Z<|bK Z Z Z Z (by rw[gU];omega) ?_
 rw[lq,od _ _ _ _ _ T];refine sN<|bg Z<|dA Z<|cE (aF (v:=.slice A' ((S.bs k).eraseIdx i).length c') Z) (ag (by rw[kj _ _ _ _ _ T,dJ]))<|sP (bh Z Z)<|sP (bC Z Z Z)<|sN ?_
 refine aA Z (λd6=>?_) λd6=>?_
 ·
  have he:(S.bs k).eraseIdx i=[]:=List.eq_nil_of_length_eq_zero ai;have O:S.drop a t b={S with us:=gg S.us t.lvl (FK.clr (S.us t.lvl) t.slot),bs:=gg S.bs k ((S.bs k).eraseIdx i),tms:=a++b}:=by
   unfold FK.WS.drop;rw[<-hk,d8,if_pos he]
  refine sZ Z<|eI Z Z<|bZ Z (aF Z) (ag Z)<|dv 5 Z Z Z<|bZ Z (aF Z) (pB gC I Z)<|dv 706 Z Z Z<|bF Z (fQ (i:=t.lvl) (z:=1) (o':=706+t.lvl) Z Z Z Z k1 ai)<|bZ Z (aF Z) (ag (nB _ _ _ _ _ k1))<|bZ Z (aF Z) (ag Z)<|dv 6 Z Z Z<|bZ Z (aF Z) (pB gC I Z)<|bF Z (mV (r:=((2 ^ t.slot:Nat):Int)) Z Z ai (wa k2))<|bF Z (vr (r:=((FK.clr (S.us t.lvl) t.slot:Nat):Int)) Z Z (CY mt k2))<|dv 706 Z Z Z<|bF Z (fQ (i:=t.lvl) (z:=1) (o':=706+t.lvl) Z Z Z Z k1 ai) ?_
  refine cK 18 Z<|cp Z Z Z Z Z (by rw[gU];omega) ?_
  rw[lq,oc _ _ _ _ _ k1];refine dK [false,false,false,false,false] ab<|dE ?_
  rw[O];refine bm [_,_] rfl ⟨rfl,rfl⟩ ?_;rw[Y];refine((Ent.drop1 dj).trans (Ent.drop1 lp)).trans ((aY bM gC).trans ((jW T).trans ?_));refine gfE2.trans<|tmrs_open.trans ?_
  exact((dd gC dj bM).trans (Ent.cons (Ent.cons (Ent.cons (Ent.perm (List.Perm.swap _ _ _)))))).trans (cV (S:={S with us:=gg S.us t.lvl (FK.clr (S.us t.lvl) t.slot),bs:=gg S.bs k ((S.bs k).eraseIdx i),tms:=a++b}) (sl:=gg sl k _) (mp:=mp))
 ·
  have he:¬(S.bs k).eraseIdx i=[]:=λe=>d6 (by rw[e];rfl);have O:S.drop a t b={S with us:=S.us,bs:=gg S.bs k ((S.bs k).eraseIdx i),tms:=a++b}:=by
   unfold FK.WS.drop;rw[<-hk,d8,if_neg he]
  refine ah ?_;rw[O];refine bm [_,_] rfl ⟨rfl,rfl⟩ ?_;rw[Y];refine((Ent.drop1 dj).trans (Ent.drop1 lp)).trans ((aY bM gC).trans ((jW T).trans ?_));refine gfE2.trans<|tmrs_open.trans ?_
  exact((dd gC dj bM).trans (Ent.cons (Ent.cons (Ent.cons (Ent.perm (List.Perm.swap _ _ _)))))).trans (cV (S:={S with us:=S.us,bs:=gg S.bs k ((S.bs k).eraseIdx i),tms:=a++b}) (sl:=gg sl k _) (mp:=mp))
end
end Go.Y

namespace Go.Y
open Go.Proofs Go.RowKit Go.SL
open FK (gg dJ dc)
section
variable {l:Nat} {a b:List FK.Tmr} {t:FK.Tmr} {S:FK.WS}
theorem KG {x:Nat} (K:x<=4611686018427387904) (O:l<11):((x:Int)).fdiv (2 ^ min (((6*(l+1):Nat):Int)).toNat IntKind.u64.bits)=((x/64 ^ (l+1):Nat):Int):=by
 rw[FK.rD]
 by_cases h:6*(l+1)<=64
 · exact oG x _ ai h
 · obtain rfl:l=10:=ai
   have E:min (((6*(10+1):Nat):Int)).toNat IntKind.u64.bits=64:=rfl;rw[E,Int.fdiv_eq_ediv_of_nonneg _ (Int.le_of_lt (Int.pow_pos ai))];have I:x/2 ^ (6*(10+1))=0:=Nat.div_eq_of_lt ai;rw[I];omega
theorem KI {x:Nat} (O:x<=4611686018427387904) (T:l<11):IntKind.u64.wrap (((x/64 ^ (l+1):Nat):Int)*2 ^ min (((6*(l+1):Nat):Int)).toNat IntKind.u64.bits)=((x/64 ^ (l+1)*64 ^ (l+1):Nat):Int):=by
 have E:=Nat.div_mul_le_self x (64 ^ (l+1))
 by_cases h:6*(l+1)<=64
 · have I:min (((6*(l+1):Nat):Int)).toNat IntKind.u64.bits=6*(l+1):=by
    show min (((6*(l+1):Nat):Int)).toNat 64=_;omega
   have h3:((x/64 ^ (l+1):Nat):Int)*2 ^ (6*(l+1))=((x/64 ^ (l+1)*64 ^ (l+1):Nat):Int):=by
    rw[Int.natCast_mul,FK.rD (l+1)]
    congr 1
   rw[I,h3];exact wu64 ai
 · obtain rfl:l=10:=ai
   have K:x/64 ^ (10+1)=0:=Nat.div_eq_of_lt ai;rw[K];simp[mM]
theorem KH {s:Nat} (I:s*64 ^ l<=4611686018427387904) (K:l<11):IntKind.u64.wrap ((s:Int)*2 ^ min (((6*l:Nat):Int)).toNat IntKind.u64.bits)=((s*64 ^ l:Nat):Int):=by
 have E:min (((6*l:Nat):Int)).toNat IntKind.u64.bits=6*l:=by
  show min (((6*l:Nat):Int)).toNat 64=_;omega
 have h3:(s:Int)*2 ^ (6*l)=((s*64 ^ l:Nat):Int):=by
  rw[Int.natCast_mul,FK.rD l]
  congr 1
 rw[E,h3];exact wu64 ai
theorem GI {x s:Nat} (E:s<64):x/64 ^ (l+1)*64 ^ (l+1)|||s*64 ^ l=FK.cx x l s:=by
 have I:s*64 ^ l<2 ^ (6*(l+1)):=by
  rw[<-FK.rD,Nat.pow_succ,Nat.mul_comm (64 ^ l)];exact Nat.mul_lt_mul_of_pos_right E<|Nat.pow_pos ai
 unfold FK.cx;rw[FK.rD (l+1),Nat.mul_comm (x/2 ^ (6*(l+1)))];exact(Nat.two_pow_add_eq_or_of_lt I _).symm
theorem xv {α:Type} (f:Nat->α) (i:Nat):gg f i (f i)=f:=by
 funext j
 by_cases h:j=i
 · subst h;exact dJ _ _ _
 · exact dc _ _ h
theorem uc {sl:Nat->Value} {bs:Nat->List Nat} {i:Nat} {v:Value} (hi:i<704) (E:sl i=v) {fr:List HP}:Ent (ee v (bs i)::kG sl bs i::fr) (j9 sl bs::fr):=by
 have:=jW (sl:=sl) (bs:=bs) (v:=v) (b:=bs i) (fr:=fr) hi
 rwa [<-E,xv,xv,E] at this
theorem CC (t:FK.Tmr):∀(j:Nat) (v:Value),(iq t.key)[j]?=some v->(#[Value.int .u64 t.key.run,.int .i64 t.key.node,.int .i64 t.key.what,.int .u64 t.due,.int .u64 t.seq,.int .i64 t.lvl,.int .i64 t.slot])[0+0+j]?=some v:=λj v h=>by
 rcases j with _|_|_|j
 · exact h
 · exact h
 · exact h
 · simp at h
theorem tmKey {E:Env} {l:List FK.Tmr} {m r:List HP} (s:Sel (i8 l) m r) (I:t∈l):∀w,Holds E w m->jb t.blk (0+0) (iq t.key) w:=λw hw j v K=>by
 obtain⟨F1,_,_,_,_,O,_⟩:=(hw.sel s).star;have:=mZ O I;simp only[World.cell?,this];simpa using CC t j v K
def PopR (w:Nat) (S:FK.WS) (up:Nat) (v:Value) (m:List HP):Prop:=
 (∃(S':FK.WS) (x:FK.Pl×Nat),FK.IsMin (S.tms.map FK.kd) x (S'.tms.map FK.kd)/\x.2<=up/\FK.Inv S' []/\S'.now=x.2/\S'.seq=S.seq/\v=.tuple #[iW x.1,.int .u64 x.2,.bool true]/\m=[cb w S'])\/
 (∃S':FK.WS,(∀y∈S.tms.map FK.kd,up<y.2)/\S'.tms.map FK.kd=S.tms.map FK.kd/\FK.Inv S' []/\S'.now=up/\S'.seq=S.seq/\v=.tuple #[iW ⟨0,0,0⟩,.int .u64 0,.bool false]/\m=[cb w S'])
theorem FN (h:a.map FK.kd=b.map FK.kd):a.length=b.length:=by
 have:=congrArg List.length h;simpa using this
theorem K7 (h:S.tms=a++t::b):(S.put a t b).tms.map FK.kd=S.tms.map FK.kd:=by
 rw[h];simp[FK.WS.put,FK.kd,FK.Tmr.place]
theorem GH (w up:Nat) (h:FK.Inv S []) (LP:S.now<=up) (f7:up<=4611686018427387904) (L5:S.seq<9223372036854775808) (LF:S.tms.length<=99999) :
 eh 179 [aX w,.int .u64 up] [cb w S] (PopR w S up):=by
 refine bz Tryz.func179 Z λE fr hE=>ae<|sS<|sO (cX (z:=iW ⟨0,0,0⟩) Z λb4=>(sA Z (sB Z (sQ (aj ?_)))))
 refine aL (X:=FK.WS×Nat) (λp=>[(0,aX w),(1,.int .u64 up),(4,aX b4)]) (λp=>cb w p.1::blk b4 157 (Is ⟨0,0,0⟩)::fr) (λp=>FK.Inv p.1 []/\p.1.now<=up/\p.1.seq=S.seq/\p.1.tms.map FK.kd=S.tms.map FK.kd/\(p.1.tms=[]\/∃t∈p.1.tms,t.lvl<p.2)) (λp=>p.2) (S,11) ⟨h,LP,rfl,rfl,by
 cases hc:S.tms with
 | nil=>exact .inl rfl
 | cons t l=>exact .inr ⟨t,by simp,(h.lvl' (t:=t) (by rw[hc];simp) cP).1⟩⟩ ⟨rfl,rfl,rfl,trivial⟩ (Ent.perm (List.Perm.swap _ _ _)) ?_
 rintro⟨T,B⟩ ⟨hT,d8,I,K,hB⟩;replace hT:FK.Inv T []:=hT;replace d8:T.now<=up:=d8;replace I:T.seq=S.seq:=I;replace K:T.tms.map FK.kd=S.tms.map FK.kd:=K;have LM:T.tms.length<=99999:=by rw[FN K];exact LF
 refine dY .head λsl mp=>aj<|bg Z ?_
 refine ch Z (By w T.now T.seq sl T.us mp hT.uslt) aN ?_;rintro v m ⟨⟨l,s,any,rfl,LL,In⟩,rfl⟩;refine ae<|sM Z<|bG Z Z<|bG Z Z<|bG Z Z<|sA Z<|sA Z<|sB Z<|sQ<|bg Z<|sP (dp Z Z)<|sN ?_
 refine dQ Z (λBT=>?_) λBT=>?_
 ·
  have ha:any=false:=by simpa using BT
  have f9:=hT.stay d8 f7 (.inl (hT.none (In ha)));refine aK<|av<|eX Z<|au<|ao<|sT<|bg Z<|dS 0 Z Z<|cE (aF Z) (ag (jx _ _ _ _ _))<|cG Z (rL (r:=(up:Int)) Z Z ai)<|dA Z<|bX 0 Z<|bK Z Z Z Z (by rw[gU];omega) ?_
  rw[lq,pD];refine sN<|sS<|cE (bR (vs:=iq ⟨0,0,0⟩) Z) (aR Z) ?_
  refine sO<|aZ Z (m:=3) Z Z Z Z fx Df ?_
  refine sA Z<|sB Z<|an ?_
  skip
  have mt:∀y∈S.tms.map FK.kd,up<y.2:=λy hy=>by
   rw[<-K] at hy;obtain⟨u,hu,rfl⟩:=List.mem_map.1 hy;exact f9.2 u hu
  exact hO [_] rfl (ce (vs:=iq ⟨0,0,0⟩) Z Z Z Z (aR Z)) (da Z) (da Z) (.inr ⟨{T with now:=up},mt,K,f9.1,rfl,I,rfl,rfl⟩)<|Ent.drop.trans<|cV (S:={T with now:=up}) (sl:=sl) (mp:=mp)
 ·
  have ha:any=true:=by simpa using BT
  obtain⟨hl,hs,LS,LT,LU⟩:=LL ha;have hf:FK.Fst T l s:=hT.fst hl hs LS LT LU;have O:64*l+s<704:=ai;obtain⟨b0,LV⟩:=List.exists_mem_of_ne_nil _ hf.has;obtain⟨u0,t6,_⟩:=hT.of_slot O LV;have LC:FK.cx T.now l s<=4611686018427387904:=Nat.le_trans (hf.start hT t6) (hT.due u0 t6).2;have wf:s*64 ^ l<=4611686018427387904:=Nat.le_trans (Nat.le_add_left _ _) LC;have hq:=Nat.div_mul_le_self T.now (64 ^ (l+1));have LD:0<(T.bs (64*l+s)).length:=List.length_pos_iff.2 hf.has;have LZ:l<B:=by
   rcases hB with hB|⟨u,hu,hB⟩
   · replace hB:T.tms=[]:=hB
     rw[hB] at t6;cases t6
   · have:=hf.ahead u hu
     replace hB:u.lvl<B:=hB;omega
  refine ah<|sT<|bg Z<|sP (aT (r:=((l+1:Nat):Int)) Z Z eg)<|sP (l5 (r:=((6*(l+1):Nat):Int)) Z Z eg)<|sB Z<|sQ<|sZ Z<|eI Z Z<|dv 0 Z Z Z<|bZ Z (aF Z) (ag (jx _ _ _ _ _))<|cJ Z Z<|bF Z (fU (r:=((T.now/64 ^ (l+1):Nat):Int)) Z Z ai (KG ai hl))<|cJ Z Z<|bF Z (mV (r:=((T.now/64 ^ (l+1)*64 ^ (l+1):Nat):Int)) Z Z ai (KI ai hl)) ?_
  refine dr 8 Z (bn Z)<|bF Z (bJ (r:=(s:Int)) Z Z Z (wu64 ai))<|cJ Z Z<|bF Z (l5 (r:=((6*l:Nat):Int)) Z Z eg)<|bF Z (mV (r:=((s*64 ^ l:Nat):Int)) Z Z ai (KH wf hl))<|bF Z (xp (r:=((FK.cx T.now l s:Nat):Int)) Z Z (by rw[FC (Nat.lt_of_le_of_lt hq ai) (Nat.lt_of_le_of_lt wf ai),GI hs]))<|bF Z (aQ Z)<|dE<|sT<|sQ<|bg Z<|cG Z (eS Z Z Z)<|sN ?_
  refine aA Z (λLQ=>?_) λLQ=>?_
  ·
   have f9:=hT.stay d8 f7 (.inr ⟨l,s,hf,ai⟩);refine aK<|av<|eX Z<|au<|ao<|sT<|bg Z<|dS 0 Z Z<|cE (aF Z) (ag (jx _ _ _ _ _))<|cG Z (rL (r:=(up:Int)) Z Z ai)<|dA Z<|bX 0 Z<|bK Z Z Z Z (by rw[gU];omega) ?_
   rw[lq,pD];refine sN<|sS<|cE (bR (vs:=iq ⟨0,0,0⟩) Z) (aR Z) ?_
   refine sO<|aZ Z (m:=3) Z Z Z Z fx Df ?_
   refine sA Z<|sB Z<|an ?_
   skip
   have mt:∀y∈S.tms.map FK.kd,up<y.2:=λy hy=>by
    rw[<-K] at hy;obtain⟨u,hu,rfl⟩:=List.mem_map.1 hy;exact f9.2 u hu
   exact hO [_] rfl (ce (vs:=iq ⟨0,0,0⟩) Z Z Z Z (aR Z)) (da Z) (da Z) (.inr ⟨{T with now:=up},mt,K,f9.1,rfl,I,rfl,rfl⟩)<|Ent.drop.trans<|cV (S:={T with now:=up}) (sl:=sl) (mp:=mp)
  ·
   refine ah<|sT<|bg Z<|sM Z<|dS 0 Z Z<|cE (aF Z) (ag (jx _ _ _ _ _))<|sP (rL (r:=((max (FK.cx T.now l s) T.now:Nat):Int)) Z Z ai)<|dA Z<|bX 0 Z<|bK Z Z Z Z (by rw[gU];omega) ?_
   rw[lq,pD];refine sN<|sQ<|bg Z<|sP (bC Z Z Z)<|sN ?_
   refine aA Z (λLR=>?_) λLR=>?_
   ·
    obtain rfl:l=0:=ai;obtain⟨a,t,b,hS,h0,t8,LH⟩:=hT.head0 hf;have LE:=(hT.to0 hf).1;have L3:t∈T.tms:=by rw[hS];simp
    obtain⟨mx,Fd⟩:∃mx,mx=max (FK.cx T.now 0 s) T.now:=⟨_,rfl⟩;rw[<-Fd] at LE t8 ⊢;refine al (l':=ee (sl (64*0+s)) (T.bs (64*0+s))::kG sl T.bs (64*0+s)::blk w 235 (wc (fN mx T.seq sl T.us mp))::i8 T.tms::cA iW mp (fO T.tms)::blk b4 157 (Is ⟨0,0,0⟩)::fr) ((Ent.perm (List.Perm.swap _ _ _)).trans ((mh O).trans aN)) ?_;refine aI .head ?_;intro A c hA f8 d7 LX LY _;rw[hA];obtain⟨g,rfl⟩:∃g,A=some ⟨g,0,none⟩:=by
     cases A with
     | none=>have:=(f8 rfl).1;omega
     | some ad=>obtain⟨g,rfl⟩:=d7 ad rfl;exact⟨g,rfl⟩
    refine bg Z<|dS 2 Z Z<|sP (fQ (i:=0) (z:=64) (o':=2) Z Z Z Z ai ai)<|sP (fQ (i:=s) (z:=1) (o':=2+(64*0+s)) Z Z Z Z hs ai)<|cE (aF (v:=.slice (some ⟨g,0,none⟩) (T.bs (64*0+s)).length c) Z) (ag (by rw[kj _ _ _ _ _ O,hA]))<|sP (bp (i:=0) (z:=1) Z Z Z Z LD)<|cE (aF (v:=aX t.blk) Z) (fg .head (by simpa using h0))<|sB Z<|bg Z<|dS 0 Z Z ?_
    refine cE (bR (vs:=iq t.key) Z) (tmKey gC L3) ?_;refine bV Z (vx (S:={T with now:=mx}) (t:=t) w LE hS LM) ((uc O hA).trans ((Ent.perm (List.Perm.swap _ _ _)).trans (cV (S:={T with now:=mx}) (sl:=sl) (mp:=mp)))) ?_;refine az<|sN<|sQ<|sZ Z<|eI Z Z<|dv 0 Z Z Z<|bZ Z (bR (vs:=iq t.key) Z) (BY (CC t))<|cJ Z Z<|dv 3 Z Z Z<|bZ Z (aF Z) (ag Z) ?_
    refine cK 8 Z<|aZ Z (m:=3) Z Z Z Z fx (by first|decide|(simp;done)|(simp[Value.cells];omega)) ?_
    refine dK [true,false] (aa (ag Z) ab)<|dr 9 Z (aQ Z)<|bF Z (aQ Z)<|dE<|sT<|an<|aH<|aJ<|cu<|aJ<|aH ?_
    exact hO [_] rfl (ce (vs:=iq t.key) Z Z Z Z (aR Z)) (da Z) (da Z) (.inl ⟨({T with now:=mx}:FK.WS).drop a t b,FK.kd t,K▸LH,(by show t.due<=up;omega),LE.drop hS,t8.symm,I,rfl,rfl⟩)<|Ent.drop.trans<|Ent.cons Ent.drop
   ·
    have LN:1<=l:=ai;obtain⟨Fd,L6⟩:=hT.toL LN hf;have hC:=FK.Casc.begin hT LN hf;have L7:(T.bs (64*l+s)).length<=100000:=r9 hT ai O;rw[Fd];refine al (l':=ee (sl (64*l+s)) (T.bs (64*l+s))::kG sl T.bs (64*l+s)::blk w 235 (wc (fN (FK.cx T.now l s) T.seq sl T.us mp))::i8 T.tms::cA iW mp (fO T.tms)::blk b4 157 (Is ⟨0,0,0⟩)::fr) ((Ent.perm (List.Perm.swap _ _ _)).trans ((mh O).trans aN)) ?_;refine aI .head ?_;intro A c hA f8 d7 LX LY _;rw[hA];obtain⟨g,rfl⟩:∃g,A=some ⟨g,0,none⟩:=by
     cases A with
     | none=>have:=(f8 rfl).1;omega
     | some ad=>obtain⟨g,rfl⟩:=d7 ad rfl;exact⟨g,rfl⟩
    refine ah<|sT<|bg Z<|sM Z<|dS 2 Z Z<|sP (fQ (i:=l) (z:=64) (o':=2+64*l) Z Z Z Z hl ai)<|sP (fQ (i:=s) (z:=1) (o':=2+(64*l+s)) Z Z Z Z hs ai)<|cE (aF (v:=.slice (some ⟨g,0,none⟩) (T.bs (64*l+s)).length c) Z) (ag (by rw[kj _ _ _ _ _ O,hA]))<|sB Z<|bg Z<|sM Z<|sM Z ?_
    refine dA Z<|bX 2 Z<|sP (fQ (i:=l) (z:=64) (o':=2+64*l) Z Z Z Z hl ai)<|sP (fQ (i:=s) (z:=1) (o':=2+(64*l+s)) Z Z Z Z hs ai)<|bK Z Z Z Z (by rw[gU];omega) ?_
    rw[lq,od _ _ _ _ _ O];refine sN<|sQ<|sZ Z<|eI Z Z<|cJ Z Z<|dv 706 Z Z Z<|bF Z (fQ (i:=l) (z:=1) (o':=706+l) Z Z Z Z hl ai)<|bZ Z (aF Z) (ag (nB _ _ _ _ _ hl))<|cJ Z Z<|bF Z (mV (r:=((2 ^ s:Nat):Int)) Z Z ai (wa hs))<|bF Z (vr (r:=((FK.clr (T.us l) s:Nat):Int)) Z Z (CY (hT.uslt l hl) hs))<|dv 706 Z Z Z<|bF Z (fQ (i:=l) (z:=1) (o':=706+l) Z Z Z Z hl ai) ?_
    refine cK 12 Z<|cp Z Z Z Z Z (by rw[gU];omega) ?_
    rw[lq,oc _ _ _ _ _ hl];refine dK [false] ab<|dE<|sT<|sQ ?_
    refine al (l':=ee (.slice (some ⟨g,0,none⟩) (T.bs (64*l+s)).length c) (T.bs (64*l+s))::cb w (({T with now:=FK.cx T.now l s}:FK.WS).clear l s)::blk b4 157 (Is ⟨0,0,0⟩)::fr) (gfE1.trans (Ent.cons (gfE1.trans (Ent.row0.trans ((jW O).trans ((Ent.perm (List.Perm.swap _ _ _)).trans (cV (S:=({T with now:=FK.cx T.now l s}:FK.WS).clear l s) (sl:=gg sl (64*l+s) _) (mp:=mp)))))))) ?_;refine sG<|cG Z (bh Z Z)<|sM Z<|sN<|aj ?_
    refine aL (X:=FK.WS×Nat) (λp=>[(107,.int .i64 p.2),(106,.int .i64 (T.bs (64*l+s)).length),(105,.slice (some ⟨g,0,none⟩) (T.bs (64*l+s)).length c),(0,aX w),(1,.int .u64 up),(4,aX b4)]) (λp=>ee (.slice (some ⟨g,0,none⟩) (T.bs (64*l+s)).length c) (T.bs (64*l+s))::cb w p.1::blk b4 157 (Is ⟨0,0,0⟩)::fr) (λp=>p.2<=(T.bs (64*l+s)).length/\FK.Casc p.1 l ((T.bs (64*l+s)).drop p.2)/\p.1.now=FK.cx T.now l s/\p.1.seq=S.seq/\p.1.tms.map FK.kd=S.tms.map FK.kd) (λp=>(T.bs (64*l+s)).length-p.2) (({T with now:=FK.cx T.now l s}:FK.WS).clear l s,0) ⟨Nat.zero_le _,hC,rfl,I,K⟩ cf aN ?_;rintro⟨U,i⟩ ⟨hi,Y,LB,d9,d6⟩;replace hi:i<=(T.bs (64*l+s)).length:=hi;replace Y:FK.Casc U l ((T.bs (64*l+s)).drop i):=Y;replace LB:U.now=FK.cx T.now l s:=LB;replace d9:U.seq=S.seq:=d9;replace d6:U.tms.map FK.kd=S.tms.map FK.kd:=d6;refine sS<|sP (bB Z Z Z)<|sN<|sQ ?_
    refine aA Z (λLG=>?_) λLG=>?_
    ·
     have t7:i<(T.bs (64*l+s)).length:=ai;obtain⟨x,hx⟩:∃x,(T.bs (64*l+s))[i]?=some x:=⟨(T.bs (64*l+s))[i],by simp[t7]⟩;have L4:(T.bs (64*l+s)).drop i=x::(T.bs (64*l+s)).drop (i+1):=by
      rw[List.drop_eq_getElem_cons t7];rw[List.getElem?_eq_getElem t7] at hx;injection hx with hx;rw[hx]
     rw[L4] at Y;obtain⟨a,t,b,LJ,rfl,LK,LW⟩:=Y.step;have LO:U.tms.length<=99999:=by rw[FN d6];exact LF
     refine ah<|sT<|sQ<|aj<|sS<|sP (bp (z:=1) Z Z Z Z t7)<|cE (aF (v:=aX t.blk) Z) (fg .head (by simp[hx]))<|sB Z<|sG<|sM Z<|sM Z ?_
     refine bV Z (xD w Y.inv LJ ai LO LK) gfE1 ?_;refine ae<|aq<|am<|sT<|sG<|sP (aT (r:=((i+1:Nat):Int)) Z Z eg)<|sM Z<|aq ?_
     exact aC (U.put a t b,i+1) ⟨by show i+1<=_;omega,LW,LB,d9,(K7 LJ).trans d6⟩ (by show _-(i+1)<_-i;omega) cf<|Ent.perm<|List.Perm.swap _ _ _
    ·
     obtain rfl:i=(T.bs (64*l+s)).length:=ai;rw[List.drop_length] at Y;refine aK<|av<|au<|ao<|am ?_
     exact aC (U,l) ⟨Y.inv,(by show U.now<=up;omega),d9,d6,.inr (by obtain⟨t,ht,h1⟩:=Y.some;exact⟨t,ht,h1.resolve_left cP⟩)⟩ LZ cf Ent.drop
end
end Go.Y

namespace Go.Y
open Go.Proofs Go.RowKit Go.SL
open FK (gg dJ dc)
variable {G:Env->Prop}
theorem Am {E:Env} {w:World} {l r I:List HP} {b:Nat} {o:Obj} {tms:List FK.Tmr} (h:Holds E w l) (s:Sel (ob b o) l r) (s':Sel (i8 tms) r I):b∉tms.map FK.Tmr.blk:=by
 obtain⟨F1,F2,_,_,hd,K,O⟩:=(h.sel s).star;obtain⟨F3,F4,h3,_,_,T,_⟩:=O.perm s'.perm;intro hb;obtain⟨u,Y,rfl⟩:=List.mem_map.1 hb;exact hd _ K.1<|h3 _ (Star.mem T (List.mem_map_of_mem Y)).1
theorem GZ {S:FK.WS} (w:Nat):dZ G 92 [aX w] [cb w S] λv m=>v=.int .i64 S.tms.length/\m=[cb w S]:=by
 refine bz Tryz.func92 Z λE fr I=>ae (dY .head λsl mp=>(sS (sB Z (sS (sM Z (dA Z (bX 717 Z (cE (aF Z) (ag (iY _ _ _ _ _)) (cE (rr (m:=fO S.tms) Z Z) (iN gC) (sB Z (an ?_)))))))))));exact aw [_] rfl Z ⟨by simp[fO],rfl⟩<|cV (S:=S) (sl:=sl) (mp:=mp)
theorem GQ {S:FK.WS} (w:Nat):dZ G 88 [aX w] [cb w S] λv m=>v=.int .u64 S.now/\m=[cb w S]:=by
 refine bz Tryz.func88 Z λE fr I=>?_;exact ae (dY .head λsl mp=>(sS (sB Z (sS (sM Z (dA Z (bX 0 Z (cE (aF Z) (ag (jx _ _ _ _ _)) (sB Z (an (aw [_] rfl Z ⟨rfl,rfl⟩ (cV (S:=S) (sl:=sl) (mp:=mp)))))))))))))
theorem CD (S:FK.WS):(S.tms.map FK.kd).map (·.1)=S.tms.map FK.Tmr.key:=by rw[List.map_map];rfl
theorem K8 {L:List FK.KD} {k:FK.Pl} (h:k∉L.map (·.1)):L.filter (λp=>p.1 !=k)=L:=by
 refine List.filter_eq_self.2 λp E=>?_;have:p.1≠k:=λe=>h (e▸List.mem_map_of_mem E);simpa using this
theorem K9 {a b:List FK.Tmr} {t:FK.Tmr} (h:((a++t::b).map FK.Tmr.key).Nodup):((a++t::b).map FK.kd).filter (λp=>p.1 !=t.key)=(a++b).map FK.kd:=by
 obtain⟨K,O⟩:=FK.jA h;rw[List.map_append,List.map_cons,List.filter_append,List.filter_cons];have e:(FK.kd t).1=t.key:=rfl;simp only[e,bne_self_eq_false,Bool.false_eq_true,if_false];rw[List.filter_eq_self.2,List.filter_eq_self.2,List.map_append]
 · intro p I
   obtain⟨u,E,rfl⟩:=List.mem_map.1 I;have:=O u E;simpa[FK.kd] using this
 · intro p I
   obtain⟨u,E,rfl⟩:=List.mem_map.1 I;have:=K u E;simpa[FK.kd] using this
theorem yb {S:FK.WS} (w:Nat) (k:FK.Pl) (h:FK.Inv S []) (K:S.tms.length<=99999) :
 dZ G 140 [aX w,iW k] [cb w S] λv m=>v=.tuple #[]/\∃S':FK.WS,FK.Inv S' []/\S'.now=S.now/\S'.seq=S.seq/\S'.tms.map FK.kd=(S.tms.map FK.kd).filter (λp=>p.1 !=k)/\m=[cb w S']:=by
 by_cases O:k∈S.tms.map FK.Tmr.key
 · obtain⟨t,T,rfl⟩:=List.mem_map.1 O
   obtain⟨a,b,I⟩:=List.append_of_mem T;have E:=h.keys;rw[I] at E;refine(vx w h I K).mono ?_;rintro v m ⟨rfl,rfl⟩;exact⟨[cb w (S.drop a t b)],⟨rfl,S.drop a t b,h.drop I,rfl,rfl,by rw[I,K9 E];rfl,rfl⟩,Ent.cons Ent.drop⟩
 · refine(EE w k O).mono ?_
   rintro v m ⟨rfl,rfl⟩;exact⟨_,⟨rfl,S,h,rfl,rfl,by rw[K8 (by rw[CD];exact O)],rfl⟩,aN⟩
theorem IS {S0:FK.WS} (w:Nat) (k:FK.Pl) (a:Nat) (h0:FK.Inv S0 []) (ha:S0.now<=a) (T:a<=4611686018427387904) (f9:S0.seq<9223372036854775807) (mt:S0.tms.length<=99998) :
 dZ G 103 [aX w,iW k,.int .u64 a] [cb w S0] λv m=>v=.tuple #[]/\∃S':FK.WS,FK.Inv S' []/\S'.now=S0.now/\S'.seq=S0.seq+1/\S'.tms.map FK.kd=(S0.tms.map FK.kd).filter (λp=>p.1 !=k)++[(k,a)]/\m=[cb w S']:=by
 refine bz Tryz.func103 Z λE fr hE=>ae<|sS<|sO (cL Z Z λb4=>(sN (sS (sM Z (cE (bR (vs:=iq k) Z) (aR Z) ?_)))))
 refine ch Z (yb w k h0 ai) gfE1 ?_;rintro v m ⟨rfl,S,h,Y,t6,I,rfl⟩;refine ae ?_;have hk:k∉S.tms.map FK.Tmr.key:=by
  rw[<-CD,I];intro hm;obtain⟨p,hp,e⟩:=List.mem_map.1 hm;have:=(List.mem_filter.1 hp).2;simp[e] at this
 have t7:S.seq<9223372036854775807:=ai;have t8:S.tms.length<=99998:=by
  have h1:=congrArg List.length I;have h2:=List.length_filter_le (λp:FK.Pl×Nat=>p.1 !=k) (S0.tms.map FK.kd);rw[List.length_map] at h1 h2;omega
 rw[<-Y] at ha;refine sN<|sQ (dY .head λsl mp=>(sG (sM Z (dA Z (bX 1 Z (cE (aF Z) (ag (pE _ _ _ _ _)) (sP (aT (r:=((S.seq+1:Nat):Int)) Z Z (by rw[mM];omega)) (dA Z (bX 1 Z (bK Z Z Z Z (by rw[gU];omega) ?_))))))))))
 rw[lq,Do];refine sN<|sQ<|sZ Z<|iJ 0 Z (bR (vs:=iq k) Z) (aR Z)<|cJ Z Z<|cJ Z Z<|dv 1 Z Z Z<|bZ Z (aF Z) (ag (pE _ _ _ _ _))<|bF Z (bT (cs:=#[.int .u64 k.run,.int .i64 k.node,.int .i64 k.what,.int .u64 a,.int .u64 ((S.seq+1:Nat):Int),.int .i64 0,.int .i64 0]) Z Z Z Z Z)<|tV Z (cL Z Z λb=>(dK [true,true] (aa (ag (pE _ _ _ _ _)) (aa (aR Z) ab)) (bF Z (aQ Z) (dE (sT (sQ ?_))))))
 refine eK (p:=b∉S.tms.map FK.Tmr.blk) (λw' f7=>Am f7 .head dj) λhb=>?_;refine sZ Z<|eI Z Z<|dv 717 Z Z Z<|bZ Z (aF Z) (ag (iY _ _ _ _ _))<|bZ Z (bR (vs:=iq k) Z) (aR Z)<|cJ Z Z<|tV Z<|vQ Z Z BZ Z Z Z lp (C3 hk)<|dK [false,false] ab<|dE<|sT ?_
 obtain⟨t,K⟩:∃t:FK.Tmr,t=⟨k,a,S.seq+1,b,0,0⟩:=⟨_,rfl⟩;have hI:=h.add (t:=t) (by rw[K];exact hk) (by rw[K];exact hb) (by rw[K]) (by rw[K];exact⟨ha,T⟩);have d6:=h.add_low (t:=t) (by rw[K]);have d7:=hI.put (a:=S.tms) (b:=[]) (rest:=[]) rfl cP (λu hu O _=>d6 u hu O);refine al (l':=cb w (S.add t)::fr) ?_ ?_
 · have f8:fO S.tms++[(k,aX b)]=fO (S.tms++[t]):=by simp[fO,K]
   have d8:=tmrs_close (a:=S.tms) (b:=[]) (t:=t) (r:=cA iW mp (fO (S.tms++[t]))::blk w 235 (wc (fN S.now (S.seq+1) sl S.us mp))::j9 sl S.bs::fr);rw[List.append_nil] at d8;rw[f8];refine(Ent.trans ?_ d8).trans ((dd dj dj .head).trans (cV (S:=S.add t) (sl:=sl) (mp:=mp)));subst K;exact(aY bM gC).trans (Ent.cons (Ent.cons (Ent.cons (Ent.cons (Ent.cons Ent.drop)))))
 have d9:=xD (G:=G) (a:=S.tms) (t:=t) (b:=[]) w hI rfl (by show S.seq+1<_;omega) (by show(S.tms++[t]).length<=_;simp;omega) (λu hu O _=>d6 u hu O);rw[show t.blk=b by rw[K]] at d9;refine sG<|sM Z<|sM Z ?_
 refine bV Z d9 aN ?_;refine ae<|aq ?_
 exact bm [cb w ((S.add t).put S.tms t [])] rfl ⟨rfl,_,d7,Y,(by show S.seq+1=_;omega),by rw[<-I];simp[FK.WS.put,FK.Tmr.place,FK.kd,K],rfl⟩ aN
def xg (now:Nat):FK.WS:=⟨now,0,λ_=>0,λ_=>[],[]⟩
theorem inv0 {now:Nat} (h:now<=4611686018427387904):FK.Inv (xg now) [] where
 nowle:=h
 keys:=List.nodup_nil
 blks:=List.nodup_nil
 seqs:=List.Pairwise.nil
 seqle:=λt E=>by cases E
 due:=λt E=>by cases E
 pl:=λt E=>by cases E
 slot:=λi _=>rfl
 used:=λl s _ _=>by simp[xg]
 uslt:=λl _=>by simp[xg]
theorem AF (n:Nat):mN n (λ_=>.slice none 0 0) (λ_=>[])=List.replicate n (ee (.slice none 0 0) []):=by
 unfold mN;apply List.ext_getElem<;>simp
theorem slots_zero {l:List HP}:Ent l (j9 (λ_=>.slice none 0 0) (λ_=>[])::l):=by
 have h:∀n,Ent l (List.replicate n (ee (.slice none 0 0) [])++l):=λn=>by
  induction n with
  | zero=>exact aN
  | succ n I=>exact I.trans Ent.row0
 have E:=h 704;rw[<-AF] at E;exact E.trans<|Ent.all (m:=nW (λ_=>.slice none 0 0) (λ_=>[]))
theorem EI (a b i:Nat) (K O s u m:Value):(#[K,O]++Array.replicate a s++Array.replicate b u++#[m])[i]?=if i=0 then some K else if i=1 then some O else if i<2+a then some s else if i<2+a+b then some u else if i=2+a+b then some m else none:=by
 simp only[Array.getElem?_append,Array.getElem?_replicate,Array.size_append,Array.size_replicate];rcases i with _|_|i
 · have I:0<2+a+b:=ai
   have E:0<2+a:=ai;simp[I,E]
 · have I:1<2+a+b:=ai
   have E:1<2+a:=ai;simp[I,E]
 · simp
   have E:¬i+1+1<2:=ai
   by_cases h3:i+1+1<2+a
   · have:i+1+1<2+a+b:=ai
     simp[E,h3,this];omega
   · by_cases T:i+1+1<2+a+b
     · simp[h3,T];omega
     · by_cases Y:i+1+1=2+a+b
       · simp[Y];omega
       · simp[h3,T,Y];omega
def vV (now mp:Nat):Array Value:=#[.int .u64 now,.int .u64 0]++Array.replicate 704 (.slice none 0 0)++Array.replicate 11 (.int .u64 0)++#[.map (some mp)]
theorem EJ (now mp:Nat):vV now mp=wc (fN now 0 (λ_=>.slice none 0 0) (λ_=>0) mp):=by
 apply Array.ext_getElem?;intro i;unfold vV;rw[EI]
 by_cases h:i<718
 · rw[ur _ h]
   unfold fN
   by_cases E:i=0
   · rw[if_pos E,if_pos E]
   · rw[if_neg E,if_neg E]
     by_cases I:i=1
     · rw[if_pos I,if_pos I];rfl
     · rw[if_neg I,if_neg I]
       by_cases K:i<706
       · rw[if_pos ai,if_pos K]
       · rw[if_neg ai,if_neg K]
         by_cases O:i<717
         · rw[if_pos ai,if_pos O];rfl
         · rw[if_neg ai,if_neg O,if_pos ai]
 · rw[if_neg ai,if_neg ai,if_neg ai,if_neg ai,if_neg ai]
   rw[Array.getElem?_eq_none (by rw[gU];omega)]
def zeroW:Value:=.agg (#[.int .u64 0,.int .u64 0]++Array.replicate 704 (.slice none 0 0)++Array.replicate 11 (.int .u64 0)++#[.map none])
theorem xM (now:Nat):dZ G 94 [.int .u64 now] [] λv m=>∃w,v=aX w/\m=[cb w (xg now)]:=by
 refine bz Tryz.func94 Z λE fr I=>aB<|sS<|sB Z<|bg Z<|sO (jJ iW Z λmp=>?_)
 refine sP (bT (z:=zeroW) (vs:=[.int .u64 now,.map (some mp)]) (cs:=vV now mp) Z Z (by unfold iM;kernel_rfl) Z eP) ?_;refine sO (cL Z Z λw=>(sB Z (an ?_)));have e:Ent (blk w 235 (vV now mp)::cA iW mp []::fr) (cb w (xg now)::fr):=by
  rw[EJ];exact(Ent.cons (slots_zero.trans (Ent.cons (Ent.all (m:=[]))))).trans (cV (S:=xg now) (sl:=λ_=>.slice none 0 0) (mp:=mp))
 exact aw [_] rfl Z ⟨w,rfl,rfl⟩ e
end Go.Y

namespace Go.SL
open Go.RowKit
theorem gW {α β:Type} {f:α->List β} {k:Nat} (I:∀x,(f x).length=k):∀{l:List α} {i:Nat} {x:α} (j:Nat) {y:β},l[i]?=some x->(f x)[j]?=some y->(l.flatMap f)[i*k+j]?=some y
 | [],i,x,j,y,h,_=>by simp at h
 | a::l,0,x,j,y,h,hj=>by
  simp at h;subst h;have:j<(f a).length:=(gfGet.1 hj).1;rw[List.flatMap_cons,Nat.zero_mul,Nat.zero_add,List.getElem?_append_left this,hj]
 | a::l,i+1,x,j,y,h,hj=>by
  have O:=gW I (l:=l) (i:=i) j (by simpa using h) hj;rw[List.flatMap_cons,List.getElem?_append_right (by rw[I,Nat.add_mul];omega),I];rw[show(i+1)*k+j-k=i*k+j by rw[Nat.add_mul];omega];exact O
theorem fD {α β:Type} {f:α->List β} {k:Nat} (I:∀x,(f x).length=k):∀(l:List α),(l.flatMap f).length=l.length*k
 | []=>by simp
 | a::l=>by rw[List.flatMap_cons,List.length_append,I,fD I l,List.length_cons,Nat.add_mul];omega
section
variable {E:Env} {l:List HP}
end
section
variable {P:Program} {E:Env} {n:Nat} {D:List Deferred} {ts:List (Nat×Value)} {l:List HP} {ops:Array Oper} {Q:Exit->Act->World->Prop} {i:Nat} {ty:TypeId} {pos:String} {af:Array Edge} {g:Option (Nat×Bool)}
section
variable {K:Act->World->Prop} {e t:TypeId} {r:List HP}
theorem D6 (zc:List Value) (m:Nat) (I:0<zc.length):madeCells zc.toArray (m*zc.length)=((List.range m).flatMap λ_=>zc).toArray:=by
 unfold madeCells;apply Array.ext_getElem?;intro j
 by_cases O:j<m*zc.length
 · have Y:j/zc.length<m:=(Nat.div_lt_iff_lt_mul I).2 O
   have T:j%zc.length<zc.length:=Nat.mod_lt _ I;have h3:=gW (f:=λ_:Nat=>zc) (k:=zc.length) (λ_=>rfl) (l:=List.range m) (i:=j/zc.length) (x:=j/zc.length) (j%zc.length) (y:=zc[j%zc.length]) (by simp[Y]) (by simp[T]);have h4:j/zc.length*zc.length+j%zc.length=j:=by rw[Nat.mul_comm];exact Nat.div_add_mod j zc.length
   rw[h4] at h3;simp only[List.getElem?_toArray,h3];simp[O,T]
 · have h5:((List.range m).flatMap λ_=>zc).length=m*zc.length:=by rw[fD (k:=zc.length) (λ_=>rfl),List.length_range]
   simp only[List.getElem?_toArray];rw[List.getElem?_eq_none (by rw[h5];omega)];simp;omega
theorem Ct {x:Operand} {z:Value} {zc:List Value} {m size bytes:Nat} (hi:Nat.blt i n=true) (ht:P.underlying t=some (.slice e)) (O:fV P e z size bytes) (hz:z.cells=zc.toArray) (hs:zc.length=size) (h0:0<size) (hx:ev ts x=some (.int .i64 (m:Int))) (hb:bytes*m<=281474976710656) (hm:m<=9223372036854775807)
 (h:∀b,At E n D ((i,.slice (some ⟨b,0,none⟩) m m)::ts) (blk b e ((List.range m).flatMap λ_=>zc).toArray::l) K):At E n D ts l (λa w=>(Oper.mk (some i) (.makeSlice t x x) ty pos af g).wp P a w K Q):=λa w f hw=>by
 obtain⟨ti,T,e0,e1,e2⟩:=info_parts O;have Y:(ti.bytes:Int)*(m:Int)<=281474976710656:=by
  rw[e2];have:((bytes*m:Nat):Int)<=281474976710656:=ai
  rwa [Int.natCast_mul] at this
 have I:=run_make (P:=P) w t e ti z ht T e0 .i64 .i64 m m ai ai Y ai;subst hs;rw[Int.toNat_natCast,e1,hz,D6 zc m h0] at I;have hr:(execOp a.eval (Oper.mk (some i) (.makeSlice t x x) ty pos af g)).run P w=.ok (.value (.slice (some ⟨w.heap.size,0,none⟩) m m)) (w.alloc (.cells ((List.range m).flatMap λ_=>zc).toArray e)):=by
  simp only[execOp,f.eval hx,Sem.run_bind,I,Result.andThen_ok,Sem.run_pure]
 show(Oper.mk (some i) (.makeSlice t x x) ty pos af g).wp P a w K Q;unfold Oper.wp;rw[hr];exact h _ _ _ (f.put i (Nat.le_of_ble_eq_true hi) _)<|hw.alloc _
theorem FF {x y:Operand} {t':TypeId} {b o z O T I Y:Nat} {tb:TypeId} {cs:Array Value} {A:Option Addr} {news:List Value} [hh:Has b l (.cells cs tb) r] (hi:Nat.blt i n=true) (ht:P.underlying t=some (.slice e)) (hz:dm P e z)
 (hx:ev ts x=some (.slice (some ⟨b,o,none⟩) O T)) (hy:ev ts y=some (.slice A I Y)) (f7:I<=O) (hn:news.length=I*z) (hA:(A=none/\I=0)\/∃gs so,A=some ⟨gs,so,none⟩/\∀w,Holds E w l->jb gs so news w)
 (h1:∀u∈news,u.oneCell'=true) (d6:o+news.length<=cs.size) (h:At E n D ((i,.int .i64 (I:Int))::ts) (blk b tb (iO cs o news)::r) K) :
 At E n D ts l (λa w=>(Oper.mk (some i) (.call {callee:=.builtin .copy,args:=#[x,y],argTypes:=#[t,t']}) ty pos af g).wp P a w K Q):=λa w f hw=>by
 have h0:=hw.sel hh.sel;have hb:=(hw.ob hh.sel).1;obtain⟨w',hr,h2,h3,h4,h5,h6,h7⟩:=jm (P:=P) news w cs o 0 hb (by simpa using d6) h1;have d8:Nat.min I O=I:=Nat.min_eq_left f7;have d9:(Builtin.copy_ #[t,t'] ty #[.slice (some ⟨b,o,none⟩) O T,.slice A I Y]).run P w=.ok (.int .i64 (I:Int)) w':=by
  rcases hA with⟨rfl,rfl⟩|⟨gs,so,rfl,d7⟩
  · obtain rfl:news=[]:=List.eq_nil_of_length_eq_zero (by simpa using hn)
    simp only[storeCells,Sem.run_pure,Result.ok.injEq,true_and] at hr;subst hr;simp[Builtin.copy_,run_underlying ht,Builtin.lenOf,cY hz,Builtin.firstCells,storeCells,goInt]
  · have hl:=gP (P:=P) (b:=gs) (o:=so) (w:=w) news 0 #[] (λj v hj=>by simpa using d7 w hw j v hj)
    rw[hn] at hl;have f8:(loadCells ⟨gs,so,none⟩ (I*z)).run P w=.ok news.toArray w:=by
     simpa[loadCells] using hl
    simp only[Builtin.copy_,List.getElem?_toArray,List.getElem?_cons_zero,List.getElem?_cons_succ,Sem.run_bind,run_underlying ht,Result.andThen_ok,Builtin.lenOf,Sem.run_pure,d8,cY hz,Builtin.firstCells,f8,hr,goInt]
 have:(execOp a.eval (Oper.mk (some i) (.call {callee:=.builtin .copy,args:=#[x,y],argTypes:=#[t,t']}) ty pos af g)).run P w=.ok (.value (.int .i64 (I:Int))) w':=by
  simp[execOp,resolve,invoke,builtin,f.eval hx,f.eval hy,d9]
 show(Oper.mk (some i) (.call {callee:=.builtin .copy,args:=#[x,y],argTypes:=#[t,t']}) ty pos af g).wp P a w K Q;unfold Oper.wp;rw[this];exact h _ _ (f.put i (Nat.le_of_ble_eq_true hi) _)<|Holds.set h0 h3 h4 h5 h6 (by simpa using h2) h7
theorem AT {e':TypeId} {x:Operand} {b o m O c c' size:Nat} {z:Value} {zs xs:List Value} {d:Option Tmp} (hd:d=none) (ht:P.underlying t=some (.slice e)) (hz:iM P e z) (d6:(Builtin.zeroCells z.cells m).toList=zs) (d7:m≠0)
 (hx:ev ts x=some (.slice (some ⟨b,o,none⟩) m c)) (s:Sel (row e' size (.slice (some ⟨b,0,none⟩) O c') O xs) l r) (hv:∀u∈zs,u.oneCell'=true) (ho:o+zs.length<=O*size) (h:At E n D ts (row e' size (.slice (some ⟨b,0,none⟩) O c') O (ky xs o zs)::r) K) :
 At E n D ts l (λa w=>(Oper.mk d (.call {callee:=.builtin .clear,args:=#[x],argTypes:=#[t]}) ty pos af g).wp P a w K Q):=by
 subst hd;refine jQ s (λh _ _=>by cases h) ?_;intro g' cap T I _ hm hc hs d8;injection I with I _ Y;injection I with I;injection I with I;subst I;subst Y;have d9:o+zs.length<=T.size:=by rw[hs];exact Nat.le_trans ho (Nat.mul_le_mul_right _ hm)
 intro a w f hw;have hb:=(hw.ob .head).1;obtain⟨w',hr,h2,h3,h4,h5,h6,h7⟩:=jm (P:=P) zs w T o 0 hb (by simpa using d9) hv;have:(execOp a.eval (Oper.mk none (.call {callee:=.builtin .clear,args:=#[x],argTypes:=#[t]}) ty pos af g)).run P w=.ok (.value (.tuple #[])) w':=by
  obtain⟨m,rfl⟩:=Nat.exists_eq_succ_of_ne_zero d7;simp[execOp,resolve,invoke,builtin,f.eval hx,Builtin.clear_,run_underlying ht,iS hz,d6,hr]
 show(Oper.mk none (.call {callee:=.builtin .clear,args:=#[x],argTypes:=#[t]}) ty pos af g).wp P a w K Q;unfold Oper.wp;rw[this];refine h a _ f ((Holds.set hw h3 h4 h5 h6 (by simpa using h2) h7).ent (dI hm hc (by rw[ib];exact hs) ?_));rw[jX,pQ,d8]
end
end
end Go.SL

namespace Go.Y
open Go.Proofs Go.RowKit Go.SL
open FK (gg dJ dc)
variable {G:Env->Prop}
structure EC where
 sd:Nat
 rm:Nat
 tm:Nat
 w:Nat
 lr:Nat
 lt:Nat
 en:Nat
abbrev vH (C:EC) (rv:Value) (f n:Nat):Array Value:=#[.int .u64 C.sd,.map (some C.rm),.map (some C.tm),rv,.int .i64 f,.int .i64 n,aX C.w,.int .u64 C.lr,.int .u64 C.lt,.int .u64 C.en]
abbrev oC (e:Nat) (C:EC) (rv:Value) (f n:Nat):HP:=blk e 145 (vH C rv f n)
section
variable {rg:Nat->FK.Pl} {N:Nat} {q:List FK.Pl} {r:List HP}
def rV (N:Nat) (rg:Nat->FK.Pl):List Value:=(List.range N).flatMap λi=>iq (rg i)
theorem kE (N:Nat) (rg:Nat->FK.Pl):(rV N rg).length=N*3:=by unfold rV;rw[fD (k:=3) (λ_=>rfl),List.length_range]
theorem uu {i:Nat} (hi:i<N) (j:Nat) (u:Value) (h:(iq (rg i))[j]?=some u):(rV N rg)[0+i*3+j]?=some u:=by
 rw[Nat.zero_add];exact gW (k:=3) (λ_=>rfl) (l:=List.range N) (x:=i) j (by simp[hi]) h
theorem Cl (N:Nat) (rg:Nat->FK.Pl):∀u∈rV N rg,u.oneCell'=true:=by
 intro u I;obtain⟨i,_,E⟩:=List.mem_flatMap.1 I;simp only[List.mem_cons,List.not_mem_nil,or_false] at E;rcases E with rfl|rfl|rfl<;>rfl
theorem FB {l:List Value} (O:l.length=N*3) (h:∀i j u,i<N->(iq (rg i))[j]?=some u->l[i*3+j]?=some u):l=rV N rg:=by
 apply List.ext_getElem?;intro k
 by_cases T:k<N*3
 · have E:k/3<N:=ai
   have Y:k%3<3:=Nat.mod_lt _ ai;have h3:(iq (rg (k/3)))[k%3]?=some ((iq (rg (k/3)))[k%3]'(by simp;omega)):=List.getElem?_eq_getElem _;have I:=h (k/3) (k%3) _ E h3;have K:=uu E (k%3) _ h3;rw[show k/3*3+k%3=k by omega] at I;rw[show 0+k/3*3+k%3=k by omega] at K;rw[I,K]
 · rw[List.getElem?_eq_none ai,List.getElem?_eq_none (by rw[kE];omega)]
theorem FA {i:Nat} (hi:i<N) (p:FK.Pl):ky (rV N rg) (0+i*3) (iq p)=rV N (gg rg i p):=by
 apply FB
 · rw[gp,kE]
 · intro k j u I E
   have K:j<3:=by have:=(gfGet.1 E).1;simpa using this
   by_cases h:k=i
   · subst h
     rw[dJ] at E;rw[show k*3+j=(0+k*3)+j by omega];exact nt (iq p) (rV N rg) (0+k*3) j u (by rw[kE];simp;omega) E
   · rw[dc _ _ h] at E
     rw[jg _ _ _ _ (by simp;omega)];have:=uu I j u E
     rwa [Nat.zero_add] at this
theorem Lb:fV Tryz.prog 157 (iW ⟨0,0,0⟩) 3 24:=by unfold fV;kernel_rfl
def dV (e:Nat) (C:EC) (q:List FK.Pl):HP:=HP.ex λp:Value×Nat×Nat×(Nat->FK.Pl)=>HP.all [HP.pure (FK.RingOk p.2.1 p.2.2.1 q p.2.2.2),oC e C p.1 p.2.2.1 q.length,row 157 3 p.1 p.2.1 (rV p.2.1 p.2.2.2)]
theorem jn {E:Env} {n:Nat} {D:List Deferred} {ts:List (Nat×Value)} {l:List HP} {K:Act->World->Prop} {e:Nat} {C:EC} (s:Sel (dV e C q) l r)
 (h:∀A N c f rg,FK.RingOk N f q rg->(0<N->∃g,A=some ⟨g,0,none⟩)->(N=0->(A=none/\c=0)\/∃g,A=some ⟨g,0,none⟩)->N<=c->c<=maxLen->At E n D ts (oC e C (.slice A N c) f q.length::row 157 3 (.slice A N c) N (rV N rg)::r) K):At E n D ts l K:=by
 refine cN s λ⟨rv,N,f,rg⟩=>?_;refine bl ?_;show At E n D ts (HP.pure (FK.RingOk N f q rg)::oC e C rv f q.length::row 157 3 rv N (rV N rg)::r) K;refine ec .head λY=>aI bM ?_;rintro A c rfl O T h3 h4 _;refine h A N c f rg Y (λhp=>?_) (λ_=>?_) h3 h4
 · cases A with
   | none=>have:=(O rfl).1;omega
   | some I=>obtain⟨g,rfl⟩:=T I rfl;exact⟨g,rfl⟩
 · cases A with
   | none=>exact .inl ⟨rfl,(O rfl).2⟩
   | some I=>obtain⟨g,rfl⟩:=T I rfl;exact .inr ⟨g,rfl⟩
theorem gL {e:Nat} {C:EC} {rv:Value} {f:Nat} (h:FK.RingOk N f q rg):Ent (oC e C rv f q.length::row 157 3 rv N (rV N rg)::r) (dV e C q::r):=
 (Ent.pure h).trans ((Ent.all (m:=[HP.pure (FK.RingOk N f q rg),oC e C rv f q.length,row 157 3 rv N (rV N rg)])).trans (Ent.ex (f:=λp:Value×Nat×Nat×(Nat->FK.Pl)=>HP.all [HP.pure (FK.RingOk p.2.1 p.2.2.1 q p.2.2.2),oC e C p.1 p.2.2.1 q.length,row 157 3 p.1 p.2.1 (rV p.2.1 p.2.2.2)]) (rv,N,f,rg)))
end
abbrev qP (e:Nat):Value:=.pointer (some ⟨e,3,none⟩)
theorem DM {q:List FK.Pl} (e:Nat) (C:EC):dZ G 90 [qP e] [dV e C q] λv m=>v=.int .i64 q.length/\m=[dV e C q]:=by
 refine bz Tryz.func90 Z λE fr hE=>?_;exact ae (jn .head λA N c f rg I K O T Y=>(sS (sB Z (sS (sM Z (dA Z (bX 2 Z (aE Z Z Z Z (sB Z (an (aw [_] rfl Z ⟨rfl,rfl⟩ (gL I))))))))))))
theorem np {a b:Nat} (E:a<9223372036854775808) (_hb:0<b):(a:Int).tmod (b:Int)=((a%b:Nat):Int):=by
 rw[Int.tmod_eq_emod_of_nonneg ai]
 rfl
theorem GA {q:List FK.Pl} (e:Nat) (C:EC) {k:Nat} {p:FK.Pl} (hp:q[k]?=some p):dZ G 91 [qP e,.int .i64 k] [dV e C q] λv m=>v=iW p/\m=[dV e C q]:=by
 have hk:=(gfGet.1 hp).1;refine bz Tryz.func91 Z λE fr hE=>ae (jn .head λA N c f rg I O d8 d9 f7=>?_);obtain⟨T,hf⟩:=I.pos ai;have d6:=I.len;have d7:=I.big;obtain⟨g,rfl⟩:=O T;have K:(f+k)%N<N:=Nat.mod_lt _ T;have Y:=I.item k p hp;refine sS<|sO (cX (z:=.agg #[.int .u64 0,.int .i64 0,.int .i64 0]) Z λb4=>(sN (sQ (sZ Z (eI Z Z (bF Z (cv Z) (bF Z (bL 0 Z) (bZ Z (aF Z) (ag Z) (cJ Z Z (bF Z (cv Z) (bF Z (bL 1 Z) (bZ Z (aF Z) (ag Z) (cJ Z Z (bF Z (aT (r:=((f+k:Nat):Int)) Z Z eg) (cJ Z Z (bF Z (cv Z) (bF Z (bL 0 Z) ?_)))))))))))))))))
 refine iJ 13 Z (aF Z) (ag Z)<|bF Z (bh Z Z)<|bF Z (lZ (r:=(((f+k)%N:Nat):Int)) Z Z ai (by rw[np ai T]))<|bF Z (bp (z:=3) Z Z Z Z K) ?_
 refine iJ 17 Z (bR (vs:=iq p) Z) (mO dj (λj u hj=>uu K j u (by rw[Y];exact hj))) ?_;refine cK 18 Z<|aZ Z (m:=3) Z Z Z Z fx Df ?_
 exact dK [false,false,false,false] ab<|dE<|sT<|an<|kO [_] rfl (ce (vs:=iq p) Z Z Z Z (aR Z)) ⟨rfl,rfl⟩<|Ent.drop.trans<|gL I
end Go.Y

namespace Go.SL
open Go.RowKit
section
variable {P:Program} {E:Env} {ts:List (Nat×Value)} {l:List HP}
section
variable {e t:TypeId} {A:Option Addr} {o:Operand} {k:IntKind} {r:List HP}
theorem Hx {x:Operand} {b m c a z:Nat} (K:P.underlying t=some (.slice e)) (O:dm P e z) (T:ev ts x=some (.slice (some ⟨b,0,none⟩) m c)) (Y:ev ts o=some (.int k (a:Int))) (h1:a<=m) (h2:m<=c) (I:c≠a) :
 Ev P ts (.slice t x (some o) none none) (.slice (some ⟨b,a*z,none⟩) (m-a) (c-a)) Any:=by
 have:=eG (P:=P) (lo:=some o) (hi:=none) (a:=a) (b:=m) K O T ⟨k,Y⟩ rfl h1 h2;rw[if_neg I] at this;simpa[add_plain] using this
theorem Hw {x:Operand} {m c a z:Nat} (I:P.underlying t=some (.slice e)) (K:dm P e z) (O:ev ts x=some (.slice A m c)) (T:ev ts o=some (.int k (a:Int))) (Y:a<=m) (h2:m<=c) :
 Ev P ts (.slice t x (some o) none none) (.slice (if c=a then A else A.map (·.add (a*z))) (m-a) (c-a)) Any:=
 eG (P:=P) (lo:=some o) (hi:=none) (a:=a) (b:=m) I K O ⟨k,T⟩ rfl Y h2
theorem Hy {x:Operand} {m c a z:Nat} (I:P.underlying t=some (.slice e)) (K:dm P e z) (O:A=none\/∃g,A=some ⟨g,0,none⟩) (T:ev ts x=some (.slice A m c)) (Y:ev ts o=some (.int k (a:Int))) (h2:a<=c) :
 Ev P ts (.slice t x none (some o) none) (.slice A a c) Any:=by
 have:=eG (P:=P) (lo:=none) (hi:=some o) (a:=0) (b:=a) I K T rfl ⟨k,Y⟩ (Nat.zero_le _) h2;rcases O with rfl|⟨g,rfl⟩
 · simpa using this
 · simpa[add_plain] using this
theorem JH {x u:Operand} {g m c a b z:Nat} {K:IntKind} (O:P.underlying t=some (.slice e)) (T:dm P e z) (Y:ev ts x=some (.slice (some ⟨g,0,none⟩) m c)) (ho:ev ts o=some (.int k (a:Int))) (hu:ev ts u=some (.int K (b:Int))) (h1:a<=b) (h2:b<=c) (I:c≠a) :
 Ev P ts (.slice t x (some o) (some u) none) (.slice (some ⟨g,a*z,none⟩) (b-a) (c-a)) Any:=by
 have:=eG (P:=P) (lo:=some o) (hi:=some u) (a:=a) (b:=b) O T Y ⟨k,ho⟩ ⟨K,hu⟩ h1 h2;rw[if_neg I] at this;simpa[add_plain] using this
theorem IM {z:Nat} {N c f:Nat} {xs:List Value} (s:Sel (row e z (.slice A N c) N xs) l r) (O:A=none/\N=0\/∃g,A=some ⟨g,0,none⟩) (Y:N<=c) (T:xs.length=N*z) :
 ((if c=f then A else A.map (·.add (f*z)))=none/\N-f=0)\/∃gs K,(if c=f then A else A.map (·.add (f*z)))=some ⟨gs,K,none⟩/\∀w,Holds E w l->jb gs K (xs.drop (f*z)) w:=by
 rcases O with⟨rfl,rfl⟩|⟨g,rfl⟩
 · left
   refine⟨?_,Nat.zero_sub _⟩
   split<;>rfl
 · right
   by_cases h:c=f
   · rw[if_pos h]
     refine⟨g,0,rfl,λw _ j u I=>?_⟩;rw[List.drop_eq_nil_of_le (by rw[T];exact Nat.mul_le_mul_right _ ai)] at I;simp at I
   · rw[if_neg h]
     refine⟨g,f*z,by simp[add_plain],mO s λj u I=>?_⟩;rw[List.getElem?_drop] at I;exact I
theorem Jv {z:Nat} {N c f:Nat} {xs:List Value} (s:Sel (row e z (.slice A N c) N xs) l r) (O:A=none/\N=0\/∃g,A=some ⟨g,0,none⟩) (T:f<=N) :
 (A=none/\f=0)\/∃gs K,A=some ⟨gs,K,none⟩/\∀w,Holds E w l->jb gs K (xs.take (f*z)) w:=by
 rcases O with⟨rfl,rfl⟩|⟨g,rfl⟩
 · exact .inl ⟨rfl,ai⟩
 · refine .inr ⟨g,0,rfl,mO s λj u I=>?_⟩
   rw[List.getElem?_take] at I;rw[Nat.zero_add]
   split at I
   · exact I
   · cases I
end
end
end Go.SL
namespace Go.Y
open Go.Proofs Go.RowKit Go.SL
open FK (gg dJ dc)
variable {G:Env->Prop}
theorem uO {q:List FK.Pl} {p:FK.Pl} (e:Nat) (C:EC):dZ G 125 [qP e] [dV e C (p::q)] λv m=>v=.tuple #[iW p,.bool true]/\m=[dV e C q]:=by
 refine bz Tryz.func125 Z λE fr hE=>ae (jn .head λA N c f rg K O d8 d9 f7=>?_);obtain⟨hN,T⟩:=K.pos cP;have I:=K.len;have d7:=K.big;simp only[List.length_cons] at I ⊢;obtain⟨g,rfl⟩:=O hN;obtain⟨Y,d6⟩:=K.pop (z:=⟨0,0,0⟩);refine sS<|sO (cX (z:=.agg #[.int .u64 0,.int .i64 0,.int .i64 0]) Z λb2=>(sB Z (sQ (sS (sM Z (dA Z (bX 2 Z (aE Z Z Z Z (sP (bC (r:=false) Z Z (by rw[decide_eq_false_iff_not];omega)) (sN (ak Z (ah (sT (sQ ?_))))))))))))))
 refine sZ Z<|eI Z Z<|dv 0 Z Z Z<|bZ Z (aF Z) (ag Z)<|cJ Z Z<|dv 1 Z Z Z<|bZ Z (aF Z) (ag Z)<|bF Z (bp (z:=3) Z Z Z Z T) ?_
 refine iJ 9 Z (bR (vs:=iq p) Z) (mO dj (λj u hj=>uu T j u (by rw[Y];exact hj))) ?_;refine cK 10 Z<|aZ Z (m:=3) Z Z Z Z fx Df ?_
 refine dK [false,false,false] ab<|dE<|sT<|sQ<|sZ Z<|eI Z Z<|dv 0 Z Z Z<|bZ Z (aF Z) (ag Z)<|cJ Z Z<|dv 1 Z Z Z<|bZ Z (aF Z) (ag Z)<|cJ Z Z<|dv 1 Z Z Z<|bZ Z (aF Z) (ag Z)<|bF Z (aT (r:=((f+1:Nat):Int)) Z Z eg)<|bF Z (JH (a:=f) (b:=f+1) (z:=3) Z Z Z Z Z ai ai ai) ?_
 refine cK 14 Z<|AT (m:=f+1-f) (z:=iW ⟨0,0,0⟩) (zs:=iq ⟨0,0,0⟩) Z Z Z (by rw[show f+1-f=1 by omega];kernel_rfl) ai Z dj fx (by simp;omega) ?_
 rw[show f*3=0+f*3 by omega,FA T];refine dK [true,true,true] (aa (ag Z) (aa (ag Z) (aa (ag Z) ab)))<|dE<|sT<|sQ<|sZ Z<|eI Z Z<|cJ Z Z<|dv 1 Z Z Z<|bZ Z (aF Z) (ag Z)<|bF Z (aT (r:=((f+1:Nat):Int)) Z Z eg)<|cJ Z Z<|dv 0 Z Z Z<|bZ Z (aF Z) (ag Z)<|bF Z (bh Z Z)<|bF Z (lZ (r:=(((f+1)%N:Nat):Int)) Z Z ai (by rw[np ai hN]))<|dv 1 Z Z Z ?_
 refine cK 14 Z<|cp Z Z Z Z Z ii ?_
 refine dK [false,false] ab<|dE<|sT<|sS<|dS 2 Z Z<|aE Z Z Z Z<|sP (cH (r:=(q.length:Int)) Z Z eg)<|dA Z<|bX 2 Z ?_
 refine bK Z Z Z Z ii ?_;refine sN<|sS<|cE (bR (vs:=iq p) Z) (aR Z) ?_
 refine sO<|aZ Z (m:=3) Z Z Z Z fx (by rw[SL.ib];simp[Value.cells]) ?_
 exact sB Z<|an<|eb [_] rfl (ce (vs:=iq p) Z Z Z Z (aR Z)) (da Z) ⟨rfl,rfl⟩<|Ent.drop.trans<|gL d6
end Go.Y

namespace Go.Y
open Go.Proofs Go.RowKit Go.SL
open FK (gg dJ dc)
variable {G:Env->Prop}
theorem Hi {N f:Nat} {rg:Nat->FK.Pl} (Y:f<=N):ky (ky ((List.range (max 4 (2*N))).flatMap λ_=>iq ⟨0,0,0⟩) 0 ((rV N rg).drop (f*3))) ((N-f)*3) ((rV N rg).take (f*3))=rV (max 4 (2*N)) (FK.oI N f rg):=by
 have K:((List.range (max 4 (2*N))).flatMap λ_=>iq ⟨0,0,0⟩).length=max 4 (2*N)*3:=by rw[fD (k:=3) (λ_=>rfl),List.length_range]
 have hd:((rV N rg).drop (f*3)).length=(N-f)*3:=by rw[List.length_drop,kE];omega
 have O:((rV N rg).take (f*3)).length=f*3:=by rw[List.length_take,kE];omega
 apply FB
 · rw[gp,gp,K]
 · intro i j u hi E
   have hj:j<3:=by have:=(gfGet.1 E).1;simpa using this
   unfold FK.oI at E
   split at E
   · rename_i T
     rw[jg _ _ _ _ (by rw[O];omega)];have I:=nt ((rV N rg).drop (f*3)) ((List.range (max 4 (2*N))).flatMap λ_=>iq ⟨0,0,0⟩) 0 (i*3+j) u (by rw[hd,K];omega) (by
      rw[List.getElem?_drop];have:=uu (N:=N) (rg:=rg) (i:=f+i) ai j u E
      rwa [show 0+(f+i)*3+j=f*3+(i*3+j) by omega] at this)
     rwa [Nat.zero_add] at I
   · rename_i T
     split at E
     · rename_i I
       have h3:=nt ((rV N rg).take (f*3)) (ky ((List.range (max 4 (2*N))).flatMap λ_=>iq ⟨0,0,0⟩) 0 ((rV N rg).drop (f*3))) ((N-f)*3) ((i-(N-f))*3+j) u (by rw[O,gp,K];omega) (by
        rw[List.getElem?_take,if_pos ai];have:=uu (N:=N) (rg:=rg) (i:=i-(N-f)) ai j u E
        rwa [show 0+(i-(N-f))*3+j=(i-(N-f))*3+j by omega] at this)
       rwa [show(N-f)*3+((i-(N-f))*3+j)=i*3+j by omega] at h3
     · rename_i I
       rw[jg _ _ _ _ (by rw[O];omega),jg _ _ _ _ (by rw[hd];omega)];exact gW (f:=λ_=>iq ⟨0,0,0⟩) (k:=3) (λ_=>rfl) (l:=List.range (max 4 (2*N))) (x:=i) j (by simp[hi]) E
theorem tw {q:List FK.Pl} (e:Nat) (C:EC) (p:FK.Pl) (hq:q.length<=400):dZ G 102 [qP e,iW p] [dV e C q] λv m=>v=.tuple #[]/\m=[dV e C (q++[p])]:=by
 refine bz Tryz.func102 Z λE fr hE=>ae<|sS<|sO (cL Z Z λb3=>(jn bM λA N c f rg I Y d8 K d6=>?_))
 have d9:=I.len;have T:=I.big;refine sN ?_;refine sQ<|cT (X:=Nat×Nat×Nat×Nat×(Nat->FK.Pl)) (λy=>[(0,qP e),(3,aX b3)]) (λy=>oC e C (.slice (some ⟨y.1,0,none⟩) y.2.1 y.2.2.1) y.2.2.2.1 q.length::row 157 3 (.slice (some ⟨y.1,0,none⟩) y.2.1 y.2.2.1) y.2.1 (rV y.2.1 y.2.2.2.2)::blk b3 157 (Is p)::fr) (λy=>FK.RingOk y.2.1 y.2.2.2.1 q y.2.2.2.2/\q.length<y.2.1/\y.2.1<=y.2.2.1/\y.2.2.1<=maxLen) ?_ ?_
 ·
  refine sQ<|sZ Z<|eI Z Z<|dv 2 Z Z Z<|bZ Z (aF Z) (ag Z)<|cJ Z Z<|dv 0 Z Z Z<|bZ Z (aF Z) (ag Z)<|bF Z (bh Z Z)<|bF Z (bC Z Z Z)<|dE<|sT ?_
  refine aA Z (λf8=>?_) λf8=>?_
  ·
   have f9:q.length=N:=ai;have hA:A=none/\N=0\/∃g,A=some ⟨g,0,none⟩:=by
    rcases Nat.eq_zero_or_pos N with h|h
    · rcases d8 h with h'|h'
      · exact .inl ⟨h'.1,h⟩
      · exact .inr h'
    · exact .inr (Y h)
   have d7:f<=N:=by rcases I.fst with h|h<;>omega
   refine sS<|dS 0 Z Z<|aE Z Z Z Z<|sP (bh Z Z)<|sP (l5 (r:=((2*N:Nat):Int)) Z Z eg)<|sP (rL (r:=((max 4 (2*N):Nat):Int)) Z Z ai) ?_
   refine sO (Ct (zc:=iq ⟨0,0,0⟩) Z Z Lb Z Z ai Z ai ai λgb=>?_);refine sB Z<|sQ<|sZ Z<|eI Z Z<|cJ Z Z<|dv 0 Z Z Z<|bZ Z (aF Z) (ag Z)<|cJ Z Z<|dv 1 Z Z Z<|bZ Z (aF Z) (ag Z)<|bF Z (Hw (a:=f) (z:=3) Z Z Z Z d7 K) ?_
   refine cK 10 Z<|FF (z:=3) (b:=gb) (o:=0) (news:=(rV N rg).drop (f*3)) Z Z Z Z Z ai (by rw[List.length_drop,kE];omega) (IM dj hA K (kE _ _)) (λu hu=>Cl _ _ u (List.mem_of_mem_drop hu)) (by rw[List.length_drop,kE,List.size_toArray,fD (k:=3) (λ_=>rfl),List.length_range];omega) ?_
   refine dK [true,true] (aa (ag Z) (aa (ag Z) ab))<|dr 11 Z (aQ Z)<|dE<|sT<|sQ<|sZ Z<|eI Z Z<|cJ Z Z<|bF Z (Hx (a:=N-f) (z:=3) Z Z Z Z ai (cm _) ai)<|cJ Z Z<|dv 0 Z Z Z<|bZ Z (aF Z) (ag Z)<|cJ Z Z<|dv 1 Z Z Z<|bZ Z (aF Z) (ag Z)<|bF Z (Hy (a:=f) (z:=3) Z Z (hA.imp And.left id) Z Z ai) ?_
   refine cK 12 Z<|FF (z:=3) (b:=gb) (o:=(N-f)*3) (news:=(rV N rg).take (f*3)) Z Z Z Z Z ai (by rw[List.length_take,kE];omega) (Jv dj hA d7) (λu hu=>Cl _ _ u (List.mem_of_mem_take hu)) (by rw[List.length_take,kE,SL.ib,List.size_toArray,fD (k:=3) (λ_=>rfl),List.length_range];omega) ?_
   refine dK [true,true] (aa (ag Z) (aa (ag Z) ab))<|dE<|sT<|sG<|sM Z<|sM Z<|dS 0 Z Z ?_
   refine bK Z Z Z Z ii ?_;refine dA Z<|bX 1 Z ?_
   refine bK Z Z Z Z ii ?_;refine aq ?_;exact bd (gb,max 4 (2*N),max 4 (2*N),0,FK.oI N f rg) ⟨I.grow f9 ai,(by show q.length<max 4 (2*N);omega),cm _,(show max 4 (2*N)<=9223372036854775807 by omega)⟩ cf (by
    refine(Ent.cons (Ent.cons Ent.drop)).trans (Ent.cons (dI (m:=max 4 (2*N)) (cm _) (show max 4 (2*N)<=9223372036854775807 by omega) (by rw[SL.ib,SL.ib,List.size_toArray,fD (k:=3) (λ_=>rfl),List.length_range]) ?_));rw[jX,jX,List.toList_toArray,Hi d7,List.take_of_length_le (by rw[kE];omega)])
  ·
   have O:q.length<N:=ai;obtain⟨g,rfl⟩:=Y ai;exact ah<|bd (g,N,c,f,rg) ⟨I,O,K,d6⟩ cf aN
 clear I Y d8 K d6 d9 T;clear A N c f rg;rintro⟨g,N,c,f,rg⟩ ⟨I,O,K,d6⟩;replace I:FK.RingOk N f q rg:=I;replace O:q.length<N:=O;refine al (l':=oC e C (.slice (some ⟨g,0,none⟩) N c) f q.length::row 157 3 (.slice (some ⟨g,0,none⟩) N c) N (rV N rg)::blk b3 157 (Is p)::fr) aN ?_;have hf:f<N:=by rcases I.fst with h|h<;>omega
 have T:=I.big;have f7:(f+q.length)%N<N:=Nat.mod_lt _ ai;refine sQ<|sZ Z<|eI Z Z<|dv 0 Z Z Z<|bZ Z (aF Z) (ag Z)<|cJ Z Z<|dv 1 Z Z Z<|bZ Z (aF Z) (ag Z)<|cJ Z Z<|dv 2 Z Z Z<|bZ Z (aF Z) (ag Z)<|bF Z (aT (r:=((f+q.length:Nat):Int)) Z Z eg)<|cJ Z Z<|dv 0 Z Z Z<|bZ Z (aF Z) (ag Z)<|bF Z (bh Z Z) ?_
 refine dr 18 Z (lZ (r:=(((f+q.length)%N:Nat):Int)) Z Z ai (by rw[np ai ai]))<|bZ Z (bR (vs:=iq p) Z) (aR Z)<|bF Z (bp (z:=3) Z Z Z Z f7) ?_
 refine cK 21 Z<|eU (k:=3) bM Z Z Z Z fx ai ?_
 rw[FA f7];refine dK [false,false,false,false,false] ab<|dE<|sT<|sG<|dS 2 Z Z<|aE Z Z Z Z<|sP (aT (r:=((q.length+1:Nat):Int)) Z Z eg)<|dA Z<|bX 2 Z ?_
 refine bK Z Z Z Z ii ?_;refine aq ?_;have mt:=I.push O p;refine bm [dV e C (q++[p])] rfl ⟨rfl,rfl⟩ ?_;have hl:q.length+1=(q++[p]).length:=by simp
 rw[hl];exact(Ent.cons (Ent.cons Ent.drop)).trans (gL mt)
end Go.Y

namespace Go.SL
open Go.RowKit
open Go.ChangeMaps (setBlock)
def wB {K:Type} (enc:K->Value) (it b:Nat) (m left:List (K×Value)) (Y:Option (K×Value)) (w:World):Prop:=
 ∃T I O,w.heap[b]?=some (.map T I)/\T.toList.map (λe=>(e.key,e.val))=m.map (λp=>(enc p.1,p.2))/\(∀x∈T.toList,x.born<I)/\(T.toList.map (·.born)).Nodup/\
  w.heap[it]?=some (.mapIter (some b) I O I)/\(leftOf T O).toList.map (λe=>(e.key,e.val))=left.map (λp=>(enc p.1,p.2))/\
  ∀p,Y=some p->∃e∈T.toList,∃s':Array Nat,O=s'.push e.born/\e.key=enc p.1/\e.val=p.2
def dC {K:Type} (enc:K->Value) (O b:Nat) (m left:List (K×Value)) (I:Option (K×Value)):HP where
 sat w F:=(F O/\F b)/\wB enc O b m left I w
 loc hFG hk h:=⟨⟨hFG _ h.1.1,hFG _ h.1.2⟩,let⟨es,c,s,h1,h2,h3,h4,h5,h6⟩:=h.2;⟨es,c,s,(hk _ h.1.2).trans h1,h2,h3,h4,(hk _ h.1.1).trans h5,h6⟩⟩
theorem Ent.ranged {K:Type} {enc:K->Value} {T b:Nat} {m left:List (K×Value)} {I:Option (K×Value)} {r:List HP}:Ent (dC enc T b m left I::r) (cA enc b m::r):=λ_w _ ⟨F1,F2,Y,h2,hd,O,hl⟩=>
 ⟨F1,F2,Y,h2,hd,⟨O.1.2,let⟨es,c,_,a1,a2,a3,a4,_⟩:=O.2;⟨es,c,a1,a2,a3,a4⟩⟩,hl⟩
theorem tI {α:Type} {f:α->Nat}:∀{l:List α} {j:Nat} {e:α},(l.map f).Nodup->l[j]?=some e->l.filter (λx=>f x !=f e)=l.eraseIdx j
 | [],_,_,_,h=>by simp at h
 | a::l,0,e,hn,h=>by
  simp at h;subst h;rw[List.map_cons,List.nodup_cons] at hn;simp only[List.eraseIdx_zero,List.tail_cons,List.filter_cons,bne_self_eq_false,Bool.false_eq_true,if_false];refine List.filter_eq_self.2 λx I=>?_;have:f x≠f a:=λe=>hn.1 (e▸List.mem_map_of_mem I);simpa using this
 | a::l,j+1,e,hn,h=>by
  rw[List.map_cons,List.nodup_cons] at hn;have O:e∈l:=du (by simpa using h);have:f a≠f e:=λq=>hn.1 (q▸List.mem_map_of_mem O);rw[List.filter_cons,if_pos (by simpa using this),List.eraseIdx_cons_succ,tI hn.2 (by simpa using h)]
theorem yW (O:Array MapEntry) (I:Array Nat) (n:Nat):(leftOf O (I.push n)).toList=(leftOf O I).toList.filter λe=>e.born !=n:=by
 unfold leftOf;simp only[Array.toList_filter,List.filter_filter];refine List.filter_congr λe _=>?_
 by_cases h:e.born=n
 · simp[h]
 · simp[h]
section
variable {P:Program} {E:Env} {n:Nat} {D:List Deferred} {ts:List (Nat×Value)} {l:List HP} {ops:Array Oper} {Q:Exit->Act->World->Prop} {i:Nat} {ty:TypeId} {pos:String} {af:Array Edge} {g:Option (Nat×Bool)} {K:Type} {enc:K->Value}
section
variable {Kk:Act->World->Prop} {r:List HP}
theorem l6 {t kt et:TypeId} {x:Operand} {b:Nat} {m:List (K×Value)} (hi:Nat.blt i n=true) (ht:P.underlying t=some (.map kt et)) (hx:ev ts x=some (.map (some b))) (s:Sel (cA enc b m) l r)
 (h:∀it,At E n D ((i,.pointer (some ⟨it,0,none⟩))::ts) (dC enc it b m m none::r) Kk):At E n D ts l (λac w=>(Oper.mk (some i) (.range t x) ty pos af g).wp P ac w Kk Q):=λac w f hw=>by
 have O:=hw.sel s;obtain⟨es,c,hb,hm,hs1,d6⟩:=iN .head w O;have hg:=MapKept.run_getObj_map (P:=P) hb;have hr:(execOp ac.eval (Oper.mk (some i) (.range t x) ty pos af g)).run P w=.ok (.value (.pointer (some ⟨w.heap.size,0,none⟩))) (w.alloc (.mapIter (some b) c #[] c)):=by
  have T:(newObj (.mapIter (some b) c #[] c)).run P w=.ok w.heap.size (w.alloc (.mapIter (some b) c #[] c)):=rfl;simp only[execOp,f.eval hx,Instr.range,Sem.run_bind,run_underlying ht,hg,Result.andThen_ok,Sem.run_pure,T]
 show(Oper.mk (some i) (.range t x) ty pos af g).wp P ac w Kk Q;unfold Oper.wp;rw[hr];have h0:=O.alloc (.mapIter (some b) c #[] c);have d7:b<w.heap.size:=(Array.getElem?_eq_some_iff.1 hb).1;refine h _ _ _ (f.put i (Nat.le_of_ble_eq_true hi) _) ⟨h0.is,?_⟩;obtain⟨F1,F2,h1,h2,hd,Y,G1,G2,g1,g2,gd,hq,hl⟩:=h0.star;refine⟨λk=>F1 k\/G1 k,G2,λk I=>I.elim (h1 k) (λI=>h2 k (g1 k I)),λk I=>h2 k (g2 k I),λk a b=>a.elim (λa=>hd k a (g2 k b)) (λa=>gd k a b),⟨⟨.inl Y.1,.inr hq.1⟩,?_⟩,hl⟩;refine⟨es,c,#[],?_,hm,hs1,d6,Y.2,?_,λp Y=>by cases Y⟩
 · rw[Below.heap_alloc _ _ _ d7];exact hb
 · rw[<-hm]
   congr 2
   unfold leftOf;simp
theorem kX {O b:Nat} {m left:List (K×Value)} {I:Option (K×Value)} (s:Sel (dC enc O b m left I) l r):∀w,Holds E w l->wB enc O b m left I w:=λw hw=>by
 obtain⟨F1,_,_,_,_,T,_⟩:=(hw.sel s).star;exact T.2
theorem jt {x:Operand} {I b:Nat} {m left:List (K×Value)} {f7:Option (K×Value)} (hi:Nat.blt i n=true) (hx:ev ts x=some (.pointer (some ⟨I,0,none⟩))) (s:Sel (dC enc I b m left f7) l r)
 (h0:left=[]->At E n D ((i,.tuple #[.bool false])::ts) (dC enc I b m [] none::r) Kk)
 (h1:∀j p,left[j]?=some p->At E n D ((i,.tuple #[.bool true,enc p.1,p.2])::ts) (dC enc I b m (left.eraseIdx j) (some p)::r) Kk) :
 At E n D ts l (λac w=>(Oper.mk (some i) (.next x false) ty pos af g).wp P ac w Kk Q):=λac w f hw=>by
 have d7:=hw.sel s;obtain⟨es,c,O,hb,hm,hs1,f9,hr,hl,hc⟩:=kX .head w d7;show(Oper.mk (some i) (.next x false) ty pos af g).wp P ac w Kk Q;rcases run_next_at (P:=P) w ty I b c c O es c hr hb hs1 (cm _) with⟨hz,d6⟩|⟨e,he,w1,mt,d6⟩
 · have d8:(execOp ac.eval (Oper.mk (some i) (.next x false) ty pos af g)).run P w=.ok (.value (.tuple #[.bool false])) w:=by
    simp[execOp,f.eval hx,d6]
   unfold Oper.wp;rw[d8];have t6:left=[]:=by
    have:=congrArg List.length hl;rw[List.length_map,List.length_map,Array.length_toList,hz] at this;exact List.eq_nil_of_length_eq_zero this.symm
   subst t6;refine h0 Z _ _ (f.put i (Nat.le_of_ble_eq_true hi) _)<|d7.ent ?_
   exact λw F ⟨F1,F2,a1,a2,a3,hp,a4⟩=>⟨F1,F2,a1,a2,a3,⟨hp.1,let⟨es,c,s,q1,q2,q3,q4,q5,q6,_⟩:=hp.2;⟨es,c,s,q1,q2,q3,q4,q5,q6,λp hp=>by cases hp⟩⟩,a4⟩
 · have d8:(execOp ac.eval (Oper.mk (some i) (.next x false) ty pos af g)).run P w=.ok (.value (.tuple #[.bool true,e.key,e.val])) (setBlock w1 I (.mapIter (some b) c (O.push e.born) c)):=by
    simp[execOp,f.eval hx,d6]
   unfold Oper.wp;rw[d8];obtain⟨j,hj⟩:=List.getElem?_of_mem he;have T:=congrArg (λl=>l[j]?) hl;simp only[List.getElem?_map,hj,Option.map_some] at T;obtain⟨p,hp,Y⟩:∃p,left[j]?=some p/\(e.key,e.val)=(enc p.1,p.2):=by
    cases hq:left[j]? with
    | none=>rw[hq] at T;cases T
    | some p=>rw[hq] at T;simp only[Option.map_some,Option.some.injEq] at T;exact⟨p,rfl,T⟩
   simp only[Prod.mk.injEq] at Y;rw[Y.1,Y.2];have t7:Holds E w1 (dC enc I b m left f7::r):=by
    rcases mt with rfl|rfl
    · exact d7
    · exact d7.drawn _
   have t8:e∈es.toList:=by
    unfold leftOf at he;rw[Array.toList_filter] at he;exact(List.mem_filter.1 he).1
   have d9:w1.heap=w.heap:=by rcases mt with rfl|rfl<;>rfl
   have wf:I≠b:=λq=>by rw[q,hb] at hr;cases hr
   refine h1 j p hp _ _ (f.put i (Nat.le_of_ble_eq_true hi) _) ?_;refine t7.turn Z Z Z (by simp[setBlock]) λF1 hF f8=>⟨F1,λk hk=>⟨.inl hk,by simpa[setBlock] using(f8 k hk).1⟩,⟨hF.1,es,c,O.push e.born,?_,hm,hs1,f9,?_,?_,?_⟩,λk _ hk=>?_⟩
   · show(w1.heap.setIfInBounds I _)[b]?=_
     rw[Array.getElem?_setIfInBounds_ne wf,d9];exact hb
   · show(w1.heap.setIfInBounds I _)[I]?=_
     have:=(f8 I hF.1.1).1;simp[this]
   · rw[yW,tI (f:=λe:MapEntry=>e.born) ?_ hj,ik,hl,<-ik]
     unfold leftOf;rw[Array.toList_filter];exact f9.sublist<|List.filter_sublist.map _
   · intro q hq
     injection hq with hq;subst hq;exact⟨e,t8,O,rfl,Y.1,Y.2⟩
   · have:k≠I:=λq=>by subst q;exact hk hF.1.1
     show(w1.heap.setIfInBounds I _)[k]?=_;rw[Array.getElem?_setIfInBounds_ne (Ne.symm this)]
theorem lJ {x:Operand} {I b:Nat} {m left:List (K×Value)} {p:K×Value} (Y:ev ts x=some (.pointer (some ⟨I,0,none⟩))):Ev P ts (.entry x) (.tuple #[enc p.1,p.2]) (wB enc I b m left (some p)):=by
 intro ac w _ _ _ _ _ kn ⟨es,c,T,hb,hm,hs1,O,hr,hl,hc⟩;obtain⟨e,he,s',rfl,hk,hv⟩:=hc p rfl;have:=run_entry_at (P:=P) w I b c s' es c e hr hb he O;rw[hk,hv] at this;simp[execOp,kn.eval Y,this]
end
end
end Go.SL

namespace Go.Y
open Go.Proofs
end Go.Y

namespace Go.SL
open Go.RowKit
def under (n:Nat) (p:HP):HP where
 sat w F:=p.sat w (λk=>F k/\k<n)
 loc hFG hk h:=p.loc (λ_ h=>⟨hFG _ h.1,h.2⟩) (λ_ h=>hk _ h.1) h
theorem Star.under {w:World} {n:Nat}:∀{l:List HP} {F:Nat->Prop},Star w l F->(∀k,F k->k<n)->Star w (l.map (under n)) F
 | [],_,_,_=>trivial
 | p::_l,_F,⟨F1,F2,h1,h2,hd,hp,hl⟩,hF=>⟨F1,F2,h1,h2,hd,p.loc (λk h=>⟨h,hF k (h1 k h)⟩) (λ_ _=>rfl) hp,Star.under hl λk h=>hF k (h2 k h)⟩
theorem mD {w:World} {n:Nat}:∀{l:List HP} {F:Nat->Prop},Star w (l.map (SL.under n)) F->Star w l (λk=>F k/\k<n)
 | [],_,_=>trivial
 | _p::_l,_F,⟨F1,F2,h1,h2,hd,hp,hl⟩=>⟨λk=>F1 k/\k<n,λk=>F2 k/\k<n,λk h=>⟨h1 k h.1,h.2⟩,λk h=>⟨h2 k h.1,h.2⟩,λk a b=>hd k a.1 b.1,hp,mD hl⟩
def E4 (E:Env) (n:Nat) (I:World):HP where
 sat w F:=∀k,n<=k->E.free I k->F k/\w.heap[k]?=I.heap[k]?
 loc hFG hk h:=λk a b=>⟨hFG _ (h k a b).1,(hk _ (h k a b).1).trans (h k a b).2⟩
theorem GU {E:Env} {n:Nat} {I W:World} {F:Nat->Prop} (h:(E4 E n I).sat W F) (Y:E.is I) (i:E.is W):∀b,n<=b->b<I.heap.size->W.heap[b]?=I.heap[b]?:=λb hb O=>by
 by_cases T:∃p∈E.fixed,p.1=b
 · obtain⟨p,K,rfl⟩:=T
   rw[i.fixed p K,Y.fixed p K]
 · exact(h b hb ⟨O,λp K e=>T ⟨p,K,e⟩⟩).2
end Go.SL
namespace Go.Y
open Go.Proofs Go.RowKit Go.SL
variable {G:Env->Prop}
theorem AQ {l:List FK.Node} {A:Option Addr} {c:Nat} {F:FuncId} {cap:Array Value} {L:List Nat->List HP} (hl:l.length<=12) (hv:∀i,∀k∈FK.fP l i,k<l.length) (d8:∀n∈l,∀x∈n.after,0<=x)
 (hF:∀(args:Array Value) (W:World),(callFunc F args).run Tryz.prog W=.ok (.enter F args) W) (hG:∀E w,G E->E.is w->Tab w)
 (K:∀n T w F,Star w (L T) F->(∀k,F k->k<n)->NodesAt w n A c l)
 (d7:∀n T k,k<l.length->k∉T->(∀j∈FK.fP l k,j∈T)->Does Tryz.prog G F (#[.int .i64 k]++cap) ((L T).map (SL.under n)) λv m=>v=.tuple #[]/\m=(L (T++[k])).map (SL.under n)) :
 Does Tryz.prog G 107 #[.slice A l.length c,.func (.func F) #[] cap] (L []) λv m=>∃left T,v=.int .u64 (left:Nat)/\FK.Ordering l left T/\(∀i,left.testBit i=true->∃k∈FK.fP l i,left.testBit k=true)/\m=L T:=λE w fr hE hw=>by
 have d9:∀q∈E.fixed,q.1<w.heap.size:=λq hq=>(Array.getElem?_eq_some_iff.1 (hw.is.fixed q hq)).1;refine(ll w w.heap.size A c l F cap (λW T=>E.is W/\w.heap.size<=W.heap.size/\Star W (L T++fr) (E.free w)) (cm _) hl hv d8 hF ⟨hw.is,cm _,hw.star⟩ ?_ ?_ ?_).mono ?_
 · rintro W T ⟨I,O,h3⟩
   obtain⟨F1,F2,f1,_,_,g1,_⟩:=Star.append h3;exact⟨K w.heap.size T W F1 g1 (λk hk=>(f1 k hk).1),hG E W hE I,O⟩
 · rintro W W' T ⟨I,O,h3⟩ hb
   refine⟨⟨hb.os.trans I.os,hb.tape.trans I.tape,hb.output.trans I.output,λq hq=>(hb.block q.1 (d9 q hq)).trans (I.fixed q hq)⟩,Nat.le_trans O hb.size,h3.loc (λ_ h=>h) λk hk=>hb.block k hk.1⟩
 · rintro W T k ⟨I,O,h3⟩ f9 hk f7 hT
   have f8:Star W (((L T).map (SL.under w.heap.size))++(fr.map (SL.under w.heap.size)++[E4 E w.heap.size W])) (E.free W):=by
    have a1:Star W ((L T++fr).map (SL.under w.heap.size)) (E.free w):=Star.under h3 λk h=>h.1;rw[List.map_append] at a1;have:=Star.join (m:=[E4 E w.heap.size W]) (F:=E.free W) (F1:=E.free w) (F2:=λk=>w.heap.size<=k/\E.free W k) (λk h=>⟨Nat.lt_of_lt_of_le h.1 O,h.2⟩) (λk h=>h.2) (λk a b=>by have:=a.1;omega) a1 ⟨λk=>w.heap.size<=k/\E.free W k,λ_=>False,λ_ h=>h,λ_ h=>h.elim,λ_ _ h=>h.elim,λk a b=>⟨⟨a,b⟩,rfl⟩,trivial⟩
    rwa [List.append_assoc] at this
   refine(d7 w.heap.size T k hk f7 hT E W _ hE ⟨I,f8⟩).mono ?_;rintro e W' ⟨v,m,rfl,⟨rfl,rfl⟩,hH⟩;have hs1:=hH.star;rw[<-List.append_assoc] at hs1;obtain⟨G1,G2,g1,g2,gd,b1,b2⟩:=Star.append hs1;obtain⟨K1,K2,k1,_,_,hm,_⟩:=b2;have Y:=GU hm I hH.is;rw[<-List.map_append] at b1;have b3:=mD b1;have d6:W.heap.size<=W'.heap.size:=by
    have h4:=Y (W.heap.size-1) ai ai;have h5:W.heap[W.heap.size-1]?=some (W.heap[W.heap.size-1]'ai):=Array.getElem?_eq_getElem _;rw[h5] at h4;have:=(Array.getElem?_eq_some_iff.1 h4).1;omega
   exact⟨rfl,⟨hH.is,Nat.le_trans O d6,b3.mono λk h=>⟨h.2,(g1 k h.1).2⟩⟩,d6,Y⟩
 · rintro e w' ⟨left,T,rfl,⟨I,O,h3⟩,h4,h5⟩
   exact⟨_,_,rfl,⟨left,T,rfl,h4,h5,rfl⟩,I,h3.mono λk h=>⟨Nat.lt_of_lt_of_le h.1 O,h.2⟩⟩
end Go.Y

namespace Go.SL
open Go.RowKit
section
variable {P:Program} {E:Env} {n:Nat} {D:List Deferred} {ts:List (Nat×Value)} {l:List HP} {ops:Array Oper} {Q:Exit->Act->World->Prop} {fuel:Nat} {listed:Array Bool} {S:List (Nat×(World->Prop))}
def re:Value->Bool->Bool
 | .bool c,b=>c !=b
 | _,_=>true
theorem Ab {a:Act} {o:Oper} {j t:Nat} {b:Bool} {u:Value} (f:Fits n D ts a) (I:o.guard=some (j,b)) (K:(ops[j]?).bind (·.dst)=some t) (O:look t ts=some u) (hb:re u b=true):Region.wanted o (yielded ops a.tmps)=false:=by
 have T:=f.get t u O;have Y:yielded ops a.tmps j≠some b:=by
  unfold yielded;rw[K,Option.bind_some,T];cases u<;>simp_all[re]
 simp only[Region.wanted,I];cases hq:yielded ops a.tmps j with
 | none=>rfl
 | some c=>
  rw[hq] at Y;cases c<;>cases b<;>simp_all
theorem Bq (i:Nat) {o:Oper} {d j t:Nat} {b:Bool} {u:Value} (hi:ops[i]?=some o) (T:o.dst=some d) (hd:Nat.blt d n=true) (Y:o.guard=some (j,b)) (ht:(ops[j]?).bind (·.dst)=some t) (hv:look t ts=some u) (hb:re u b=true) (I:eC ops listed i=true)
 (h:At E n D ((d,undef)::ts) l (fe P ops (bD Q) fuel (listed.setIfInBounds i true) S)):At E n D ts l (fe P ops (bD Q) (fuel+1) listed S):=λa w f hw K=>by
 simp only[eC,Bool.and_eq_true] at I;have d6:∀p∈(i,Any)::S,p.2 w:=λp O=>by
  rcases List.mem_cons.1 O with rfl|O
  · trivial
  · exact K p O
 refine jV (v:=undef) (φ:=Any) hi (Region.noSelect_spec I.1.1) (λ_ _ _ h=>h.elim) fuel listed S a w (Region.free_spec hi I.2) (by simpa using I.1.2) (.inr ⟨Ab f Y ht hv hb,rfl⟩) trivial K ?_;rw[T];exact m8 fuel _ S i _ w<|h _ w (f.put d (Nat.le_of_ble_eq_true hd) _) hw K
theorem Hl (i:Nat) {op:Op} {ty:TypeId} {pos:String} {af:Array Edge} {d j t:Nat} {b:Bool} {v:Value} {φ:World->Prop} (hi:ops[i]?=some ⟨some d,op,ty,pos,af,some (j,b)⟩) (hd:Nat.blt d n=true) (O:(ops[j]?).bind (·.dst)=some t) (T:look t ts=some (.bool b)) (I:eC ops listed i=true) (K:Ev P ts op v φ) (Y:∀w,Holds E w l->φ w)
 (h:At E n D ((d,v)::ts) l (fe P ops (bD Q) fuel (listed.setIfInBounds i true) ((i,φ)::S))):At E n D ts l (fe P ops (bD Q) (fuel+1) listed S):=by
 simp only[eC,Bool.and_eq_true] at I;exact Hj i (_o:=⟨some d,op,ty,pos,af,some (j,b)⟩) I.1.1 hi hd O T I.1.2 I.2 K Y h
theorem Hk (i:Nat) {op:Op} {ty:TypeId} {pos:String} {af:Array Edge} {d j t:Nat} {b:Bool} {v:Value} (hi:ops[i]?=some ⟨some d,op,ty,pos,af,some (j,b)⟩) (hd:Nat.blt d n=true) (Y:(ops[j]?).bind (·.dst)=some t) (hv:look t ts=some (.bool b)) (I:eC ops listed i=true) (K:Ev P ts op v Any)
 (h:At E n D ((d,v)::ts) l (fe P ops (bD Q) fuel (listed.setIfInBounds i true) S)):At E n D ts l (fe P ops (bD Q) (fuel+1) listed S):=λa w f hw O=>by
 simp only[eC,Bool.and_eq_true] at I;have d6:∀p∈(i,Any)::S,p.2 w:=λp T=>by
  rcases List.mem_cons.1 T with rfl|T
  · trivial
  · exact O p T
 refine jV hi (Region.noSelect_spec I.1.1) (λ_ _ _ h=>h.elim) fuel listed S a w (Region.free_spec hi I.2) (by simpa using I.1.2) (.inl ⟨by simp[Region.wanted,yielded,Y,f.get t _ hv],λw hw=>K a w _ _ _ _ _ f.knows hw⟩) trivial O ?_;exact m8 fuel _ S i _ w<|h _ w (f.put d (Nat.le_of_ble_eq_true hd) v) hw O
end
section
variable {P:Program} {E:Env} {n:Nat} {D:List Deferred} {ts:List (Nat×Value)} {l:List HP} {ops:Array Oper} {Q:Exit->Act->World->Prop} {ty:TypeId} {pos:String} {af:Array Edge} {fuel:Nat} {listed:Array Bool} {S:List (Nat×(World->Prop))} {d j t:Nat} {b:Bool} {op:Op} {v:Value} {φ:World->Prop}
end
section
variable {P:Program} {E:Env} {n:Nat} {D:List Deferred} {ts:List (Nat×Value)} {l:List HP} {ops:Array Oper} {Q:Exit->Act->World->Prop} {rest:List Oper} {ty:TypeId} {pos:String} {af:Array Edge} {fuel:Nat} {listed:Array Bool} {S:List (Nat×(World->Prop))} {d j t i:Nat} {b:Bool} {op:Op} {v:Value} {φ:World->Prop}
theorem eQ (i:Nat) {o:Oper} {u:Value} (hi:ops[i]?=some o) (I:o.dst=some d) (h:At E n D ((d,undef)::ts) l (fe P ops (bD Q) fuel (listed.setIfInBounds i true) S)) (K:o.guard=some (j,b):=by rfl) (O:(ops[j]?).bind (·.dst)=some t:=by rfl) (T:look t ts=some u:=by rfl) (Y:re u b=true:=by rfl) (hd:Nat.blt d n=true:=by kernel_rfl) (hm:eC ops listed i=true:=by kernel_rfl):At E n D ts l (fe P ops (bD Q) (fuel+1) listed S):=Bq i hi I hd K O T Y hm h
theorem em (i:Nat) (hi:ops[i]?=some ⟨some d,op,ty,pos,af,some (j,b)⟩) (I:Ev P ts op v Any) (h:At E n D ((d,v)::ts) l (fe P ops (bD Q) fuel (listed.setIfInBounds i true) S)) (K:(ops[j]?).bind (·.dst)=some t:=by rfl) (O:look t ts=some (.bool b):=by rfl) (hd:Nat.blt d n=true:=by kernel_rfl) (T:eC ops listed i=true:=by kernel_rfl):At E n D ts l (fe P ops (bD Q) (fuel+1) listed S):=Hk i hi hd K O T I h
theorem kU (i:Nat) (hi:ops[i]?=some ⟨some d,op,ty,pos,af,some (j,b)⟩) (I:Ev P ts op v φ) (K:∀w,Holds E w l->φ w) (h:At E n D ((d,v)::ts) l (fe P ops (bD Q) fuel (listed.setIfInBounds i true) ((i,φ)::S))) (O:(ops[j]?).bind (·.dst)=some t:=by rfl) (T:look t ts=some (.bool b):=by rfl) (hd:Nat.blt d n=true:=by kernel_rfl) (Y:eC ops listed i=true:=by kernel_rfl):At E n D ts l (fe P ops (bD Q) (fuel+1) listed S):=Hl i hi hd O T Y I K h
end
end Go.SL
