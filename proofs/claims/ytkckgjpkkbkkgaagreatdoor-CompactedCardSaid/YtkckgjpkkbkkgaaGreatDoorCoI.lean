/- The engine's Timers: sorted by when they are due, of those due at once the elder first. -/
import Derived.Test.YtkckgjpkkbkkgaaGreatDoorCoH
import Derived.Test.YtkckgjpkkbkkgaaGreatDoorCoF
import Derived.Test.YtkckgjpkkbkkgaaGreatDoorCoE
import Derived.Test.YtkckgjpkkbkkgaaGreatDoorCoG
import Derived.Test.YtkckgjpkkbkkgaaGreatDoorCoD
import Derived.Test.YtkckgjpkkbkkgaaGreatDoorCoB
import Derived.ChangeKeysEq
set_option maxHeartbeats 4000000
set_option maxRecDepth 100000
namespace Go.Y
open Go.Proofs Go.RowKit Go.SL
variable {G:Env->Prop}
abbrev BX (x:FK.KD):List Value:=[.int .u64 x.1.run,.int .i64 x.1.node,.int .u64 x.2]
abbrev kx:Value:=.slice none 0 0
def ut (b:Nat) (l:List FK.KD):HP:=HP.ex λv:Value=>HP.all [HP.pure (l=[]->v=kx),blk b 45 #[v],row 54 3 v l.length (l.flatMap BX)]
theorem C6 {e:Nat} {p:EA} {S:FK.En} {F:FuncId} {cap:Array Value} {U:List FK.KD->HP} (Y:S.tms.length<=100000) (hF:dX Tryz.prog F=true)
 (I:∀done k a,done.length<=100000->(∃r,done++(k,a)::r=S.tms)->Does Tryz.prog G F (#[]++[iW k,.int .u64 (a:Nat)].toArray++cap) [U done] λv m=>v=.tuple #[]/\m=[U (done++[(k,a)])]) :
 dZ G 76 [aX p.w,.func (.func F) #[] cap] [aG e p S,U []] λv m=>v=.tuple #[]/\m=[aG e p S,U S.tms]:=by
 refine Does.part (pre:=[dx p.w S.now S.sets S.tms,U []]) (R:=λv m=>v=.tuple #[]/\m=[dx p.w S.now S.sets S.tms,U S.tms]) (c:=[HP.pure (ep S),dV e (ja S p) S.Lx,cA aV p.rm (eV S p),fw p S.runs,cA aV p.tm (dH S)]) ?_ ?_ ?_
 · intro E w fr hE hw
   obtain⟨F1,F2,h1,h2,hd,hp,T⟩:=hw.star;obtain⟨W,K,hs⟩:=s7 hp;have O:=congrArg List.length K.tms;rw[List.length_map] at O;refine(((Ie (w:=p.w) (cap:=cap) K.inv ai hF λdone k a T hr=>I done k a T (K.tms▸hr)).mono (R':=λv m=>v=.tuple #[]/\m=[dx p.w S.now S.sets S.tms,U S.tms]) ?_)) E w fr hE ⟨hw.is,F1,F2,h1,h2,hd,hs,T⟩;rintro v m ⟨rfl,rfl⟩;refine⟨_,⟨rfl,rfl⟩,?_⟩;rw[K.tms];exact(Ent.pure K).trans ((Ent.all (m:=[HP.pure (WOk S.now S.sets S.tms W),cb p.w W])).trans (Ent.ex (f:=λW:FK.WS=>HP.all [HP.pure (WOk S.now S.sets S.tms W),cb p.w W]) W))
 · exact(Ent.unall (m:=j0 e p S)).trans (aY tY tY)
 · rintro v m ⟨rfl,rfl⟩
   refine⟨_,⟨rfl,rfl⟩,?_⟩;refine Ent.trans ?_<|Ent.all (m:=j0 e p S)
   exact(dd dj dj dj).trans (Ent.cons (Ent.cons (Ent.cons (aY dj dj))))
theorem Al {b:Nat} (l:List FK.KD) (k:FK.Pl) (a:Nat) (hl:l.length<=100000):Does Tryz.prog G 77 (#[]++[iW k,.int .u64 (a:Nat)].toArray++#[aX b]) [ut b l] λv m=>v=.tuple #[]/\m=[ut b (l++[(k,a)])]:=by
 show dZ G 77 [iW k,.int .u64 (a:Nat),aX b] [ut b l] λv m=>v=.tuple #[]/\m=[ut b (l++[(k,a)])];refine bz Tryz.func77 Z λE fr hE=>ae ?_;refine cN .head λy=>bl ?_;refine ec .head λ_=>al (l':=blk b 45 #[y]::row 54 3 y l.length (l.flatMap BX)::fr) aN ?_;refine sS<|sO (cL Z Z λb3=>(sN (sG (cE (aF (v:=y) Z) (ag Z) (bX 0 Z (cE (aF (v:=.int .u64 k.run) Z) (ag Z) (bX 1 Z (cE (aF (v:=.int .i64 k.node) Z) (ag Z) (sM Z (sP (bT (cs:=(BX (k,a)).toArray) Z Z Z Z Z) ?_))))))))))
 refine sO (dB (m:=1) (z:=zTmr) (size:=3) (ps:=[(0,.tmp 11)]) (vs:=[.agg (BX (k,a)).toArray]) (cs:=(BX (k,a)).toArray) Z Z Z Z ai ai Z (Hr _ _ Z) λY=>?_);refine eu rfl (cU rfl rfl Jt rfl ai rfl rfl (HasVal.sel (v:=y)) (news:=BX (k,a)) rfl (λh=>by cases h) (iu (λj u h=>by simpa using h)) fx (by unfold maxLen;omega) ai λO T=>?_);refine aI (HasVal.sel (v:=O)) ?_;rintro I K rfl - - - - -
 refine bK Z Z Z Z ii ?_;refine aD b #[.slice I (l.length+1) K] rfl<|aq<|de [ut b (l++[(k,a)])] rfl ⟨rfl,rfl⟩ ?_
 refine Ent.trans ?_ ((Ent.pure (p:=l++[(k,a)]=[]->(.slice I (l.length+1) K:Value)=kx) (λh=>by simp at h)).trans ((Ent.all (m:=[HP.pure (l++[(k,a)]=[]->(.slice I (l.length+1) K:Value)=kx),blk b 45 #[.slice I (l.length+1) K],row 54 3 (.slice I (l.length+1) K) (l++[(k,a)]).length ((l++[(k,a)]).flatMap BX)])).trans (Ent.ex (f:=λv:Value=>HP.all [HP.pure (l++[(k,a)]=[]->v=kx),blk b 45 #[v],row 54 3 v (l++[(k,a)]).length ((l++[(k,a)]).flatMap BX)]) (.slice I (l.length+1) K))));rw[List.flatMap_append,List.length_append];show Ent _ (blk b 45 #[.slice I (l.length+1) K]::row 54 3 (.slice I (l.length+1) K) (l.length+1) (l.flatMap BX++BX (k,a))::fr);exact ap
theorem wR:dZ G 157 [kx,.int .i64 0,.int .i64 0,lX] [] λv m=>v=.tuple #[]/\m=[]:=by
 refine bz Tryz.func157 Z λE fr I=>aB<|bg Z<|sP (aT (r:=1) Z Z Z)<|sB Z<|aj ?_
 refine aL (X:=Unit) (λ_=>[(8,.int .i64 1),(2,.int .i64 0)]) (λ_=>fr) (λ_=>True) (λ_=>0) () trivial cf aN ?_;intro _ _;exact sQ<|bg Z<|cG Z (bB Z Z Z)<|sN<|ak Z<|aK<|av<|au<|ao<|de [] rfl ⟨rfl,rfl⟩ aN
theorem wG:dZ G 131 [kx,.int .i64 0,lX] [] λv m=>v=.tuple #[]/\m=[]:=by
 refine bz Tryz.func131 Z λE fr I=>aB<|sS<|sB Z<|bg Z<|sA Z<|sB Z<|sQ<|aj ?_
 refine aL (X:=Unit) (λ_=>[(8,.int .i64 20),(7,.int .i64 0),(6,.int .i64 20),(0,kx),(1,.int .i64 0),(2,lX)]) (λ_=>fr) (λ_=>True) (λ_=>0) () trivial cf aN ?_;intro _ _;refine sQ<|bg Z<|cG Z (rM Z Z Z)<|sN<|ak Z<|aK<|av<|au<|ao<|sT<|bg Z<|sM Z<|sM Z<|sM Z ?_
 refine bV Z wR aN ?_;refine aB<|sN<|aj ?_
 refine aL (X:=Unit) (λ_=>[(6,.int .i64 20),(1,.int .i64 0)]) (λ_=>fr) (λ_=>True) (λ_=>0) () trivial cf aN ?_;intro _ _;exact sQ<|bg Z<|cG Z (bB Z Z Z)<|sN<|ak Z<|aK<|av<|au<|ao<|de [] rfl ⟨rfl,rfl⟩ aN
theorem sort0_does:dZ G 78 [kx,lX] [] λv m=>v=.tuple #[]/\m=[]:=by
 refine bz Tryz.func78 Z λE fr I=>aB<|sG<|sM Z<|cG Z (bh Z Z)<|sM Z ?_
 refine bV Z wG aN ?_;exact aB<|aq<|de [] rfl ⟨rfl,rfl⟩ aN
theorem AD {v:Value} {X:List FR.Tmd} (T:X.length<=100000) (hs:FR.Seqs X) :
 dZ G 78 [v,lX] [row 54 3 v X.length (X.flatMap dz)] λu m=>u=.tuple #[]/\∃Y,FR.Srt X Y/\m=[row 54 3 v Y.length (Y.flatMap dz)]:=by
 intro E w fr K hw;rcases(hw.row .head).2 with⟨h0,I⟩|⟨g,cap,d6,hv,_⟩
 · obtain rfl:X=[]:=List.eq_nil_of_length_eq_zero I
   subst h0;exact((sort0_does.frame [row 54 3 kx 0 []]).mono λu m ⟨m',⟨I,h2⟩,hm⟩=>⟨_,⟨I,[],FR.Srt.nil,rfl⟩,by rw[hm,h2];exact aN⟩) E w fr K hw
 · subst hv
   refine((DB (g:=g) (c:=cap) Z T hs).mono ?_) E w fr K hw;rintro u m ⟨rfl,Y,O,rfl⟩;exact⟨_,⟨rfl,Y,O,rfl⟩,by rw[O.len];exact aN⟩
theorem yt {e:Nat} {p:EA} {S:FK.En} {τ:FK.KD->FR.Tmd} (T:∀x,dz (τ x)=BX x) (I:S.tms.length<=100000) (hs:FR.Seqs (S.tms.map τ)) :
 dZ G 47 [aX e] [aG e p S] λv m=>∃Y,FR.Srt (S.tms.map τ) Y/\(S.tms=[]->v=kx)/\m=[aG e p S,row 54 3 v Y.length (Y.flatMap dz)]:=by
 have O:S.tms.flatMap BX=(S.tms.map τ).flatMap dz:=by
  rw[List.flatMap_map];exact congrArg (λf=>S.tms.flatMap f) (funext λx=>(T x).symm)
 refine bz Tryz.func47 Z λE fr hE=>ae<|sS<|sB Z<|sS<|sO (cX (z:=.slice none 0 0) Z λb3=>(sN (sS (sM Z (dA Z (bX 6 Z ?_))))))
 refine cE (aF (v:=aX p.w) Z) (bc λ_ _ _=>rfl) ?_;refine sP (ew Z Z) ?_;refine bV Z (C6 (U:=ut b3) I Z λl k a hl _=>Al l k a hl) (Ent.trans gfE1 (Ent.cons ((Ent.row0 (e:=54) (size:=3)).trans (gfE1.trans ((Ent.pure (p:=([]:List FK.KD)=[]->kx=kx) λ_=>rfl).trans ((Ent.all (m:=[HP.pure (([]:List FK.KD)=[]->kx=kx),blk b3 45 #[kx],row 54 3 kx 0 []])).trans (Ent.ex (f:=λv:Value=>HP.all [HP.pure (([]:List FK.KD)=[]->v=kx),blk b3 45 #[v],row 54 3 v 0 []]) kx))))))) ?_;refine az<|sN<|sQ ?_
 refine cN bM λy=>bl (ec .head λK=>?_);rw[O];refine al (l':=blk b3 45 #[y]::row 54 3 y (S.tms.map τ).length ((S.tms.map τ).flatMap dz)::aG e p S::fr) (by rw[List.length_map];exact aN) ?_;refine sG<|cE (aF (v:=y) Z) (ag Z) ?_
 refine ch Z (AD (v:=y) (by rw[List.length_map];exact I) hs) gfE1 ?_;rintro v m ⟨rfl,Y,hY,rfl⟩;refine ae<|sN<|sS<|cE (aF (v:=y) Z) (ag Z)<|sB Z<|an ?_
 exact aw [aG e p S,row 54 3 y Y.length (Y.flatMap dz)] rfl Z ⟨Y,hY,K,rfl⟩ (by show Ent _ (_::_::fr);exact ap)
section
variable {τ:FK.KD->FR.Tmd} {h f e j d:Nat} {p:EA} {S:FK.En} {J:FK.Jn} {σ:FK.Dsk}
theorem wT (O:∀x,dz (τ x)=BX x) (K:S.tms.length<=100000) (T:FR.Seqs (S.tms.map τ)):eh 25 [aX f] (dg f e j d p S J σ) λv m=>∃Y,FR.Srt (S.tms.map τ) Y/\(S.tms=[]->v=kx)/\m=row 54 3 v Y.length (Y.flatMap dz)::dg f e j d p S J σ:=by
 refine bz Tryz.func25 Z λE fr hE=>cc<|sS<|sB Z<|sS<|dS 0 Z Z<|aE Z Z Z Z ?_
 refine ch Z (yt O K T) gfE1 ?_;rintro v m ⟨Y,hY,I,rfl⟩;refine az<|sB Z<|an<|aw (row 54 3 v Y.length (Y.flatMap dz)::dg f e j d p S J σ) Z Z ⟨Y,hY,I,rfl⟩ ?_
 show Ent _ (_::dT f e j::aG e p _::aM j d J::ar d σ::fr);exact ap
theorem pi (O:∀x,dz (τ x)=BX x) (K:S.tms.length<=100000) (T:FR.Seqs (S.tms.map τ)):eh 9 [aX h] (cd h f e j d p S J σ) λv m=>∃Y,FR.Srt (S.tms.map τ) Y/\(S.tms=[]->v=kx)/\m=row 54 3 v Y.length (Y.flatMap dz)::cd h f e j d p S J σ:=by
 refine bz Tryz.func9 Z λE fr hE=>bH<|sS<|sB Z<|sQ<|sS<|dS 1 Z Z<|aE Z Z Z Z<|sP (ez Z Z Z)<|sN<|ak Z<|ah<|sT<|sQ ?_
 refine sG<|dS 1 Z Z<|aE Z Z Z Z ?_
 refine ch Z (wT O K T) (Ent.trans gfE1 (Ent.cons (dd bM bM bM))) ?_;rintro v m ⟨Y,hY,I,rfl⟩;refine bH<|sB Z<|an<|aw (row 54 3 v Y.length (Y.flatMap dz)::cd h f e j d p S J σ) Z Z ⟨Y,hY,I,rfl⟩ ?_
 show Ent _ (_::bN h d f::dT f e j::aG e p S::aM j d J::ar d σ::fr);exact ap
end
end Go.Y

namespace Go.Y
open Go.Proofs Go.RowKit Go.SL
variable {G:Env->Prop}
theorem Ea (a b:Nat):dZ G 223 [aV a,aV b] [] λv m=>v=.bool (decide (a<b))/\m=[]:=by
 refine bz Tryz.func223 Z λE fr I=>aB<|sS<|sB Z<|bg Z ?_
 refine bV Z (sj a) aN ?_;exact aB<|sM Z<|bQ Z<|bQ Z<|bQ Z<|sP (aS Z Z Z)<|sM Z<|iC Z<|iC Z<|eJ (bB (r:=decide (a<b)) Z Z cP)<|sP (aS (v:=.bool (decide (a<b))) Z Z Z)<|sB Z<|an<|aw [] rfl Z ⟨rfl,rfl⟩ aN
abbrev uV (t:FR.Tmd):Value:=aV t.due
abbrev zO (g c n:Nat) (l:List FR.Tmd):HP:=row 30 1 (sV g c n) n (l.map uV)
section
variable {X l:List FR.Tmd} {v:Value}
theorem vJ {E:Env} {g c n i:Nat} {L r:List HP} {x:FR.Tmd} (s:Sel (zO g c n l) L r) (h:l[i]?=some x):∀w,Holds E w L->cR ⟨g,0+i*1,none⟩ (uV x) w:=fg s (by simp[h])
theorem J5 {i:Nat} (x:FR.Tmd):(l.map uV).set (0+i*1) (uV x)=(l.set i x).map uV:=by simp[List.map_set]
theorem wQ {g c n:Nat} (hn:X.length=n) (hb:n<=100000) (hs:X.Pairwise λx y=>x.seq<y.seq) :
 dZ G 217 [sV g c n,.int .i64 0,.int .i64 n] [zO g c n X] λv m=>v=.tuple #[]/\∃Y,FR.Srt X Y/\m=[zO g c n Y]:=by
 refine bz Tryz.func217 Z λE fr hE=>ae<|bg Z<|sP (aT (r:=((1:Nat):Int)) Z Z Z)<|sB Z<|aj ?_
 refine aL (X:=Nat×List FR.Tmd) (λx=>[(6,.int .i64 x.1),(0,sV g c n),(1,.int .i64 0),(2,.int .i64 n)]) (λx=>zO g c n x.2::fr) (λx=>(x.1<=X.length\/x.1=1)/\x.2.length=n/\FR.InsI [] X [] x.1 x.2) (λx=>X.length-x.1) (1,X) ⟨.inr Z,hn,by have:=FR.InsI.first [] X [];simpa using this⟩ cf aN ?_;rintro⟨k,W⟩ ⟨hk,I,hI⟩;replace hk:k<=X.length\/k=1:=hk;replace I:W.length=n:=I;replace hI:FR.InsI [] X [] k W:=hI;refine eY (ts':=[(6,.int .i64 k),(0,sV g c n),(1,.int .i64 0),(2,.int .i64 n)]) Z<|al (l':=zO g c n W::fr) aN ?_
 refine sQ<|bg Z<|cG Z (bB Z Z Z)<|sN ?_
 refine aA Z (λd6=>?_) λd6=>?_
 ·
  have O:k<X.length:=ai;obtain⟨x,hx⟩:∃x,X[k]?=some x:=⟨X[k],by simp[O]⟩;refine ah<|sT<|sQ<|aj<|bg Z<|sB Z<|aj ?_
  refine aL (X:=Nat×List FR.Tmd) (λx=>[(7,.int .i64 x.1),(6,.int .i64 k),(0,sV g c n),(1,.int .i64 0),(2,.int .i64 n)]) (λx=>zO g c n x.2::fr) (λy=>y.2.length=n/\FR.InsJ [] X [] k y.1 x y.2) (λx=>x.1) (k,W) ⟨I,by have:=hI.start hx;simpa using this⟩ cf aN ?_;rintro⟨j,W⟩ ⟨I,T⟩;replace I:W.length=n:=I;replace T:FR.InsJ [] X [] k j x W:=T;refine eY (ts':=[(7,.int .i64 j),(6,.int .i64 k),(0,sV g c n),(1,.int .i64 0),(2,.int .i64 n)]) Z<|al (l':=zO g c n W::fr) aN ?_
  obtain⟨g1,g2⟩:=T.at
  have d7:=(T.len hx).2;rw[List.length_nil] at d7;refine sQ<|sQ ?_
  by_cases hA:0<j
  ·
   obtain⟨z,g3,g4,g5⟩:=g2 hA;refine sZ Z<|eI Z Z<|cJ Z Z<|bF Z (nu Z Z ai)<|cJ Z Z<|em 4 Z (bn Z)<|em 5 Z (bn Z)<|em 6 Z (bp (z:=1) Z Z Z Z ai)<|kU 7 Z (aF (v:=uV x) Z) (vJ .head g1)<|em 8 Z (bn Z)<|em 9 Z (bn Z)<|em 10 Z (cH (r:=((j-1:Nat):Int)) Z Z eg)<|em 11 Z (bp (z:=1) Z Z Z Z ai)<|kU 12 Z (aF (v:=uV z) Z) (vJ .head g3) ?_
   refine tG 13 Z Z Z Z eP<|cF Z (Ea x.due z.due) aN ?_
   rintro v m ⟨rfl,rfl⟩;refine aB<|dK [false,false] ab<|dr 14 Z (aS Z Z Z)<|dE<|sT ?_
   refine aA Z (λK=>?_) λK=>?_
   ·
    refine ah<|sT<|sQ<|aj<|sZ Z<|eI Z Z<|cJ Z Z<|cJ Z Z<|cJ Z Z<|bF Z (cH (r:=((j-1:Nat):Int)) Z Z eg)<|cJ Z Z<|cJ Z Z<|bF Z (cH (r:=((j-1:Nat):Int)) Z Z eg)<|bF Z (bp (z:=1) Z Z Z Z ai)<|bZ Z (aF (v:=uV z) Z) (vJ .head g3)<|cJ Z Z<|cJ Z Z<|bF Z (bp (z:=1) Z Z Z Z ai)<|bZ Z (aF (v:=uV x) Z) (vJ .head g1)<|bF Z (bp (z:=1) Z Z Z Z ai) ?_
    refine cK 15 Z<|fL .head Z Z Z Z ai ?_
    rw[J5];refine dK [false,false] ab<|dr 16 Z (bp (z:=1) Z Z Z Z ai) ?_
    refine cK 17 Z<|fL .head Z Z Z Z ai ?_
    rw[J5];refine dK [] ab<|dE<|am<|sT<|sG<|cG Z (cH (r:=((j-1:Nat):Int)) Z Z eg)<|sA Z<|aq ?_
    exact aC (j-1,(W.set j z).set (j-1) x) ⟨by simp[I],g5 K⟩ (by show j-1<j;omega) cf aN
   ·
    refine aK<|av<|au<|ao<|am<|sT<|sG<|cG Z (aT (r:=((k+1:Nat):Int)) Z Z eg)<|sA Z<|aq ?_
    exact aC (k+1,W) ⟨.inl O,I,T.fin hx hs λ_ z' e=>by rw[g3] at e;injection e with e;subst e;exact K⟩ (by show X.length-(k+1)<X.length-k;omega) cf aN
  ·
   refine sZ Z<|eI Z Z<|cJ Z Z<|bF Z (nw Z Z ai)<|cJ Z Z<|eQ 4 Z Z<|eQ 5 Z Z<|eQ 6 Z Z<|eQ 7 Z Z<|eQ 8 Z Z<|eQ 9 Z Z<|eQ 10 Z Z<|eQ 11 Z Z<|eQ 12 Z Z<|eQ 13 Z Z<|bF Z (aS Z Z Z)<|dE<|sT<|ak Z<|aK ?_
   refine av<|au<|ao<|am<|sT<|sG<|cG Z (aT (r:=((k+1:Nat):Int)) Z Z eg)<|sA Z<|aq ?_
   exact aC (k+1,W) ⟨.inl O,I,T.fin hx hs λh=>absurd h hA⟩ (by show X.length-(k+1)<X.length-k;omega) cf aN
 ·
  obtain⟨Y,e,s⟩:=hI.fin ai;refine aK<|av<|au<|ao ?_
  exact de [_] rfl ⟨rfl,Y,s,rfl⟩ (by rw[e];simp;exact aN)
theorem insertU0_does:dZ G 217 [kx,.int .i64 0,.int .i64 0] [] λv m=>v=.tuple #[]/\m=[]:=by
 refine bz Tryz.func217 Z λE fr I=>aB<|bg Z<|sP (aT (r:=1) Z Z Z)<|sB Z<|aj ?_
 refine aL (X:=Unit) (λ_=>[(6,.int .i64 1),(2,.int .i64 0)]) (λ_=>fr) (λ_=>True) (λ_=>0) () trivial cf aN ?_;intro _ _;exact sQ<|bg Z<|cG Z (bB Z Z Z)<|sN<|ak Z<|aK<|av<|au<|ao<|de [] rfl ⟨rfl,rfl⟩ aN
theorem uf (T:X.length<=100000) (hs:FR.Seqs X):dZ G 217 [v,.int .i64 0,.int .i64 X.length] [row 30 1 v X.length (X.map uV)] λu m=>u=.tuple #[]/\∃Y,FR.Srt X Y/\m=[row 30 1 v Y.length (Y.map uV)]:=by
 intro E w fr K hw;rcases(hw.row .head).2 with⟨h0,I⟩|⟨g,cap,d6,hv,_⟩
 · obtain rfl:X=[]:=List.eq_nil_of_length_eq_zero I
   subst h0;exact((insertU0_does.frame [row 30 1 kx 0 []]).mono λu m ⟨m',⟨I,h2⟩,hm⟩=>⟨_,⟨I,[],FR.Srt.nil,rfl⟩,by rw[hm,h2];exact aN⟩) E w fr K hw
 · subst hv
   refine((wQ (g:=g) (c:=cap) Z T hs).mono ?_) E w fr K hw;rintro u m ⟨rfl,Y,O,rfl⟩;exact⟨_,⟨rfl,Y,O,rfl⟩,by rw[O.len];exact aN⟩
theorem w9 (n:Nat) (h:n<9223372036854775808):dZ G 156 [aV n] [] λv m=>(∃k:Int,v=.int .i64 k)/\m=[]:=λE w fr _ hw=>
 (Any.bits_Len (SlLaysF0.n15.bits (P:=Tryz.prog) (ρ:=ip) {mB with}) (n:Int) w ai ai).mono λ_ _ ⟨I,K⟩=>⟨_,_,I,⟨⟨_,rfl⟩,rfl⟩,K▸hw⟩
theorem DY {I:Int} (T:X.length<=12) (K:FR.Seqs X):dZ G 193 [v,.int .i64 0,.int .i64 X.length,.int .i64 I] [row 30 1 v X.length (X.map uV)] λu m=>u=.tuple #[]/\∃Y,FR.Srt X Y/\m=[row 30 1 v Y.length (Y.map uV)]:=by
 refine bz Tryz.func193 Z λE fr hE=>ae<|sS<|sB Z<|sS<|sB Z<|aj ?_
 refine aL (X:=Unit) (λ_=>[(0,v),(1,.int .i64 0),(2,.int .i64 X.length)]) (λ_=>row 30 1 v X.length (X.map uV)::fr) (λ_=>True) (λ_=>0) () trivial cf aN ?_;intro _ _;refine aj<|bg Z<|sM Z ?_
 refine sP (cH (r:=(X.length:Int)) Z Z (by rw[Int.sub_zero];exact iI ai)) ?_;refine sB Z<|sQ<|bg Z<|sP (rM (r:=true) Z Z (zR ai))<|sN<|aO Z<|bg Z<|sM Z<|sM Z ?_
 refine ch Z (uf ai K) aN ?_;rintro v m ⟨rfl,Y,O,rfl⟩;exact ae<|sN<|an<|aH<|aJ<|cu<|aJ<|de [_] rfl ⟨rfl,Y,O,rfl⟩ aN
theorem AB (I:X.length<=12) (K:FR.Seqs X):dZ G 161 [v] [row 30 1 v X.length (X.map uV)] λu m=>u=.tuple #[]/\∃Y,FR.Srt X Y/\m=[row 30 1 v Y.length (Y.map uV)]:=by
 refine bz Tryz.func161 Z λE fr T=>ae<|aI .head ?_
 rintro A c rfl - - - - -
 refine bg Z<|sP (bh Z Z)<|sB Z<|sG<|sM Z<|sM Z<|cG Z (bJ (r:=(X.length:Int)) Z Z Z (wu64 ai)) ?_
 refine ch Z (w9 X.length ai) aN ?_;rintro v m ⟨⟨k,rfl⟩,rfl⟩;refine aB ?_;refine ch Z (DY I K) aN ?_;rintro v m ⟨rfl,Y,O,rfl⟩;exact ae<|aq<|de [_] rfl ⟨rfl,Y,O,rfl⟩ aN
end
end Go.Y

namespace FR
def iD:Nat->List Nat->List Tmd
 | _,[]=>[]
 | i,k::l=>⟨0,0,k,i⟩::iD (i+1) l
theorem xx:∀(i:Nat) (l:List Nat),(iD i l).map Tmd.due=l
 | _,[]=>rfl
 | i,k::l=>by simp[iD,xx]
theorem uG:∀(i:Nat) (l:List Nat),(∀t∈iD i l,i<=t.seq)/\Seqs (iD i l)
 | _,[]=>⟨λ_ h=>(by cases h),List.Pairwise.nil⟩
 | i,k::l=>by
  obtain⟨I,K⟩:=uG (i+1) l;refine⟨λt E=>?_,List.pairwise_cons.2 ⟨λt E=>?_,K⟩⟩
  · rcases List.mem_cons.1 E with rfl|E
    · exact cm _
    · have:=I t E;omega
  · have:=I t E
    show i<t.seq;omega
end FR
namespace Go.SL
theorem sU {p:HP}:∀{l r:List HP},Ent (p::(l++r)) (l++p::r):=Ent.perm List.perm_middle.symm
theorem Ent.back {p:HP}:∀{l r:List HP},Ent (l++p::r) (p::(l++r)):=Ent.perm List.perm_middle
end Go.SL
namespace Go.Y
open Go.Proofs
open Go Go.RowKit Go.SL
variable {G:Env->Prop}
abbrev vG (c b:Nat):HP:=blk c 138 #[.map (some b)]
theorem Bh {b c:Nat} {mm:List (Nat×Value)}:Seqs Tryz.prog G 162 #[aX c] aV (λss=>ss.Perm (mm.map (·.1))) mm.length [vG c b,cA aV b mm]:=by
 intro lo J hY;have e:(#[.func (.yield lo) #[] #[]]++#[aX c]:Array Value)=[.func (.yield lo) #[] #[],aX c].toArray:=by simp
 rw[e];refine bz Tryz.func162 Z λE fr hE=>al (l':=vG c b::cA aV b mm::(J []++fr)) aN ?_;refine sS<|cE (aF (v:=.map (some b)) Z) (ag Z)<|sO (l6 (b:=b) Z Z Z bM λO=>(sN (aj ?_)))
 refine aL (X:=List (Nat×Value)×Option (Nat×Value)×List Nat) (λ_=>[(5,aX O),(0,.func (.yield lo) #[] #[])]) (λx=>dC aV O b mm x.1 x.2.1::vG c b::(J x.2.2++fr)) (λx=>(mm.map (·.1)).Perm (x.2.2++x.1.map (·.1))) (λx=>x.1.length) (mm,none,[]) (List.Perm.refl _) cf aN ?_;rintro⟨left,T,done⟩ I;replace I:(mm.map (·.1)).Perm (done++left.map (·.1)):=I;have K:=I.length_eq;rw[List.length_append,List.length_map,List.length_map] at K;refine al (l':=dC aV O b mm left T::vG c b::(J done++fr)) aN ?_;refine sQ ?_
 by_cases HL:left=[]
 ·
  subst HL;refine sG ?_;refine sO<|jt Z Z .head (λ_=>?_) (λj q hj=>by simp at hj)
  refine bG Z Z<|sN<|sQ<|ak Z<|aK<|av<|au<|ao ?_
  rw[List.map_nil,List.append_nil] at I;exact de ([vG c b,cA aV b mm]++J done) Z ⟨done,I.symm,rfl⟩<|Ent.ranged.trans<|Ent.perm<|List.Perm.swap _ _ _
 ·
  refine sG ?_;refine sO<|jt Z Z .head (λh=>absurd h HL) λj x hx=>?_
  have Y:=(gfGet.1 hx).1;have d6:(mm.map (·.1)).Perm ((done++[x.1])++(left.eraseIdx j).map (·.1)):=by
   rw[List.append_assoc];exact I.trans<|List.Perm.append_left done ((kM hx).map (·.1))
  refine bG Z Z<|sN<|sQ<|aO Z<|ah<|sT<|aj<|sS<|cE (lJ (p:=x) Z) (kX .head)<|bG Z Z<|sB Z<|sQ<|ug ?_
  refine LI.pure Z (bn Z) ?_;refine LI.pure Z (bn Z) ?_;refine LI.yield Z Z Z (hY done x.1 ai) ((Ent.cons sU).trans sU) ?_;refine LI.pure Z (dp (r:=false) Z Z) ?_;refine LI.nil ?_;refine sT<|ak Z<|ah<|am ?_
  exact aC (left.eraseIdx j,some x,done++[x.1]) d6 (by show(left.eraseIdx j).length<left.length;rw[List.length_eraseIdx_of_lt Y];omega) cf<|Ent.back.trans<|Ent.cons Ent.back
def toldU (b:Nat) (l:List Nat):HP:=HP.ex λv:Value=>HP.all [blk b 37 #[v],row 30 1 v l.length (l.map aV)]
theorem Ent.toldU {b:Nat} {l:List Nat} {v:Value} {r:List HP}:Ent (blk b 37 #[v]::row 30 1 v l.length (l.map aV)::r) (toldU b l::r):=
 (Ent.all (m:=[blk b 37 #[v],row 30 1 v l.length (l.map aV)])).trans (Ent.ex (f:=λv:Value=>HP.all [blk b 37 #[v],row 30 1 v l.length (l.map aV)]) v)
theorem infoU:fV Tryz.prog 30 (aV 0) 1 8:=by unfold fV;kernel_rfl
theorem Lc (b:Nat) (x:Operand):Instr.fill (λi=>some (i*1,1)) (Array.map (λx=>(aV 0).cells[x%(aV 0).cells.size]!) (Array.range (1*1))) ((List.map (λx=>x.fst) [((0:Nat),x)]).zip [aV b])=some #[aV b]:=by
 have e1:Array.range (1*1)=#[0]:=rfl;rw[e1];simp[Instr.fill,Value.cells]
theorem tT {f:FuncId} {cap:Array Value} {pre:List HP} {S:List Nat->Prop} {N:Nat} (hN:N<=100000) (hb:dX Tryz.prog f=true) (Y:Seqs Tryz.prog G f cap aV S N pre) :
 dZ G 192 [kx,.func (.func f) #[] cap] pre λv m=>∃ss,S ss/\m=row 30 1 v ss.length (ss.map aV)::pre:=by
 refine BU Tryz.func192 Z Z λE fr hE=>?_;refine aB<|sS<|sO (cL Z Z λb2=>(sB Z (sQ (sS (sM Z (sN (aj ?_)))))))
 refine wS (pre:=pre) (fr:=fr) (j:=5) (λdone=>[toldU b2 done]) Z hb hE Z Y ((Ent.row0 (e:=30) (size:=1)).trans (gfE1.trans ((Ent.toldU (l:=[])).trans sU))) (λlo E' L x K h=>AI.region (LI.pure Z (aQ Z) (LI.nil (Bu h)))) (λlo E' T done x d8=>?_) λbb ss hS=>?_
 · refine AI.block<|AI.region ?_
   refine cN .head λy=>bl ?_;refine al (l':=blk b2 37 #[y]::row 30 1 y done.length (done.map aV)::T) aN ?_;refine LI.val Z (aF (v:=y) Z) (ag Z) ?_;refine LI.pure Z (bn Z) ?_;refine LI.op Z (dB (m:=1) (z:=aV 0) (size:=1) (ps:=[(0,.tmp 9)]) (vs:=[aV x]) (cs:=#[aV x]) Z Z Z Z ai ai Z (Lc _ _) λd9=>?_);refine LI.op rfl (cU rfl rfl infoU rfl ai rfl rfl (HasVal.sel (v:=y)) (news:=[aV x]) rfl (λh=>by cases h) (iu (λj u h=>by simpa using h)) fx (by unfold maxLen;omega) ai λd6 d7=>?_);refine aI (HasVal.sel (v:=d6)) ?_;rintro I O rfl - - - - -
   refine LI.op Z<|cp Z Z Z Z Z cP ?_
   refine aD b2 #[.slice I (done.length+1) O] rfl ?_;refine LI.nil<|am<|tS ?_
   refine Ent.trans (Ent.trans ?_ (Ent.toldU (v:=.slice I (done.length+1) O) (l:=done++[x]))) aN;rw[List.length_append,List.map_append];show Ent _ (blk b2 37 #[.slice I (done.length+1) O]::row 30 1 (.slice I (done.length+1) O) (done.length+1) (done.map aV++[aV x])::T);exact ap
 refine al (l':=toldU b2 ss::pz bb::(pre++fr)) ((Ent.cons Ent.back).trans (Ent.perm (List.Perm.swap _ _ _))) ?_;refine cN .head λy=>bl ?_;refine al (l':=blk b2 37 #[y]::row 30 1 y ss.length (ss.map aV)::pz bb::(pre++fr)) aN ?_;exact am<|sT<|sS<|cE (aF (v:=y) Z) (ag Z)<|sB Z<|an<|zf (row 30 1 y ss.length (ss.map aV)::pre) dj Z Z ⟨ss,hS,rfl⟩ Ent.drop
end Go.Y

namespace Go.Y
open Go.Proofs Go.RowKit Go.SL
variable {G:Env->Prop}
section
variable {f:FuncId} {cap:Array Value} {pre:List HP} {S:List Nat->Prop} {N:Nat}
theorem w8 (K:N<=100000) (O:dX Tryz.prog f=true) (I:Seqs Tryz.prog G f cap aV S N pre) :
 dZ G 160 [.func (.func f) #[] cap] pre λv m=>∃ss,S ss/\m=row 30 1 v ss.length (ss.map aV)::pre:=by
 refine bz Tryz.func160 Z λE fr Y=>aB<|sS<|sB Z<|bg Z ?_
 refine ch Z (tT K O I) aN ?_;rintro v m ⟨ss,T,rfl⟩;exact aB<|sB Z<|an<|aw (row 30 1 v ss.length (ss.map aV)::pre) Z Z ⟨ss,T,rfl⟩ aN
theorem yA (hN:N<=100000) (hb:dX Tryz.prog f=true) (O:Seqs Tryz.prog G f cap aV S N pre) (I:∀ss,S ss->ss.length<=12) :
 dZ G 135 [.func (.func f) #[] cap] pre λv m=>∃(ss K:List Nat),S ss/\K.Perm ss/\K.Pairwise (·<=·)/\m=row 30 1 v K.length (K.map aV)::pre:=by
 refine bz Tryz.func135 Z λE fr hE=>aB<|sS<|sB Z<|bg Z ?_
 refine ch Z (w8 hN hb O) aN ?_;rintro v m ⟨ss,hS,rfl⟩;refine aB ?_;have hd:=FR.xx 0 ss;have hX:(FR.iD 0 ss).map uV=ss.map aV:=by
  have:=congrArg (List.map aV) hd
  rwa [List.map_map] at this
 have T:(FR.iD 0 ss).length=ss.length:=by have:=congrArg List.length hd;rwa [List.length_map] at this
 refine al (l':=row 30 1 v (FR.iD 0 ss).length ((FR.iD 0 ss).map uV)::(pre++fr)) (by rw[hX,T];exact aN) ?_;have d6:=I ss hS;refine sB Z<|bg Z ?_
 refine ch Z (AB (X:=FR.iD 0 ss) ai (FR.uG 0 ss).2) aN ?_;rintro v m ⟨rfl,Y,hY,rfl⟩;refine ae<|sN<|bg Z<|sB Z<|an ?_
 refine aw (row 30 1 v (Y.map FR.Tmd.due).length ((Y.map FR.Tmd.due).map aV)::pre) Z Z ⟨ss,Y.map FR.Tmd.due,hS,by rw[<-hd];exact hY.perm.map _,?_,rfl⟩ ?_
 · rw[List.pairwise_map]
   refine hY.srt.imp λh=>?_;exact FR.FL h
 · rw[List.map_map,List.length_map]
   exact aN
end
theorem Ed (b:Nat):dZ G 136 [.map (some b)] [] λv m=>∃c,v=.func (.func 162) #[] #[aX c]/\m=[vG c b]:=by
 refine bz Tryz.func136 Z λE fr K=>aB<|sS<|sO (cL Z Z λI=>(sB Z (sS ?_)))
 refine sP (ew Z Z) ?_;exact sB Z<|an<|aw [vG I b] rfl Z ⟨I,rfl,rfl⟩ aN
theorem Hh {e:Nat} {p:EA} {S:FK.En} (h:S.runs.length<=12):dZ G 89 [aX e] [aG e p S] λv m=>∃I:List Nat,I.Perm (S.runs.map (·.1))/\I.Pairwise (·<=·)/\m=[aG e p S,row 30 1 v I.length (I.map aV)]:=by
 have hk:(eV S p).map (·.1)=S.runs.map (·.1):=by unfold eV;rw[List.map_map];rfl
 have hl:(eV S p).length=S.runs.length:=by unfold eV;rw[List.length_map]
 refine bz Tryz.func89 Z λE fr hE=>ae<|sS<|sB Z<|sS<|dS 1 Z Z ?_
 refine cE (aF (v:=.map (some p.rm)) Z) (bc λ_ _ _=>rfl) ?_;refine ch Z (Ed p.rm) aN ?_;rintro v m ⟨c,rfl,rfl⟩;refine ae ?_;refine al (l':=vG c p.rm::HP.pure (ep S)::dV e (ja S p) S.Lx::cA aV p.rm (eV S p)::fw p S.runs::cA aV p.tm (dH S)::dx p.w S.now S.sets S.tms::fr) (Ent.cons (Ent.unall (m:=j0 e p S))) ?_;refine ch Z (yA (by rw[hl];omega) Z (Bh (b:=p.rm) (c:=c) (mm:=eV S p)) λss T=>by have:=T.length_eq;rw[List.length_map] at this;omega) (Ent.cons gfE2) ?_;rintro v m ⟨ss,I,Y,O,K,rfl⟩;refine aB<|sB Z<|an<|aw [aG e p S,row 30 1 v I.length (I.map aV)] rfl Z ⟨I,O.trans (hk▸Y),K,rfl⟩ ?_
 refine Ent.trans ?_<|Ent.all (m:=j0 e p S)
 show Ent (row 30 1 v I.length (I.map aV)::vG c p.rm::cA aV p.rm (eV S p)::HP.pure (ep S)::dV e (ja S p) S.Lx::fw p S.runs::cA aV p.tm (dH S)::dx p.w S.now S.sets S.tms::fr) (HP.pure (ep S)::dV e (ja S p) S.Lx::cA aV p.rm (eV S p)::fw p S.runs::cA aV p.tm (dH S)::dx p.w S.now S.sets S.tms::row 30 1 v I.length (I.map aV)::fr);exact ap
end Go.Y

namespace FK
def cQ (l:List Nat):List UInt8:=l.flatMap co
theorem GE (a b:List Nat):cQ (a++b)=cQ a++cQ b:=by
 unfold cQ;rw[List.flatMap_append]
theorem DW {l:List Nat} {k n:Nat} (h:l[k]?=some n):cQ (l.take (k+1))=cQ (l.take k)++co n:=by
 rw[Go.Y.fB h,GE];simp[cQ]
theorem fW {l:List Nat} (h:∀n∈l,n<18446744073709551616):(cQ l).length<=10*l.length:=by
 induction l with
 | nil=>simp[cQ]
 | cons a l K=>
  have O:=Go.Y.gq (h a cP);have I:=K λn E=>h n (by simp[E]);unfold cQ at I ⊢;simp only[List.flatMap_cons,List.length_append,List.length_cons];omega
def zK (s:Sp):List Nat:=[s.state.toNat,s.Lu.toNat,s.token]
def xh (p:Pl):List Nat:=[p.run,p.node.toNat]
def xf (x:KD):List Nat:=[x.1.run,(x.1.node+1).toNat,x.1.what.toNat,x.2]
def jS (S:En):List Nat:=[S.now,S.seed,S.Lt,S.Ls,S.ends,S.runs.length]
def Kj (id:Nat) (R:Rn):List UInt8:=cQ [id,R.state.toNat,R.ended,(bo R.fl).length]++bo R.fl++R.Lv.flatMap λs=>cQ (zK s)
def kW (l:List (Nat×Rn)):List UInt8:=l.flatMap λr=>Kj r.1 r.2
def iX (S:En):List UInt8:=cQ (jS S)++kW S.runs++cQ [S.Lx.length]++(S.Lx.flatMap λp=>cQ (xh p))++cQ [S.tms.length]++S.tms.flatMap λx=>cQ (xf x)
end FK
namespace Go.Y
open Go.Proofs
open Go Go.RowKit Go.SL
variable {G:Env->Prop}
def jq (b:Nat) (l:List UInt8):HP:=HP.ex λv:Value=>HP.all [blk b 61 #[v],bP v l]
theorem Ent.closeBuf {b:Nat} {v:Value} {l:List UInt8} {r:List HP}:Ent (blk b 61 #[v]::bP v l::r) (jq b l::r):=
 Ent.all.trans (Ent.ex (f:=λv:Value=>HP.all [blk b 61 #[v],bP v l]) v)
abbrev ln (b:Nat):Value:=.func (.func 86) #[] #[aX b]
abbrev rJ (g:Nat) (ns:List Nat):HP:=row 30 1 (.slice (some ⟨g,0,none⟩) ns.length ns.length) ns.length (ns.map aV)
theorem HC {b:Nat} {ns:List Nat} {r:List HP} (h:ns.length<=1000):Ent (blk b 30 (ns.map aV).toArray::r) (rJ b ns::r):=
 dI (cm _) (by unfold maxLen;omega) cP (by rw[List.take_of_length_le cP])
theorem toU {x:Int} (E:0<=x) (I:x<9223372036854775808):IntKind.u64.wrap x=((x.toNat:Nat):Int):=by
 rw[SL.wu64 ai];omega
theorem CQ {P:Program} {ts:List (Nat×Value)} {s:TypeId} {x:Operand} {j:Nat} {v u:Value} (h:∀w,(Instr.field s v j).run P w=.ok u w) (E:ev ts x=some v):Ev P ts (.field s x j) u Any:=by
 intro ac w _ _ _ _ _ I _;simp[execOp,I.eval E,h]
theorem jH {b g:Nat} {ns:List Nat} {l:List UInt8} (hn:∀n∈ns,n<18446744073709551616) (hk:ns.length<=1000) (hl:l.length<=900000000):dZ G 86 [.slice (some ⟨g,0,none⟩) ns.length ns.length,aX b] [jq b l,blk g 30 (ns.map aV).toArray] λv m=>v=.tuple #[]/\m=[jq b (l++FK.cQ ns)]:=by
 refine bz Tryz.func86 Z λE fr hE=>az ?_;refine cN .head λT=>bl ?_;refine al (l':=blk b 61 #[T]::bP T l::rJ g ns::fr) (Ent.cons (Ent.cons (HC hk))) ?_;refine bg Z<|sP (bh Z Z)<|sM Z<|sN<|aj ?_
 refine aL (X:=Nat×Value) (λx=>[(7,.int .i64 x.1),(6,.int .i64 ns.length),(5,.slice (some ⟨g,0,none⟩) ns.length ns.length),(1,aX b)]) (λx=>blk b 61 #[x.2]::bP x.2 (l++FK.cQ (ns.take x.1))::rJ g ns::fr) (λx=>x.1<=ns.length) (λx=>ns.length-x.1) (0,T) (Nat.zero_le _) cf (by simp only[List.take_zero,FK.cQ,List.flatMap_nil,List.append_nil];exact aN) ?_;rintro⟨k,v⟩ I;replace I:k<=ns.length:=I;refine al (l':=blk b 61 #[v]::bP v (l++FK.cQ (ns.take k))::rJ g ns::fr) aN ?_;have d6:(l++FK.cQ (ns.take k)).length<=1000000000:=by
  have:=FK.fW (l:=ns.take k) λn h=>hn n (List.mem_of_mem_take h);rw[List.length_take] at this;rw[List.length_append];omega
 refine sS<|sP (bB Z Z Z)<|sN<|sQ ?_
 refine aA Z (λY=>?_) λY=>?_
 ·
  have K:k<ns.length:=by have:(k:Int)<(ns.length:Int):=Y;omega
  obtain⟨m,hm⟩:∃m,ns[k]?=some m:=⟨ns[k],by simp[K]⟩;refine ah<|sT<|sQ<|aj<|sS<|sP (bp (z:=1) Z Z Z Z K)<|cE (aF (v:=aV m) Z) (fg dj (by simp[hm]))<|sB Z<|sG<|aE Z Z Z Z<|sM Z ?_
  refine ch Z (gk v _ m (hn m (du hm)) ai) gfE1 ?_;rintro v m rfl;refine ae<|aI .head ?_
  rintro A1 O rfl - - - - -
  refine bK Z Z Z Z ii ?_;refine aq<|am<|sT<|sG<|sP (aT (r:=((k+1:Nat):Int)) Z Z eg)<|sM Z<|aq ?_
  have hx:l++FK.cQ (ns.take (k+1))=(l++FK.cQ (ns.take k))++FK.co m:=by rw[FK.DW hm,List.append_assoc]
  refine aC (k+1,.slice A1 ((l++FK.cQ (ns.take k))++FK.co m).length O) (by show k+1<=ns.length;omega) (by show ns.length-(k+1)<ns.length-k;omega) cf ?_;show Ent (blk b 61 #[.slice A1 ((l++FK.cQ (ns.take k))++FK.co m).length O]::_) (blk b 61 #[.slice A1 ((l++FK.cQ (ns.take k))++FK.co m).length O]::bP (.slice A1 ((l++FK.cQ (ns.take k))++FK.co m).length O) (l++FK.cQ (ns.take (k+1)))::rJ g ns::fr);rw[hx];exact aN
 ·
  refine aK<|av<|au<|ao ?_
  have hx:ns.take k=ns:=List.take_of_length_le (by have:¬(k:Int)<(ns.length:Int):=Y;omega);refine bm [jq b (l++FK.cQ ns)] rfl ⟨rfl,rfl⟩ ?_;rw[hx];exact Ent.closeBuf.trans<|Ent.cons Ent.drop
end Go.Y

namespace FK
structure Svd (S:En):Prop where
 ok:Ok S
 srt:(S.runs.map (·.1)).Pairwise (·<·)
 ends:S.ends<9223372036854775808
 tok:S.Ls<9223372036854775808
 last:S.Lt<9223372036854775808
 state:∀x∈S.runs,0<=x.2.state/\x.2.state<=9
section
variable {S:En} {id k:Nat} {R:Rn} {s:Sp}
theorem Hp {l:List (Nat×Rn)} (I:(l.map (·.1)).Nodup) (E:(id,R)∈l):l.find? (·.1==id)=some (id,R):=by
 induction l with
 | nil=>cases E
 | cons x l O=>
  rw[List.find?_cons];rcases List.mem_cons.1 E with rfl|E
  · simp
  · rw[List.map_cons,List.nodup_cons] at I
    have K:x.1≠id:=λe=>I.1 (e▸List.mem_map.2 ⟨_,E,rfl⟩);simp only[beq_eq_false_iff_ne.2 K];exact O I.2 E
theorem Ok.at (h:Ok S) (E:(id,R)∈S.runs):S.getR id=some R:=by
 unfold En.getR;rw[Hp h.ids E]
 rfl
theorem Svd.token {S:En} (h:Svd S) {id k:Nat} {R:Rn} {s:Sp} (I:S.getR id=some R) (K:R.Lv[k]?=some s):s.token<9223372036854775808:=by
 obtain⟨n,T,E⟩:=h.ok.node I K
 by_cases h3:s.state=3
 · have:=(h.ok.Ly s.token ⟨id,(k:Int),0⟩).2 ⟨id,k,s,rfl,iy I K,h3,rfl⟩
   have O:=(h.ok.tlow _ this).2;have Y:=h.tok;simp only at O;omega
 · rw[E.idle h3];decide
theorem Ok.sp (h:Ok S) (K:S.getR id=some R) (T:R.Lv[k]?=some s):1<=s.state/\s.state<=7/\0<=s.Lu/\s.Lu<=1048576:=by
 obtain⟨n,O,E⟩:=h.node K T;have I:=h.run _ _ K;have hnd:=I.fl.Lw k n (cB O) O;have Y:n.Lz<=1048576:=by
  have:=hnd.1;unfold ef at this;omega
 have:=E.trb;exact⟨E.st1,E.st7,E.tr0,ai⟩
theorem Fw (h:Svd S) (E:S.getR id=some R) (I:R.Lv[k]?=some s):∀n∈zK s,n<18446744073709551616:=by
 obtain⟨O,T,h3,Y⟩:=h.ok.sp E I;have h5:=h.token E I;intro n K;simp only[zK,List.mem_cons,List.not_mem_nil,or_false] at K;omega
theorem mU (h:Svd S) (I:S.getR id=some R):id<9223372036854775808/\0<=R.state/\R.state<=9/\R.ended<9223372036854775808/\R.Lv.length<=12/\(bo R.fl).length<=1000:=by
 have K:=Go.Y.oZ I;have E:=h.ok.run _ _ I;have O:=(h.ok.low id (List.mem_map.2 ⟨_,K,rfl⟩)).2;have T:=h.last;have h3:=h.state _ K;have Y:=E.ends;have h5:=h.ends;have h6:=E.len;have h7:=E.fl.head.2.2;have h8:=E.fl.encLen;simp only at h3;refine⟨ai,h3.1,h3.2,ai,ai,ai⟩
theorem Fz (h:Svd S) (E:S.getR id=some R):∀n∈[id,R.state.toNat,R.ended,(bo R.fl).length],n<18446744073709551616:=by
 obtain⟨K,O,h3,T,Y,h6⟩:=mU h E;intro n I;simp only[List.mem_cons,List.not_mem_nil,or_false] at I;omega
theorem vU (h:Svd S) {x:KD} (K:x∈S.tms):(-1<=x.1.node/\x.1.node<=100/\0<=x.1.what/\x.1.what<=9)/\∀n∈xf x,n<18446744073709551616:=by
 obtain⟨ha,R,T,-,E⟩:=h.ok.tms _ K;obtain⟨Y,I,h3,h4,h5,h6⟩:=mU h T;have hb:-1<=x.1.node/\x.1.node<=100/\0<=x.1.what/\x.1.what<=9:=by
  rcases E with h|⟨j,s,Y,I,h3⟩
  · omega
  · have:=(gfGet.1 I).1
    omega
 refine⟨hb,λn O=>?_⟩;simp only[xf,List.mem_cons,List.not_mem_nil,or_false] at O;omega
theorem vO (h:Svd S) {p:Pl} (I:p∈S.Lx):(0<=p.node/\p.node<=100)/\∀n∈xh p,n<18446744073709551616:=by
 obtain⟨id,k,s,rfl,O,-⟩:=(h.ok.Lx p).1 I;obtain⟨R,T,E⟩:=jO O;obtain⟨Y,h2,h3,h4,h5,h6⟩:=mU h T;have:=(gfGet.1 E).1;refine⟨by simp only;omega,λn K=>?_⟩;simp only[xh,List.mem_cons,List.not_mem_nil,or_false] at K;omega
theorem oY (h:Svd S):∀n∈jS S,n<18446744073709551616:=by
 have I:=h.ok.now;have K:=h.ok.seed;have h3:=h.ok.six;have O:=h.ends;have T:=h.tok;have Y:=h.last;intro n E;simp only[jS,List.mem_cons,List.not_mem_nil,or_false] at E;omega
theorem kI {α:Type} (f:α->List UInt8) (c:Nat):∀(l:List α),(∀x∈l,(f x).length<=c)->(l.flatMap f).length<=c*l.length
 | [],_=>by simp
 | a::l,h=>by
  have I:=h a cP;have K:=kI f c l λx E=>h x (by simp[E]);simp only[List.flatMap_cons,List.length_append,List.length_cons,Nat.mul_add,Nat.mul_one];omega
theorem wb (h:Svd S) (E:S.getR id=some R):(Kj id R).length<=40+(bo R.fl).length+30*R.Lv.length:=by
 have O:=fW (Fz h E);have T:=kI (λs=>cQ (zK s)) 30 R.Lv λs I=>by
  obtain⟨k,K⟩:=List.getElem?_of_mem I;exact fW<|Fw h E K
 unfold Kj;simp only[List.length_append,List.length_cons,List.length_nil] at O ⊢;omega
theorem Svd.len (h:Svd S):(iX S).length<=100000:=by
 have K:=fW (oY h);have h2:=kI (λr:Nat×Rn=>Kj r.1 r.2) 1400 S.runs λr T=>by
  have O:=h.ok.at T;have K:=wb h O;obtain⟨_,_,_,_,I,h6⟩:=mU h O;omega
 have h3:=kI (λp=>cQ (xh p)) 20 S.Lx λp Y=>fW (vO h Y).2;have h4:=kI (λx=>cQ (xf x)) 40 S.tms λx hx=>fW (vU h hx).2;have I:=h.ok.six;have h6:=h.ok.queueLe;have h7:=h.ok.tmsLe;have h8:=fW (l:=[S.Lx.length]) (by intro n E;simp only[List.mem_cons,List.not_mem_nil,or_false] at E;omega);have h9:=fW (l:=[S.tms.length]) (by intro n E;simp only[List.mem_cons,List.not_mem_nil,or_false] at E;omega);unfold iX kW;simp only[List.length_append,List.length_cons,List.length_nil,jS] at K h8 h9 ⊢;have e1:1400*S.runs.length<=1400*6:=Nat.mul_le_mul_left _ I;omega
def lz (S:En) (k:Nat):List UInt8:=cQ (jS S)++kW (S.runs.take k)
def Ir (id:Nat) (R:Rn):List UInt8:=cQ [id,R.state.toNat,R.ended,(bo R.fl).length]++bo R.fl
def BV (R:Rn) (j:Nat):List UInt8:=(R.Lv.take j).flatMap λs=>cQ (zK s)
def xk (S:En) (k:Nat):List UInt8:=cQ (jS S)++kW S.runs++cQ [S.Lx.length]++((S.Lx.take k).flatMap λp=>cQ (xh p))
def lY (S:En) (l:List KD):List UInt8:=cQ (jS S)++kW S.runs++cQ [S.Lx.length]++(S.Lx.flatMap λp=>cQ (xh p))++cQ [S.tms.length]++l.flatMap λx=>cQ (xf x)
theorem vD (h:S.runs[k]?=some (id,R)):lz S (k+1)=lz S k++Ir id R++BV R R.Lv.length:=by
 unfold lz Ir BV;rw[Go.Y.fB h];simp[kW,Kj]
theorem Gi {j:Nat} (h:R.Lv[j]?=some s):BV R (j+1)=BV R j++cQ (zK s):=by
 unfold BV;rw[Go.Y.fB h];simp
theorem ET {p:Pl} (h:S.Lx[k]?=some p):xk S (k+1)=xk S k++cQ (xh p):=by
 unfold xk;rw[Go.Y.fB h];simp
theorem om {α:Type} (f:α->List UInt8) (l:List α) (j:Nat):((l.take j).flatMap f).length<=(l.flatMap f).length:=Go.Y.pV f l j
theorem sK (k:Nat):(lz S k).length<=(iX S).length:=by
 have:=om (λr:Nat×Rn=>Kj r.1 r.2) S.runs k;unfold lz iX;simp only[List.length_append,kW];omega
theorem Ii (k:Nat):(xk S k).length<=(iX S).length:=by
 have:=om (λp=>cQ (xh p)) S.Lx k;unfold xk iX;simp only[List.length_append];omega
theorem Ih {l r:List KD} (h:l++r=S.tms):(lY S l).length<=(iX S).length:=by
 unfold lY iX;rw[<-h];simp only[List.length_append,List.flatMap_append];omega
theorem ES (h:S.runs[k]?=some (id,R)) (j:Nat):(lz S k++Ir id R++BV R j).length<=(iX S).length:=by
 have E:=sK (S:=S) (k+1);rw[vD h] at E;have I:=om (λs=>cQ (zK s)) R.Lv j;have h3:BV R R.Lv.length=R.Lv.flatMap λs=>cQ (zK s):=by unfold BV;rw[List.take_length]
 rw[h3] at E;unfold BV;simp only[List.length_append] at E ⊢;omega
end
end FK
namespace Go.Y
open Go.Proofs
open Go Go.RowKit Go.SL
variable {G:Env->Prop}
abbrev kB:TypeId:=171
section
variable {S:FK.En} {e:Nat} {p:EA} {l r:List HP} {R:FK.Rn}
theorem CN (a b c d:Operand) (w x y z:Nat):Instr.fill (λi=>some (i*1,1)) (Array.map (λx=>(Value.int .u64 0).cells[x%(Value.int .u64 0).cells.size]!) (Array.range (4*1))) ((List.map (λx=>x.1) [((0:Nat),a),(1,b),(2,c),(3,d)]).zip ([w,x,y,z].map aV))=some ([w,x,y,z].map aV).toArray:=by
 have e1:Array.range (4*1)=#[0,1,2,3]:=rfl;rw[e1];simp[Instr.fill,Value.cells]
theorem Jz (a b c:Operand) (w x y:Nat):Instr.fill (λi=>some (i*1,1)) (Array.map (λx=>(Value.int .u64 0).cells[x%(Value.int .u64 0).cells.size]!) (Array.range (3*1))) ((List.map (λx=>x.1) [((0:Nat),a),(1,b),(2,c)]).zip ([w,x,y].map aV))=some ([w,x,y].map aV).toArray:=by
 have e1:Array.range (3*1)=#[0,1,2]:=rfl;rw[e1];simp[Instr.fill,Value.cells]
theorem JA (a b:Operand) (w x:Nat):Instr.fill (λi=>some (i*1,1)) (Array.map (λx=>(Value.int .u64 0).cells[x%(Value.int .u64 0).cells.size]!) (Array.range (2*1))) ((List.map (λx=>x.1) [((0:Nat),a),(1,b)]).zip ([w,x].map aV))=some ([w,x].map aV).toArray:=by
 have e1:Array.range (2*1)=#[0,1]:=rfl;rw[e1];simp[Instr.fill,Value.cells]
theorem Jy (a b c d e f:Operand) (u v w x y z:Nat):Instr.fill (λi=>some (i*1,1)) (Array.map (λx=>(Value.int .u64 0).cells[x%(Value.int .u64 0).cells.size]!) (Array.range (6*1))) ((List.map (λx=>x.1) [((0:Nat),a),(1,b),(2,c),(3,d),(4,e),(5,f)]).zip ([u,v,w,x,y,z].map aV))=some ([u,v,w,x,y,z].map aV).toArray:=by
 have e1:Array.range (6*1)=#[0,1,2,3,4,5]:=rfl;rw[e1];simp[Instr.fill,Value.cells]
def rA (E b3:Nat) (l:List UInt8):HP:=HP.all [blk E kB #[ln b3],jq b3 l]
theorem _root_.FK.Fit.fitA {f:FK.Flow} (h:FK.Fit f):zS f:=λnd hnd x E=>by
 obtain⟨i,hi⟩:=List.getElem?_of_mem hnd;have I:=(h.Lw i nd (gfGet.1 hi).1 hi).2;have:∀(l:List Int) (p:Int),-1<=p->FK.EdgesOk f.Lw.length p l->∀x∈l,0<=x/\x<f.Lw.length:=by
  intro l
  induction l with
  | nil=>intro _ _ _ x E;cases E
  | cons y l K=>
   intro p Y h x E;obtain⟨O,T,h3⟩:=h;rcases List.mem_cons.1 E with rfl|E
   · omega
   · exact K y ai h3 x E
 exact this _ _ ai I x E
theorem Gt {E:Env} [H:SeesEng l e p S] {id:Nat} (K:S.getR id=some R):∀w,Holds E w l->jb (p.fb id) 0 [.int .i64 R.fl.deadline,(p.ra id).nv R] w:=λw hw j v I=>by
 have hc:(xj (p.ra id) R)[0+j]?=some v:=by
  rw[Nat.zero_add]
  match j,I with
  | 0,I|1,I=>exact I
  | j+2,I=>simp at I
 exact cz (H:=H) K hc w hw
theorem JI:dZ G 92 [aX p.w] [aG e p S] λv m=>v=.int .i64 S.tms.length/\m=[aG e p S]:=by
 refine kS λW E=>(GZ p.w).mono ?_;rintro v m ⟨rfl,rfl⟩;refine⟨_,⟨W,S.now,S.sets,S.tms,rfl,E,?_,rfl⟩,aN⟩;have:=congrArg List.length E.tms;rw[List.length_map] at this;rw[this]
theorem FY {A:Option Addr} {c:Nat} {bs:List UInt8} (K:A=none->bs.length=0/\c=0) (O:∀E,A=some E->∃g,E=⟨g,0,none⟩):bs≠[]->∃g,A=some ⟨g,0,none⟩:=λI=>by
 have T:=List.length_pos_iff.2 I;cases A with
 | none=>have:=(K rfl).1;omega
 | some E=>obtain⟨g,rfl⟩:=O E rfl;exact⟨g,rfl⟩
theorem bufApp {b:Nat} {v:Value} {xs ys:List UInt8}:Ent (blk b 61 #[v]::row 5 1 v (xs.length+ys.length) (cw xs++cw ys)::r) (jq b (xs++ys)::r):=by
 have h:Ent (blk b 61 #[v]::row 5 1 v (xs.length+ys.length) (cw xs++cw ys)::r) (blk b 61 #[v]::bP v (xs++ys)::r):=by
  show Ent _ (blk b 61 #[v]::row 5 1 v (xs++ys).length (cw (xs++ys))::r);rw[iH,List.length_append];exact aN
 exact h.trans Ent.closeBuf
theorem Gb (hS:FK.Svd S) {K I:Nat} (l:List FK.KD) (k:FK.Pl) (a:Nat) (hl:∃r,l++(k,a)::r=S.tms):dZ G 93 [iW k,.int .u64 (a:Nat),aX K] [rA K I (FK.lY S l)] λv m=>v=.tuple #[]/\m=[rA K I (FK.lY S (l++[(k,a)]))]:=by
 obtain⟨r,hr⟩:=hl;have T:(k,a)∈S.tms:=by rw[<-hr];simp
 have d6:=FK.Ih hr;have Y:=hS.len;obtain⟨O,hk⟩:=FK.vU hS T;simp only at O;refine bz Tryz.func93 Z λE fr hE=>ae<|bl ?_
 refine al (l':=blk K kB #[ln I]::jq I (FK.lY S l)::fr) aN ?_;refine sS<|sO (cL Z Z λb3=>(sN (sG (aE Z Z Z Z (bX 0 Z (cE (aF (v:=aV k.run) Z) (ag Z) (bX 1 Z (cE (aF (v:=.int .i64 k.node) Z) (ag Z) (sP (aT (r:=k.node+1) Z Z (by rw[iI ai])) (sP (bJ (r:=(((k.node+1).toNat:Nat):Int)) Z Z Z (toU ai ai)) (bX 2 Z (cE (aF (v:=.int .i64 k.what) Z) (ag Z) (sP (bJ (r:=((k.what.toNat:Nat):Int)) Z Z Z (toU ai ai)) (sM Z ?_))))))))))))))
 refine sO (dB (m:=4) (z:=.int .u64 0) (size:=1) (ps:=[(0,.tmp 7),(1,.tmp 11),(2,.tmp 14),(3,.tmp 15)]) (vs:=(FK.xf (k,a)).map aV) (cs:=((FK.xf (k,a)).map aV).toArray) Z Z Z Z ai ai Z (CN _ _ _ _ _ _ _ _) λd7=>?_);refine sO<|ct Z Z Z Z hE (jH (b:=I) (ns:=FK.xf (k,a)) hk (by simp[FK.xf]) ai) (aY gC .head) ?_
 rintro v m ⟨rfl,rfl⟩;refine ae<|aq ?_
 have hx:FK.lY S (l++[(k,a)])=FK.lY S l++FK.cQ (FK.xf (k,a)):=by unfold FK.lY;simp
 refine bm [rA K I (FK.lY S (l++[(k,a)]))] rfl ⟨rfl,rfl⟩ ?_;rw[hx];exact Ent.trans (by show Ent _ (blk K kB #[ln I]::jq I (FK.lY S l++FK.cQ (FK.xf (k,a)))::fr);exact ap)<|Ent.all (m:=[blk K kB #[ln I],jq I (FK.lY S l++FK.cQ (FK.xf (k,a)))])
theorem BH {E:Env} {id:Nat} (s:Sel (aG e p S) l r) (K:S.getR id=some R) (I:FK.Fit R.fl):∀w,Holds E w l->NodesAt w w.heap.size (some ⟨(p.ra id).gn,0,none⟩) (p.ra id).cn R.fl.Lw:=λw hw=>by
 obtain⟨F1,F2,Y,h2,hd,hp,hl⟩:=(hw.sel s).star;refine vw K hp (λk O=>?_) λnd hnd=>?_
 · exact(Y k O).1
 · obtain⟨i,hi⟩:=List.getElem?_of_mem hnd
   have hn:=I.Lw i nd (FK.cB hi) hi;obtain⟨⟨a1,a2,⟨b1,b2⟩,⟨c1,c2⟩,⟨d1,d2⟩,⟨e1,e2⟩,f1,f2⟩,he⟩:=hn;refine⟨by unfold i64;omega,λx T=>?_⟩;have:=I.fitA nd hnd x T;have:=I.head.2.2;unfold i64;omega
theorem zz (Y:FK.Svd S):dZ G 49 [aX e] [aG e p S] λv m=>m=[aG e p S,bP v (FK.iX S)]:=by
 have d9:=Y.len;have LW:=Y.ok.six;have Mc:=Y.ok.queueLe;have Md:=Y.ok.tmsLe;have LJ:=FK.Ii (S:=S);have Me:(FK.lz S S.runs.length).length<=100000:=Nat.le_trans (FK.sK _) d9;have In:FK.lz S S.runs.length=FK.cQ (FK.jS S)++FK.kW S.runs:=by unfold FK.lz;rw[List.take_length]
 refine bz Tryz.func49 Z λE fr hE=>ae<|sS<|sB Z<|sS<|sO (cX (z:=.slice none 0 0) Z λb3=>(sN (sS ?_)))
 refine sP (ew Z Z) ?_;refine sO (cX (z:=.nilFunc) Z λK=>?_);refine bK Z Z Z Z ii ?_;refine sN<|sQ ?_
 refine al (l':=blk K kB #[ln b3]::jq b3 []::aG e p S::fr) (Ent.cons ((Ent.cons (Ent.row0 (e:=5) (size:=1))).trans (Ent.closeBuf (v:=.slice none 0 0) (l:=[])))) ?_;refine sZ Z<|iJ 0 Z (aF (v:=ln b3) Z) (ag Z)<|cJ Z Z<|dv 6 Z Z Z ?_
 refine iJ 4 Z (aF (v:=aX p.w) Z) (bc λ_ _ _=>rfl) ?_;refine dr 6 Z (bn Z)<|dv 0 Z Z Z ?_
 refine iJ 9 Z (aF (v:=aV S.seed) Z) (bc λ_ _ _=>rfl) ?_;refine dr 10 Z (bn Z)<|dv 7 Z Z Z ?_
 refine iJ 13 Z (aF (v:=aV S.Lt) Z) (bc λ_ _ _=>rfl) ?_;refine dr 14 Z (bn Z)<|dv 8 Z Z Z ?_
 refine iJ 17 Z (aF (v:=aV S.Ls) Z) (bc λ_ _ _=>rfl) ?_;refine dr 18 Z (bn Z)<|dv 9 Z Z Z ?_
 refine iJ 21 Z (aF (v:=aV S.ends) Z) (bc λ_ _ _=>rfl) ?_;refine dr 22 Z (bn Z)<|dv 1 Z Z Z ?_
 refine iJ 25 Z (aF (v:=.map (some p.rm)) Z) (bc λ_ _ _=>rfl) ?_;refine cK 5 Z<|cF Z rc gfE2 ?_
 rintro v m ⟨rfl,rfl⟩;refine ae ?_;refine dK [true,true,true,true,true,false,true] (aa (bc λ_ _ _=>rfl) (aa (bc λ_ _ _=>rfl) (aa (bc λ_ _ _=>rfl) (aa (bc λ_ _ _=>rfl) (aa (bc λ_ _ _=>rfl) (aa (ag Z) ab)))))) ?_;refine iJ 26 Z (rr (enc:=aV) (m:=eV S p) Z Z) eH<|bF Z (bJ (r:=((S.runs.length:Nat):Int)) Z Z Z (by rw[List.length_map,mM];omega)) ?_
 refine cK 28 Z (dB (m:=6) (z:=.int .u64 0) (size:=1) (ps:=[(0,.tmp 18),(1,.tmp 22),(2,.tmp 26),(3,.tmp 30),(4,.tmp 34),(5,.tmp 40)]) (vs:=(FK.jS S).map aV) (cs:=((FK.jS S).map aV).toArray) Z Z Z Z ai ai Z (Jy _ _ _ _ _ _ _ _ _ _ _ _) λLX=>?_);refine dK [true,true,false,false,false,false,true] (aa eH (aa (bc λ_ _ _=>rfl) (aa (ag Z) ab))) ?_;refine cK 29 Z<|ct Z Z Z Z hE (jH (b:=b3) (ns:=FK.jS S) (FK.oY Y) (by simp[FK.jS]) cP) (aY gC .head) ?_
 rintro v m ⟨rfl,rfl⟩;refine ae ?_;refine dK [false,true,false] (aa (bc λ_ _ _=>rfl) ab) ?_;refine dE<|sT<|sQ<|bg Z ?_
 refine ch Z (Hh ai) gfE1 ?_;rintro v m ⟨ks,LF,wf,rfl⟩;refine az ?_;obtain rfl:ks=S.runs.map (·.1):=FK.pH (f:=λx=>x) LF Y.srt wf;refine aI bM ?_;rintro d8 I rfl fa fb - - -
 rw[List.length_map];refine al (l':=jq b3 (FK.lz S 0)::blk K kB #[ln b3]::aG e p S::row 30 1 (.slice d8 S.runs.length I) S.runs.length ((S.runs.map (·.1)).map aV)::fr) (by unfold FK.lz FK.kW;simp only[List.take_zero,List.flatMap_nil,List.append_nil,List.nil_append];exact ap) ?_;refine sP (bh Z Z)<|sM Z<|sN<|aj ?_
 refine aL (X:=Nat) (λk=>[(46,.int .i64 k),(45,.int .i64 S.runs.length),(44,.slice d8 S.runs.length I),(4,aX K),(3,aX b3),(0,aX e)]) (λk=>jq b3 (FK.lz S k)::blk K kB #[ln b3]::aG e p S::row 30 1 (.slice d8 S.runs.length I) S.runs.length ((S.runs.map (·.1)).map aV)::fr) (λk=>k<=S.runs.length) (λk=>S.runs.length-k) 0 (Nat.zero_le _) cf aN ?_;intro k hk;replace hk:k<=S.runs.length:=hk;refine sS<|sP (bB Z Z Z)<|sN<|sQ ?_
 refine aA Z (λt7=>?_) λt7=>?_
 ·
  have t6:k<S.runs.length:=by have:(k:Int)<(S.runs.length:Int):=t7;omega
  obtain⟨⟨id,R⟩,mt⟩:∃x,S.runs[k]?=some x:=⟨S.runs[k],by simp[t6]⟩;have hR:=Y.ok.at (du mt);obtain⟨d6,rfl⟩:∃g,d8=some ⟨g,0,none⟩:=by
   cases d8 with
   | none=>have:=(fa rfl).1;rw[List.length_map] at this;omega
   | some ad=>obtain⟨g,rfl⟩:=fb ad rfl;exact⟨g,rfl⟩
  have LK:=Y.ok.run _ _ hR;obtain⟨L3,BT,LV,L4,L5,L6⟩:=FK.mU Y hR;have LL:=FK.Fz Y hR;have T:=FK.ES mt;have LM:=FK.vD mt;have f7:FK.Fit R.fl:=LK.fl;have f8:=f7.head;have Mf:1<=R.fl.deadline/\R.fl.deadline<=1048576:=f8.1;obtain⟨d0,Fd⟩:∃d:Nat,R.fl.deadline=(d:Int):=⟨R.fl.deadline.toNat,ai⟩;have LN:R.fl=⟨(d0:Int),R.fl.Lw⟩:=by rw[<-Fd]
  have LO:d0<=1048576:=ai;have LP:=Nat.le_trans (FK.sK (S:=S) k) d9;refine ah<|sT<|sQ<|aj<|sS<|sP (bp (z:=1) Z Z Z Z t6)<|cE (aF (v:=aV id) Z) (fg gC (by simp[mt]))<|sB Z<|sS<|dS 1 Z Z ?_
  refine cE (aF (v:=.map (some p.rm)) Z) (bc λ_ _ _=>rfl) ?_;refine sM Z<|cE (gO (a:=id) (v:=aX (p.fb id)) Z fy Z Z (gV hR)) eH<|sB Z<|sS<|dS 0 Z Z ?_
  refine cE (bR (vs:=[.int .i64 (d0:Int),(p.ra id).nv R]) Z) (by rw[<-Fd];exact Gt hR) ?_;refine eu rfl<|iP rfl rfl rfl hE (qL d0 (some ⟨(p.ra id).gn,0,none⟩) (p.ra id).cn R.fl.Lw LO f8.2.2 (λn hn=>by obtain⟨i,hi⟩:=List.getElem?_of_mem hn;exact f7.Lw i n (FK.cB hi) hi)) (BH dj hR f7) ?_
  rintro v m rfl;refine ae ?_;rw[<-LN];refine aI .head ?_;rintro A8 c8 rfl ga gb - - -
  refine al (l':=jq b3 (FK.lz S k)::blk K kB #[ln b3]::aG e p S::row 30 1 (.slice (some ⟨d6,0,none⟩) S.runs.length I) S.runs.length ((S.runs.map (·.1)).map aV)::bP (.slice A8 (FK.bo R.fl).length c8) (FK.bo R.fl)::fr) ap ?_;refine sB Z<|sQ<|sZ Z<|iJ 0 Z (aF (v:=ln b3) Z) (ag Z)<|cJ Z Z<|cJ Z Z<|dv 2 Z Z Z<|bZ Z (aF (v:=.int .i64 R.state) Z) (cz hR Z)<|bF Z (bJ (r:=((R.state.toNat:Nat):Int)) Z Z Z (toU BT ai))<|cJ Z Z<|dv 4 Z Z Z<|bZ Z (aF (v:=aV R.ended) Z) (cz hR Z)<|cJ Z Z<|bF Z (bh Z Z)<|bF Z (bJ (r:=(((FK.bo R.fl).length:Nat):Int)) Z Z Z (wu64 ai)) ?_
  refine cK 14 Z (dB (m:=4) (z:=.int .u64 0) (size:=1) (ps:=[(0,.tmp 62),(1,.tmp 67),(2,.tmp 71),(3,.tmp 74)]) (vs:=[id,R.state.toNat,R.ended,(FK.bo R.fl).length].map aV) (cs:=([id,R.state.toNat,R.ended,(FK.bo R.fl).length].map aV).toArray) Z Z Z Z ai ai Z (CN _ _ _ _ _ _ _ _) λLY=>?_);refine dK [false,true,true] (aa (cz hR Z) (aa (ag Z) ab)) ?_;refine cK 15 Z<|ct Z Z Z Z hE (jH (b:=b3) (ns:=[id,R.state.toNat,R.ended,(FK.bo R.fl).length]) LL cP ai) (aY bM .head) ?_
  rintro v m ⟨rfl,rfl⟩;refine ae<|dK [true,false] (aa (cz hR Z) ab)<|dE<|sT<|sQ ?_
  refine cN .head λf9=>bl ?_;refine al (l':=blk b3 61 #[f9]::bP f9 (FK.lz S k++FK.cQ [id,R.state.toNat,R.ended,(FK.bo R.fl).length])::blk K kB #[ln b3]::aG e p S::row 30 1 (.slice (some ⟨d6,0,none⟩) S.runs.length I) S.runs.length ((S.runs.map (·.1)).map aV)::bP (.slice A8 (FK.bo R.fl).length c8) (FK.bo R.fl)::fr) aN ?_;refine sG<|cE (aF (v:=f9) Z) (ag Z)<|sM Z ?_
  refine eu rfl (cU rfl rfl jh rfl ai rfl rfl (HasVal.sel (v:=f9)) (news:=cw (FK.bo R.fl)) (by rw[iG,Nat.mul_one]) (λh=>(ga h).1) (Reads.src (Reads.row (c:=c8) (FY ga gb)) tY) (by intro u hu;obtain⟨x,_,rfl⟩:=List.mem_map.1 hu;rfl) (by have:=T 0;simp only[List.length_append,FK.Ir] at this ⊢;unfold maxLen;omega) (by have:=T 0;simp only[List.length_append,FK.Ir] at this ⊢;omega) λLC LR=>?_);refine aI (HasVal.sel (v:=LC)) ?_;rintro LG LH rfl - - - - -
  refine bK Z Z Z Z ii ?_;refine aD b3 #[.slice LG ((FK.lz S k++FK.cQ [id,R.state.toNat,R.ended,(FK.bo R.fl).length]).length+(FK.bo R.fl).length) LH] rfl<|sN<|sQ ?_
  refine al (l':=jq b3 (FK.lz S k++FK.Ir id R++FK.BV R 0)::blk K kB #[ln b3]::aG e p S::row 30 1 (.slice (some ⟨d6,0,none⟩) S.runs.length I) S.runs.length ((S.runs.map (·.1)).map aV)::fr) (bufApp.trans (by rw[show FK.lz S k++FK.Ir id R++FK.BV R 0=FK.lz S k++FK.cQ [id,R.state.toNat,R.ended,(FK.bo R.fl).length]++FK.bo R.fl by unfold FK.Ir FK.BV;simp];exact ap)) ?_;refine sG<|dS 3 Z Z<|cE (aF (v:=(p.ra id).sv R) Z) (cz hR Z)<|sP (bh Z Z)<|sM Z<|sN<|aj ?_
  refine aL (X:=Nat) (λj=>[(85,.int .i64 j),(84,.int .i64 R.Lv.length),(83,(p.ra id).sv R),(46,.int .i64 k),(45,.int .i64 S.runs.length),(44,.slice (some ⟨d6,0,none⟩) S.runs.length I),(4,aX K),(3,aX b3),(0,aX e)]) (λj=>jq b3 (FK.lz S k++FK.Ir id R++FK.BV R j)::blk K kB #[ln b3]::aG e p S::row 30 1 (.slice (some ⟨d6,0,none⟩) S.runs.length I) S.runs.length ((S.runs.map (·.1)).map aV)::fr) (λj=>j<=R.Lv.length) (λj=>R.Lv.length-j) 0 (Nat.zero_le _) cf aN ?_;intro j hj;replace hj:j<=R.Lv.length:=hj;refine sS<|sP (bB Z Z Z)<|sN<|sQ ?_
  refine aA Z (λt8=>?_) λt8=>?_
  ·
   have LB:j<R.Lv.length:=by have:(j:Int)<(R.Lv.length:Int):=t8;omega
   obtain⟨s,hs⟩:∃s,R.Lv[j]?=some s:=⟨R.Lv[j],by simp[LB]⟩;obtain⟨hs1,L7,L8,L9⟩:=Y.ok.sp hR hs;have LQ:=FK.Fw Y hR hs;refine ah<|sT<|sQ<|aj<|sS<|sP (bp (z:=3) Z Z Z Z LB)<|cE (bR (vs:=n7 s) Z) (rY hR hs)<|sO (cX (z:=.agg #[.int .i64 0,.int .i64 0,.int .u64 0]) Z λLD=>?_)
   refine sO<|aZ (vs:=n7 s) Z (m:=3) Z Z Z Z fx (by show 0+3<=3;omega) ?_
   refine al (l':=blk LD 150 (n7 s).toArray::jq b3 (FK.lz S k++FK.Ir id R++FK.BV R j)::blk K kB #[ln b3]::aG e p S::row 30 1 (.slice (some ⟨d6,0,none⟩) S.runs.length I) S.runs.length ((S.runs.map (·.1)).map aV)::fr) aN ?_;refine sN<|sG<|cE (aF (v:=ln b3) Z) (ag Z)<|bX 0 Z<|aE Z Z Z Z<|sP (bJ (r:=((s.state.toNat:Nat):Int)) Z Z Z (toU ai ai))<|bX 1 Z<|aE Z Z Z Z<|sP (bJ (r:=((s.Lu.toNat:Nat):Int)) Z Z Z (toU ai ai))<|bX 2 Z<|aE Z Z Z Z ?_
   refine sO (dB (m:=3) (z:=.int .u64 0) (size:=1) (ps:=[(0,.tmp 92),(1,.tmp 95),(2,.tmp 97)]) (vs:=(FK.zK s).map aV) (cs:=((FK.zK s).map aV).toArray) Z Z Z Z ai ai Z (Jz _ _ _ _ _ _) λLZ=>?_);refine sO<|ct Z Z Z Z hE (jH (b:=b3) (ns:=FK.zK s) LQ (by simp[FK.zK]) (by have:=T j;omega)) (aY dj .head) ?_
   rintro v m ⟨rfl,rfl⟩;refine ae<|aq<|am<|sT<|sG<|sP (aT (r:=((j+1:Nat):Int)) Z Z eg)<|sM Z<|aq<|aC (j+1) (by show j+1<=R.Lv.length;omega) (by show R.Lv.length-(j+1)<R.Lv.length-j;omega) cf ?_
   rw[FK.Gi hs,<-List.append_assoc];exact ap
  ·
   obtain rfl:j=R.Lv.length:=by have:¬(j:Int)<(R.Lv.length:Int):=t8;omega
   refine aK<|av<|au<|ao<|am<|sT<|sG<|sP (aT (r:=((k+1:Nat):Int)) Z Z eg)<|sM Z<|aq<|aC (k+1) (by show k+1<=S.runs.length;omega) (by show S.runs.length-(k+1)<S.runs.length-k;omega) cf ?_
   rw[LM];exact aN
 ·
  obtain rfl:k=S.runs.length:=by have:¬(k:Int)<(S.runs.length:Int):=t7;omega
  refine aK<|av<|au<|ao<|sT<|sQ<|sZ Z<|iJ 0 Z (aF (v:=ln b3) Z) (ag Z)<|cJ Z Z<|dv 3 Z Z Z ?_
  refine cK 4 Z<|cF Z sc gfE2 ?_
  rintro v m ⟨rfl,rfl⟩;refine ae<|dK [true] (aa (ag Z) ab)<|dr 5 Z (bJ (r:=((S.Lx.length:Nat):Int)) Z Z Z (wu64 ai))<|tV Z (eE Z Z Z Z Z Z λLS=>(dK [true] (aa (ag Z) ab) ?_))
  refine dR 7 rfl rfl<|ct rfl rfl rfl rfl hE (jH (b:=b3) (ns:=[S.Lx.length]) (by intro n hn;simp only[List.mem_cons,List.not_mem_nil,or_false] at hn;omega) cP ai) (aY dj .head) ?_
  rintro v m ⟨rfl,rfl⟩;refine ae<|dK [false] ab<|dE<|sT<|sQ<|sS<|dS 3 Z Z ?_
  refine bV Z sc gfE1 ?_;refine ae<|sM Z<|sN<|aj ?_
  refine aL (X:=Nat) (λk=>[(114,.int .i64 k),(113,.int .i64 S.Lx.length),(4,aX K),(3,aX b3),(0,aX e)]) (λk=>aG e p S::jq b3 (FK.xk S k)::blk K kB #[ln b3]::fr) (λk=>k<=S.Lx.length) (λk=>S.Lx.length-k) 0 (Nat.zero_le _) cf (by unfold FK.xk;rw[<-In];simp only[List.take_zero,List.flatMap_nil,List.append_nil];exact ap) ?_;intro k hk;replace hk:k<=S.Lx.length:=hk;have LP:=Nat.le_trans (LJ k) d9;refine sS<|sP (bB Z Z Z)<|sN<|sQ ?_
  refine aA Z (λd7=>?_) λd7=>?_
  ·
   have t6:k<S.Lx.length:=by have:(k:Int)<(S.Lx.length:Int):=d7;omega
   obtain⟨q,hq⟩:∃q,S.Lx[k]?=some q:=⟨S.Lx[k],by simp[t6]⟩;obtain⟨⟨Ma,Mb⟩,LE⟩:=FK.vO Y (du hq);refine ah<|sT<|sQ<|aj<|bg Z<|sB Z<|sZ Z<|iJ 0 Z (aF (v:=ln b3) Z) (ag Z)<|cJ Z Z<|dv 3 Z Z Z<|cJ Z Z<|dr 7 Z (bn Z)<|dv 3 Z Z Z<|cJ Z Z ?_
   refine cK 5 Z<|cF Z (Ck hq) aN ?_
   rintro v m ⟨rfl,rfl⟩;refine ae<|dK [true] (aa (ag Z) ab) ?_
   refine dr 6 Z (CQ (u:=aV q.run) (λw=>by kernel_rfl) Z) ?_;refine cK 11 Z<|cF Z (Ck hq) aN ?_
   rintro v m ⟨rfl,rfl⟩;refine ae<|dK [true] (aa (ag Z) ab) ?_
   refine dr 12 Z (CQ (u:=.int .i64 q.node) (λw=>by kernel_rfl) Z) ?_;refine dr 13 Z (bJ (r:=((q.node.toNat:Nat):Int)) Z Z Z (toU ai ai)) ?_;refine cK 14 Z (dB (m:=2) (z:=.int .u64 0) (size:=1) (ps:=[(0,.tmp 123),(1,.tmp 130)]) (vs:=(FK.xh q).map aV) (cs:=((FK.xh q).map aV).toArray) Z Z Z Z ai ai Z (JA _ _ _ _) λLT=>?_);refine dK [true] (aa (ag Z) ab) ?_;refine cK 15 Z<|ct Z Z Z Z hE (jH (b:=b3) (ns:=FK.xh q) LE (by simp[FK.xh]) ai) (aY dj .head) ?_
   rintro v m ⟨rfl,rfl⟩;refine ae<|dK [false] ab<|dE<|am<|sT<|sG<|sP (aT (r:=((k+1:Nat):Int)) Z Z eg)<|sM Z<|aq<|aC (k+1) (by show k+1<=S.Lx.length;omega) (by show S.Lx.length-(k+1)<S.Lx.length-k;omega) cf ?_
   rw[FK.ET hq];exact ap
  ·
   obtain rfl:k=S.Lx.length:=by have:¬(k:Int)<(S.Lx.length:Int):=d7;omega
   refine aK<|av<|au<|ao<|sT<|sQ<|sZ Z<|iJ 0 Z (aF (v:=ln b3) Z) (ag Z)<|cJ Z Z<|dv 6 Z Z Z ?_
   refine iJ 4 Z (aF (v:=aX p.w) Z) (bc λ_ _ _=>rfl) ?_;refine cK 5 Z<|cF Z JI aN ?_
   rintro v m ⟨rfl,rfl⟩;refine ae<|dK [false,true] (aa (ag Z) ab)<|dr 6 Z (bJ (r:=((S.tms.length:Nat):Int)) Z Z Z (wu64 ai))<|tV Z (eE Z Z Z Z Z Z λLU=>(dK [true] (aa (ag Z) ab) ?_))
   refine dR 8 rfl rfl<|ct rfl rfl rfl rfl hE (jH (b:=b3) (ns:=[S.tms.length]) (by intro n hn;simp only[List.mem_cons,List.not_mem_nil,or_false] at hn;omega) cP ai) (aY dj .head) ?_
   rintro v m ⟨rfl,rfl⟩;refine ae<|dK [false] ab<|dE<|sT<|sQ ?_
   refine al (l':=aG e p S::rA K b3 (FK.lY S [])::fr) (by unfold FK.xk FK.lY rA;simp only[List.take_length,List.flatMap_nil,List.append_nil];exact Ent.trans (dd bM bM .head) (Ent.cons (Ent.all (m:=[_,_])))) ?_;refine sG<|dS 6 Z Z ?_
   refine cE (aF (v:=aX p.w) Z) (bc λ_ _ _=>rfl) ?_;refine sP (ew Z Z) ?_;refine bV Z (C6 (U:=λl=>rA K b3 (FK.lY S l)) ai Z λl k a _ hr=>Gb Y l k a hr) aN ?_;refine az<|sN<|sQ ?_
   refine al (l':=rA K b3 (FK.lY S S.tms)::aG e p S::fr) gfE1 ?_;refine bl ?_;refine al (l':=jq b3 (FK.lY S S.tms)::blk K kB #[ln b3]::aG e p S::fr) gfE1 ?_;refine cN .head λO=>bl ?_;refine al (l':=blk b3 61 #[O]::bP O (FK.lY S S.tms)::blk K kB #[ln b3]::aG e p S::fr) aN ?_;refine sG<|cE (aF (v:=O) Z) (ag Z)<|sB Z<|an<|aw [aG e p S,bP O (FK.lY S S.tms)] rfl Z Z ?_
   show Ent _ (aG e p S::bP O (FK.lY S S.tms)::fr);exact ap
end
end Go.Y

namespace FK
def jc:List UInt8->Nat->Nat->Option (Nat×List UInt8)
 | [],_,_=>none
 | c::r,i,n=>
  if c.toNat<128 then some (n|||c.toNat%128*2 ^ min (7*i) 64%18446744073709551616,r)
  else jc r (i+1) (n|||c.toNat%128*2 ^ min (7*i) 64%18446744073709551616)
def take (bs:List UInt8):Option (Nat×List UInt8):=jc bs 0 0
theorem FD {a x k:Nat} (h:a<2 ^ k):a|||x*2 ^ k=a+x*2 ^ k:=by
 have:=Nat.two_pow_add_eq_or_of_lt (i:=k) (b:=a) h x;rw[Nat.or_comm,Nat.mul_comm,<-this,Nat.add_comm]
theorem yw (r:List UInt8):∀(m i a:Nat),a<2 ^ (7*i)->m*2 ^ (7*i)+a<18446744073709551616->7*i<=63->jc (co m++r) i a=some (a+m*2 ^ (7*i),r):=by
 intro m
 induction m using Nat.strongRecOn with
 | ind m ih=>
  intro i a Y hm hi;have E:min (7*i) 64=7*i:=ai
  by_cases h:m<128
  · rw[kg h]
    have hc:(UInt8.ofNat m).toNat=m:=by simp;omega
    show jc (UInt8.ofNat m::r) i a=_;unfold jc;rw[hc,if_pos h,E,Nat.mod_eq_of_lt h,Nat.mod_eq_of_lt (a:=m*2 ^ (7*i)) ai,FD Y]
  · rw[me h]
    have hc:(UInt8.ofNat (m%128+128)).toNat=m%128+128:=by simp;omega
    have hd:m=128*(m/128)+m%128:=(Nat.div_add_mod m 128).symm;have hp:(2:Nat) ^ (7*(i+1))=2 ^ (7*i)*128:=by rw[Nat.mul_add,Nat.pow_add]
    have d6:0<(2:Nat) ^ (7*i):=Nat.two_pow_pos _;have d7:m%128*2 ^ (7*i)<=m*2 ^ (7*i):=Nat.mul_le_mul_right _ (Nat.mod_le _ _);have e1:m/128*2 ^ (7*(i+1))+m%128*2 ^ (7*i)=m*2 ^ (7*i):=by
     rw[hp]
     conv=>rhs;rw[hd,Nat.add_mul]
     rw[Nat.mul_comm (2 ^ (7*i)) 128,<-Nat.mul_assoc,Nat.mul_comm (m/128) 128]
    have I:(m%128+128)%128=m%128:=ai;show jc (UInt8.ofNat (m%128+128)::(co (m/128)++r)) i a=_;unfold jc;rw[hc,if_neg ai,E,I,Nat.mod_eq_of_lt (a:=m%128*2 ^ (7*i)) ai,FD Y];have K:a+m%128*2 ^ (7*i)<2 ^ (7*(i+1)):=by
     have h1:m%128*2 ^ (7*i)<=127*2 ^ (7*i):=Nat.mul_le_mul_right _ ai;rw[hp];omega
    by_cases O:7*(i+1)<=63
    · rw[ih (m/128) ai (i+1) _ K ai O]
      congr 2
      omega
    · have T:i=9:=ai
      subst T;omega
theorem pF {n:Nat} (h:n<18446744073709551616) (r:List UInt8):take (co n++r)=some (n,r):=by
 unfold take;rw[yw r n 0 0 ai ai ai];simp
theorem tg:∀{bs r:List UInt8} {i a n:Nat},jc bs i a=some (n,r)->r.length<bs.length/\r=bs.drop (bs.length-r.length)
 | [],_,_,_,_,h=>by simp[jc] at h
 | c::bs,r,i,a,n,h=>by
  unfold jc at h
  split at h
  · injection h with h
    injection h with _ h;subst h;exact⟨by simp,by simp⟩
  · have⟨h1,h2⟩:=tg h
    refine⟨by simp;omega,?_⟩;have e:(c::bs).length-r.length=(bs.length-r.length)+1:=by simp;omega
    rw[e,List.drop_succ_cons];exact h2
def next (bs:List UInt8):Option (List UInt8×List UInt8):=
 match take bs with
 | none=>none
 | some (n,body)=>
  if body.length<n+4 then none
  else if (body.drop n).take 4=jp (jr (bs.take (bs.length-body.length+n))) then some (body.take n,body.drop (n+4)) else none
theorem tB (x r:List UInt8) (h:x.length<18446744073709551616):next (frame x++r)=some (x,r):=by
 unfold next;have e:frame x++r=co x.length++(x++(jp (jr (co x.length++x))++r)):=by unfold frame;simp
 have O:(jp (jr (co x.length++x))).length=4:=rfl;rw[e,pF h];simp only;rw[if_neg (by simp only[List.length_append];omega)];have E:(co x.length++(x++(jp (jr (co x.length++x))++r))).take ((co x.length++(x++(jp (jr (co x.length++x))++r))).length-(x++(jp (jr (co x.length++x))++r)).length+x.length)=co x.length++x:=by
  rw[<-List.append_assoc];exact List.take_left' (by simp only[List.length_append];omega)
 rw[E];have I:((x++(jp (jr (co x.length++x))++r)).drop x.length).take 4=jp (jr (co x.length++x)):=by
  rw[List.drop_left];exact List.take_left' rfl
 rw[if_pos I];have K:(x++(jp (jr (co x.length++x))++r)).take x.length=x:=List.take_left;have h3:(x++(jp (jr (co x.length++x))++r)).drop (x.length+4)=r:=by
  rw[<-List.append_assoc];exact List.drop_left' (by simp only[List.length_append];omega)
 rw[K,h3]
theorem GR {bs x r:List UInt8} (h:next bs=some (x,r)):r.length<bs.length/\x.length<=bs.length:=by
 unfold next at h;cases ht:take bs with
 | none=>rw[ht] at h;cases h
 | some q=>
  obtain⟨n,body⟩:=q;rw[ht] at h;simp only at h;have K:=(tg ht).1
  split at h
  · cases h
  · split at h
    · injection h with h
      injection h with E I;subst E;subst I;exact⟨by simp;omega,by simp;omega⟩
    · cases h
end FK

namespace Go.SL
open Go.RowKit
section
variable {P:Program} {ts:List (Nat×Value)}
section
variable {e t:TypeId} {A:Option Addr} {cap n:Nat}
theorem Et {x lo hi T:Operand} {len a b c z:Nat} {k1 k2 Y:IntKind} (ht:P.underlying t=some (.slice e)) (hz:dm P e z) (hx:ev ts x=some (.slice A len cap))
 (I:ev ts lo=some (.int k1 (a:Int))) (K:ev ts hi=some (.int k2 (b:Int))) (O:ev ts T=some (.int Y (c:Int))) (h1:a<=b) (h2:b<=c) (h3:c<=cap) :
 Ev P ts (.slice t x (some lo) (some hi) (some T)) (.slice (if c=a then A else A.map (·.add (a*z))) (b-a) (c-a)) Any:=by
 intro ac w _ _ _ _ _ E _;simp[execOp,Instr.sliceAt,Instr.slice,run_underlying ht,E.eval hx,E.eval I,E.eval K,E.eval O,Instr.sliceBounds,Instr.sliceBound,asIntOf,cY hz,h1,h2,h3]
theorem FT {x:Operand} {len:Nat} (E:P.underlying t=some (.array n e)) (I:ev ts x=some (.slice A len cap)) (h:n<=len):Ev P ts (.sliceToArrayPointer t x) (.pointer A) Any:=by
 intro ac w _ _ _ _ _ K _;have:¬len<n:=ai;simp[execOp,Instr.arrayAt,run_underlying E,K.eval I,this]
theorem vq {size:Nat} {z:Value} {ps:List (Nat×Operand)} {vs:List Value} {cs:Array Value} (K:P.underlying t=some (.array n e)) (O:dm P e size) (T:iM P t z)
 (E:evs ts (ps.map (·.2))=some vs) (I:Instr.fill (λi=>some (i*size,size)) z.cells ((ps.map (·.1)).zip vs)=some cs):Ev P ts (.build t ps.toArray) (.agg cs) Any:=by
 intro a w _ _ _ _ _ Y _;have he:(ps.toArray.map λp=>(p.1,a.eval p.2)).toList=(ps.map (·.1)).zip vs:=by
  have:=eF Y E;rw[<-this];simp;clear E I this
  induction ps with
  | nil=>rfl
  | cons p ps ih=>simp;exact ih
 simp only[execOp,Instr.build,Sem.run_bind,iS T,run_underlying K,Result.andThen_ok,cY O,he];simp only[Result.andThen_ok,I,Sem.run_pure]
theorem lV {d:Nat} {e:TypeId} {k:IntKind} (E:P.underlying e=some (.int k)) {us bs:List Int} {w:World}:∀(is:List Nat),(∀i∈is,i<us.length/\i<bs.length)->
 (Op.eqItems (d+1) e 1 (us.map (Value.int k)).toArray (bs.map (Value.int k)).toArray is).run P w=.ok (is.all λi=>us[i]?==bs[i]?) w
 | [],_=>by simp[Op.eqItems]
 | i::is,h=>by
  have ih:=lV (d:=d) E (us:=us) (bs:=bs) (w:=w) is λj hj=>h j (.tail _ hj);obtain⟨h1,h2⟩:=h i (.head _);obtain⟨a,O⟩:∃a,us[i]?=some a:=⟨us[i],by simp[h1]⟩;obtain⟨b,T⟩:∃b,bs[i]?=some b:=⟨bs[i],by simp[h2]⟩;have Y:∀(cs:Array Value) (v:Value),cs[i*1]?=some v->(part e cs (i*1)).run P w=.ok v w:=λcs v K=>by
   rw[Nat.mul_one] at K;simp[part,isAgg,run_underlying E,K]
  have hx:(us.map (Value.int k)).toArray[i*1]?=some (.int k a):=by simp[O]
  have hy:(bs.map (Value.int k)).toArray[i*1]?=some (.int k b):=by simp[T]
  have hq:(Op.equalIn (d+1) e (.int k a) (.int k b)).run P w=.ok (a==b) w:=run_equalIn_int w d e k k a b E;simp only[Op.eqItems,Sem.run_bind,Y _ _ hx,Y _ _ hy,hq,Result.andThen_ok];have I:(us[i]?==bs[i]?)=(a==b):=by rw[O,T];rfl
  rw[List.all_cons,I];cases hc:a==b with
  | true=>simpa using ih
  | false=>simp
theorem CR {K:TypeId} {k:IntKind} {i:TypeInfo} {x y:Operand} {us bs:List Int} {r:Bool} (O:P.underlying t=some (.array n e)) (hi:P.info? e=some i) (T:P.underlying e=some (.int k)) (hc:P.cellsOf e=1) (Y:P.eqGuardType P.depth t=false)
 (hx:ev ts x=some (.agg (us.map (Value.int k)).toArray)) (hy:ev ts y=some (.agg (bs.map (Value.int k)).toArray)) (ha:us.length=n) (hb:bs.length=n) (hr:decide (us≠bs)=r) :
 Ev P ts (.binOp .neq t x y K) (.bool r) Any:=by
 intro ac w _ _ _ _ _ I _;subst hr;refine eT (I.eval hx) (I.eval hy) (run_eqGuard_agg w _ _ _ _ _ _ Y) ?_;rw[run_neq_struct,run_equalIn_array (d:=9999) (w:=w) (P:=P) _ _ O hi,hc,lV (d:=9998) T (List.range n) (λj E=>by have:=List.mem_range.1 E;omega),Result.andThen_ok]
 congr 2
 have:((List.range n).all λi=>us[i]?==bs[i]?)=decide (us=bs):=by
  rw[Bool.eq_iff_iff,List.all_eq_true];simp only[decide_eq_true_eq,beq_iff_eq];constructor
  · intro h
    refine List.ext_getElem? λj=>?_
    by_cases E:j<n
    · exact h j<|List.mem_range.2 E
    · rw[List.getElem?_eq_none ai,List.getElem?_eq_none ai]
  · intro h j _
    rw[h]
 rw[this]
 by_cases h:us=bs<;>simp[h]
end
end
end Go.SL
namespace Go.Y
open Go.Proofs Go.RowKit Go.SL
section
variable {A A':Option Addr} {bs:List UInt8} {k:Nat} {p:HP}
theorem jU (b o k:Nat):(⟨b,o,none⟩:Addr).add k=⟨b,o+k,none⟩:=by
 unfold Addr.add
 by_cases h:k=0<;>simp[h]
theorem Reads.sub {n:Nat} (h:Reads p A bs) (O:(bs.drop k).take n≠[]->A'=A.map (·.add k)):Reads p A' ((bs.drop k).take n) where
 form hne:=by
  have E:bs≠[]:=by intro e;rw[e] at hne;simp at hne
  obtain⟨b,o,rfl⟩:=h.form E;exact⟨b,o+k,by rw[O hne,Option.map_some,jU]⟩
 cell w F hs b o he j x hx:=by
  have hne:(bs.drop k).take n≠[]:=by intro e;rw[e] at hx;simp at hx
  have E:bs≠[]:=by intro e;rw[e] at hne;simp at hne
  obtain⟨T,Y,rfl⟩:=h.form E;rw[O hne] at he;have I:(⟨T,Y+k,none⟩:Addr)=⟨b,o,none⟩:=by rw[Option.map_some,jU] at he;exact Option.some.inj he
  injection I with e1 e2;subst e1;subst e2;have K:bs[k+j]?=some x:=by
   rw[List.getElem?_take] at hx
   split at hx
   · rw[List.getElem?_drop] at hx;exact hx
   · cases hx
  rw[Nat.add_assoc];exact h.cell w F hs T Y Z (k+j) x K
theorem Reads.dropk (h:Reads p A bs) (I:bs.drop k≠[]->A'=A.map (·.add k)):Reads p A' (bs.drop k):=by
 have:=h.sub (k:=k) (n:=bs.length) (A':=A') (λE=>I (by intro e;rw[e] at E;simp at E))
 rwa [List.take_of_length_le cP] at this
theorem Reads.rowAt {E:Env} {l r:List HP} {b o n:Nat} (h:Reads p A bs) (s:Sel p l r) (O:A=some ⟨b,o,none⟩):∀w,Holds E w l->jb b (o+k) (cw ((bs.drop k).take n)) w:=λw hw j v I=>by
 unfold cw at I;rw[List.getElem?_map] at I;cases hx:((bs.drop k).take n)[j]? with
 | none=>rw[hx] at I;cases I
 | some x=>
  rw[hx] at I;injection I with I;subst I;have K:bs[k+j]?=some x:=by
   rw[List.getElem?_take] at hx
   split at hx
   · rw[List.getElem?_drop] at hx;exact hx
   · cases hx
  have:=h.at s O K w hw;rw[Nat.add_assoc];exact this
end
end Go.Y

namespace Go.Y
open Go.Proofs Go.RowKit Go.SL
variable {G:Env->Prop}
abbrev Dj (A:Option Addr) (n c k:Nat):Value:=.slice (if c=k then A else A.map (·.add (k*1))) (n-k) (c-k)
section
variable {bs:List UInt8} {A:Option Addr} {c k o:Nat} {p:HP}
theorem H9 {b:Nat}:∃o',(if c=k then some (⟨b,o,none⟩:Addr) else(some (⟨b,o,none⟩:Addr)).map (·.add (k*1)))=some ⟨b,o',none⟩:=by
 split
 · exact⟨o,rfl⟩
 · exact⟨o+k*1,by rw[Option.map_some,jU]⟩
theorem Reads.cut (h:Reads p A bs) (hc:bs.length<=c):Reads p (if c=k then A else A.map (·.add (k*1))) (bs.drop k):=
 h.dropk λE=>by
  have K:k<bs.length:=by
   refine Nat.lt_of_not_le λI=>E (List.drop_eq_nil_of_le I)
  rw[if_neg ai,Nat.mul_one]
theorem wu64n {a:Nat}:IntKind.u64.wrap (a:Int)=((a%18446744073709551616:Nat):Int):=by
 simp[IntKind.wrap,IntKind.bits,IntKind.signed]
theorem in64 {n:Int} (E:0<=n) (I:n<2 ^ 64):IntKind.u64.wrap n=n:=by
 have:(2:Int) ^ 64=18446744073709551616:=by decide
 exact SL.wu64 ⟨E,ai⟩
theorem or64 {a b:Nat} (K:a<18446744073709551616) (O:b<18446744073709551616):bits .or .u64 (a:Int) (b:Int)=((a|||b:Nat):Int):=
 (bits_nat .u64 64 di (λ_ E I=>in64 E I) a b ai ai).2
def Ij (A:Option Addr) (c:Nat) (bs:List UInt8) (v:Value):Prop:=
 (FK.take bs=none/\v=.tuple #[.int .u64 0,.slice none 0 0])\/∃n k,FK.take bs=some (n,bs.drop k)/\k<=bs.length/\n<18446744073709551616/\v=.tuple #[.int .u64 n,Dj A bs.length c k]
theorem nC (hp:Reads p A bs) (hc:bs.length<=c) (hl:bs.length<=140737488355328):dZ G 100 [.slice A bs.length c] [p] λv m=>Ij A c bs v/\m=[p]:=by
 refine bz Tryz.func100 Z λE fr hE=>ae<|sS<|sA Z<|sB Z<|sS<|sB Z<|sQ<|bg Z<|sP (bh Z Z)<|sM Z<|sN ?_
 refine aj ?_;refine aL (X:=Nat×Nat) (λx=>[(9,.int .i64 x.1),(8,.int .i64 bs.length),(7,.slice A bs.length c),(4,.int .u64 x.2),(0,.slice A bs.length c)]) (λ_=>p::fr) (λx=>x.1<=bs.length/\x.2<18446744073709551616/\FK.take bs=FK.jc (bs.drop x.1) x.1 x.2) (λx=>bs.length-x.1) (0,0) ⟨Nat.zero_le _,ai,rfl⟩ cf aN ?_;rintro⟨k,a⟩ ⟨hk,ha,ht⟩;simp only at hk ha ht;refine sS<|sP (bB Z Z Z)<|sN<|sQ ?_
 refine aA Z (λK=>?_) λK=>?_
 ·
  have I:k<bs.length:=by have:(k:Int)<(bs.length:Int):=K;omega
  obtain⟨x,hx⟩:∃x,bs[k]?=some x:=⟨bs[k],by simp[I]⟩;obtain⟨g,o,hA⟩:=hp.form (by intro h;rw[h] at I;simp at I);subst hA;have d7:x.toNat<256:=x.toNat_lt;have hd:bs.drop k=x::bs.drop (k+1):=by
   obtain⟨h1,rfl⟩:=gfGet.1 hx;exact List.drop_eq_getElem_cons h1
  have hb:x.toNat%128*2 ^ min (7*k) 64%18446744073709551616<18446744073709551616:=Nat.mod_lt _ ai;have Y:a|||x.toNat%128*2 ^ min (7*k) 64%18446744073709551616<18446744073709551616:=Nat.or_lt_two_pow (n:=64) ha hb
  refine ah<|sT<|sQ<|aj<|bg Z<|sP (bp (z:=1) Z Z Z Z I) ?_
  refine cE (aF (v:=.int .u8 x.toNat) Z) (λw hw=>by have:=hp.at .head Z hx w hw;simpa using this) ?_;refine sA Z<|sB Z<|bg Z<|cG Z (zY (r:=((x.toNat%128:Nat):Int)) Z Z (C5 _ d7))<|sP (bJ (r:=((x.toNat%128:Nat):Int)) Z Z Z (wu64 ai))<|cG Z (l5 (r:=((7*k:Nat):Int)) Z Z eg)<|sP (mV (r:=((x.toNat%128*2 ^ min (7*k) 64%18446744073709551616:Nat):Int)) Z Z ai (by rw[Int.toNat_natCast,<-wu64n];congr 1)) ?_
  refine sP (xp (r:=((a|||x.toNat%128*2 ^ min (7*k) 64%18446744073709551616:Nat):Int)) Z Z (or64 ha hb)) ?_;refine sB Z<|bg Z<|sP (bB Z Z Z)<|sN ?_
  refine aA Z (λO=>?_) λO=>?_
  ·
   have hs:x.toNat<128:=by have:((x.toNat:Nat):Int)<128:=O;omega
   have d6:FK.take bs=some (a|||x.toNat%128*2 ^ min (7*k) 64%18446744073709551616,bs.drop (k+1)):=by
    rw[ht,hd,FK.jc,if_pos hs]
   refine sQ<|sZ Z<|eI Z Z<|cJ Z Z<|cJ Z Z<|bF Z (aT (r:=((k+1:Nat):Int)) Z Z eg)<|bF Z (eG (z:=1) (a:=k+1) (b:=bs.length) Z Z Z ⟨_,rfl⟩ rfl ai ai)<|bF Z (aQ Z)<|bF Z (aQ Z)<|dE<|sT<|an<|aJ<|aH<|cu<|aJ<|aH ?_
   exact db [p] rfl Z Z ⟨.inr ⟨_,k+1,d6,ai,Y,rfl⟩,rfl⟩ aN
  ·
   have hs:¬x.toNat<128:=by have:¬((x.toNat:Nat):Int)<128:=O;omega
   have T:FK.take bs=FK.jc (bs.drop (k+1)) (k+1) (a|||x.toNat%128*2 ^ min (7*k) 64%18446744073709551616):=by
    rw[ht,hd,FK.jc,if_neg hs]
   refine ah<|am<|sT<|sG<|sP (aT (r:=((k+1:Nat):Int)) Z Z eg)<|sM Z<|aq ?_
   exact aC (k+1,_) ⟨by show k+1<=bs.length;omega,Y,T⟩ (by show bs.length-(k+1)<bs.length-k;omega) cf aN
 ·
  have d8:k=bs.length:=by have:¬(k:Int)<(bs.length:Int):=K;omega
  refine aK<|av<|au<|ao<|sT<|sS<|sA Z<|sB Z<|an ?_
  exact db [p] rfl Z Z ⟨.inl ⟨by rw[ht,d8,List.drop_length];rfl,rfl⟩,rfl⟩ aN
theorem cut0 {g n:Nat}:Value.slice (if c=0 then some (⟨g,o,none⟩:Addr) else(some (⟨g,o,none⟩:Addr)).map (·.add (0*1))) (n-0) (c-0)=.slice (some ⟨g,o,none⟩) n c:=by
 rw[Option.map_some,jU];simp
theorem Reads.head {g:Nat} (h:Reads p (some ⟨g,o,none⟩) bs) (n:Nat):Reads p (some ⟨g,o,none⟩) (bs.take n):=by
 have:=h.sub (k:=0) (n:=n) (A':=some ⟨g,o,none⟩) (λ_=>by rw[Option.map_some,jU];rfl)
 rwa [List.drop_zero] at this
def uI (x:UInt8):Int:=x.toNat
theorem yi (l:List UInt8):cw l=(l.map uI).map (Value.int .u8):=by
 unfold cw;rw[List.map_map]
 rfl
theorem Fp:∀{l m:List UInt8},l.map uI=m.map uI->l=m
 | [],[],_=>rfl
 | [],_::_,h=>by cases h
 | _::_,[],h=>by cases h
 | x::l,y::m,h=>by
  injection h with E I;have E:(x.toNat:Int)=y.toNat:=E;rw[Fp I,UInt8.toNat_inj.1 (by omega:x.toNat=y.toNat)]
theorem Ke (a b c d:UInt8):Instr.fill (λi=>some (i*1,1)) (Value.agg #[.int .u8 0,.int .u8 0,.int .u8 0,.int .u8 0]).cells ((List.map (λx=>x.fst) [((0:Nat),Operand.tmp 54),(1,.tmp 57),(2,.tmp 60),(3,.tmp 62)]).zip (([a,b,c,d].map uI).map (Value.int .u8)))=some (([a,b,c,d].map uI).map (Value.int .u8)).toArray:=by
 simp[Instr.fill,Value.cells]
theorem FQ:Tryz.prog.eqGuardType Tryz.prog.depth 251=false:=by kernel_rfl
theorem Jf {n s:Nat} (E:FK.take bs=some (n,bs.drop k)) (K:k<=bs.length) (O:n+4<=bs.length-k) (I:s=FK.jr (bs.take (k+n))):FK.next bs=if (bs.drop (k+n)).take 4=FK.jp s then some ((bs.drop k).take n,bs.drop (k+n+4)) else none:=by
 unfold FK.next;rw[E];simp only;rw[if_neg (by rw[List.length_drop];omega),List.length_drop,show bs.length-(bs.length-k)+n=k+n by omega,List.drop_drop,List.drop_drop,I]
 rfl
def Il (p:HP) (bs:List UInt8) (v:Value):Prop:=
 (FK.next bs=none/\v=.tuple #[.slice none 0 0,.slice none 0 0,.bool false])\/
  ∃x r A1 E I K,FK.next bs=some (x,r)/\v=.tuple #[.slice A1 x.length E,.slice I r.length K,.bool true]/\Reads p A1 x/\x.length<=E/\Reads p I r/\r.length<=K
theorem nF (O:Reads p A bs) (hc:bs.length<=c) (hl:bs.length<=140737488355328):dZ G 98 [.slice A bs.length c] [p] λv m=>Il p bs v/\m=[p]:=by
 refine bz Tryz.func98 Z λE fr hE=>ae<|sS<|sA Z<|sA Z<|sB Z<|sQ ?_
 by_cases HT:FK.take bs=none
 ·
  refine sG<|sM Z ?_
  refine ch Z (nC O hc hl) aN ?_;rintro v m ⟨hv,rfl⟩;refine ae ?_;obtain rfl:v=.tuple #[.int .u64 0,.slice none 0 0]:=by
   rcases hv with⟨_,h⟩|⟨n,k,h,_⟩
   · exact h
   · rw[HT] at h;cases h
  refine sM Z<|bG Z Z<|bG Z Z<|sA Z<|sB Z<|bg Z<|sP (bh Z Z)<|cG Z (bh Z Z)<|sP (cH (r:=(bs.length:Int)) Z Z eg)<|sB Z<|sQ<|sS ?_
  refine cG Z (kR Z Z Z)<|sM Z<|bQ Z<|bQ Z<|bQ Z<|bQ Z<|bQ Z<|sP (aS Z Z Z)<|sM Z<|bQ Z<|bQ Z<|bQ Z<|bQ Z<|bQ Z<|bQ Z<|sP (aS Z Z Z)<|sN<|aO Z ?_
  refine sS<|sA Z<|sA Z<|sB Z<|an<|aH ?_
  exact fM [p] rfl Z Z Z ⟨.inl ⟨by unfold FK.next;rw[HT],rfl⟩,rfl⟩ aN
 ·
  refine sG<|sM Z ?_
  refine ch Z (nC O hc hl) aN ?_;rintro v m ⟨hv,rfl⟩;refine ae ?_;obtain⟨n,k,ht,hk,hn,rfl⟩:∃n k,FK.take bs=some (n,bs.drop k)/\k<=bs.length/\n<18446744073709551616/\v=.tuple #[.int .u64 n,Dj A bs.length c k]:=by
   rcases hv with⟨h,_⟩|h
   · exact absurd h HT
   · exact h
  obtain⟨g,o,rfl⟩:=O.form (by rintro rfl;exact HT rfl);obtain⟨o',d7⟩:=H9 (b:=g) (o:=o) (c:=c) (k:=k);have I:¬n+4<=bs.length-k->FK.next bs=none:=λh=>by unfold FK.next;rw[ht];simp only;rw[if_pos (by rw[List.length_drop];omega)]
  rw[show Dj (some ⟨g,o,none⟩) bs.length c k=.slice (some ⟨g,o',none⟩) (bs.length-k) (c-k) by unfold Dj;rw[d7]];refine sM Z<|bG Z Z<|bG Z Z<|sA Z<|sB Z<|bg Z<|sP (bh Z Z)<|cG Z (bh Z Z)<|sP (cH (r:=((k:Nat):Int)) Z Z eg)<|sB Z<|sQ<|sQ ?_
  by_cases HA:n<=bs.length-k
  ·
   by_cases HB:n+4<=bs.length-k
   ·
    refine sG<|cG Z (kR Z Z Z)<|sM Z<|iC Z<|iC Z<|eJ (bh Z Z)<|eJ (bJ Z Z Z (wu64 ai))<|eJ (eS (r:=false) Z Z (by simp;omega))<|sP (aS Z Z Z)<|sM Z<|iC Z<|eJ (bh Z Z)<|eJ (bJ Z Z Z (wu64 ai))<|iC Z<|eJ (cH (r:=((bs.length-k-n:Nat):Int)) Z Z (by rw[SL.wu64 ai];omega))<|eJ (bB (r:=false) Z Z (by simp;omega))<|sP (aS Z Z Z)<|sN ?_
    refine ak Z<|ah<|sT<|bg Z<|cG Z (bJ (r:=(n:Int)) Z Z Z (iI ai))<|sP (aT (r:=((k+n:Nat):Int)) Z Z eg)<|sB Z<|sQ ?_
    have T:(bs.take (k+n)).length=k+n:=by rw[List.length_take];omega
    obtain⟨s,hs⟩:∃s,s=FK.jr (bs.take (k+n)):=⟨_,rfl⟩;have Y:dZ G 134 [.slice (some ⟨g,o,none⟩) (k+n) c] [p] λv m=>v=.int .u32 s/\m=[p]:=by
     have h:=xA (G:=G) c (O.head (k+n)) ai;rw[T,<-hs] at h;exact h
    have K:FK.next bs=if (bs.drop (k+n)).take 4=FK.jp s then some ((bs.drop k).take n,bs.drop (k+n+4)) else none:=Jf ht hk HB hs
    refine sG<|sM Z<|cG Z (eG (z:=1) (a:=0) (b:=k+n) Z Z Z Z ⟨_,rfl⟩ ai ai) ?_
    rw[cut0];refine bV Z Y aN ?_;refine ae<|sB Z<|sQ<|sQ ?_
    by_cases HS:(bs.drop (k+n)).take 4=FK.jp s
    ·
     refine sG<|sM Z<|sM Z<|cG Z (aT (r:=((k+n+4:Nat):Int)) Z Z eg)<|sP (eG (z:=1) (a:=k+n) (b:=k+n+4) Z Z Z ⟨_,rfl⟩ ⟨_,rfl⟩ ai ai) ?_
     rw[if_neg (show ¬c=k+n by omega),Option.map_some,jU,Nat.mul_one];refine sP (FT (n:=4) Z Z ai) ?_;refine cE (pc (n:=4) (vs:=(((bs.drop (k+n)).take 4).map uI).map (Value.int .u8)) Z Z (by simp;omega) Z) (λw hw=>by rw[<-yi];exact O.rowAt .head Z w hw) ?_;refine sM Z ?_;refine sP (fU (r:=((s/16777216:Nat):Int)) Z Z ai (by exact vF s 24)) ?_;refine sP (bJ (r:=((UInt8.ofNat (s/16777216)).toNat:Int)) Z Z Z (jw _))<|sM Z ?_
     refine sP (fU (r:=((s/65536:Nat):Int)) Z Z ai (by exact vF s 16)) ?_;refine sP (bJ (r:=((UInt8.ofNat (s/65536)).toNat:Int)) Z Z Z (jw _))<|sM Z ?_
     refine sP (fU (r:=((s/256:Nat):Int)) Z Z ai (by exact vF s 8)) ?_;refine sP (bJ (r:=((UInt8.ofNat (s/256)).toNat:Int)) Z Z Z (jw _))<|cG Z (bJ (r:=((UInt8.ofNat s).toNat:Int)) Z Z Z (jw _))<|sP (vq (size:=1) (ps:=[(0,.tmp 54),(1,.tmp 57),(2,.tmp 60),(3,.tmp 62)]) (vs:=((FK.jp s).map uI).map (Value.int .u8)) (cs:=(((FK.jp s).map uI).map (Value.int .u8)).toArray) Z Z Z Z (Ke _ _ _ _))<|sP (CR (n:=4) (us:=((bs.drop (k+n)).take 4).map uI) (bs:=(FK.jp s).map uI) (r:=false) Z Z Z Z FQ Z Z (by simp;omega) Z (by rw[HS];simp))<|sN<|ak Z<|ah<|sT<|sQ<|sZ Z<|eI Z Z<|cJ Z Z<|cJ Z Z<|cJ Z Z<|bF Z (Et (z:=1) (a:=k) (b:=k+n) (c:=k+n) Z Z Z Z Z Z ai (cm _) ai)<|cJ Z Z<|cJ Z Z<|bF Z (aT (r:=((k+n+4:Nat):Int)) Z Z eg) ?_
     refine dr 8 Z (eG (z:=1) (a:=k+n+4) (b:=bs.length) Z Z Z ⟨_,rfl⟩ rfl ai ai)<|bF Z (aQ Z)<|bF Z (aQ Z)<|bF Z (aQ Z)<|dE<|sT<|an ?_
     have d8:((bs.drop k).take n).length=k+n-k:=by rw[List.length_take,List.length_drop];omega
     have d9:(bs.drop (k+n+4)).length=bs.length-(k+n+4):=List.length_drop;refine fM [p] rfl Z Z Z ⟨.inr ⟨(bs.drop k).take n,bs.drop (k+n+4),_,_,_,_,by rw[K,if_pos HS],by rw[d8,d9],?_,ai,O.cut hc,ai⟩,rfl⟩ aN;exact O.sub λd6=>by rw[if_neg (λh=>d6 (by rw[show n=0 by omega,List.take_zero])),Nat.mul_one]
    ·
     refine sG<|sM Z<|sM Z<|cG Z (aT (r:=((k+n+4:Nat):Int)) Z Z eg)<|sP (eG (z:=1) (a:=k+n) (b:=k+n+4) Z Z Z ⟨_,rfl⟩ ⟨_,rfl⟩ ai ai) ?_
     rw[if_neg (show ¬c=k+n by omega),Option.map_some,jU,Nat.mul_one];refine sP (FT (n:=4) Z Z ai) ?_;refine cE (pc (n:=4) (vs:=(((bs.drop (k+n)).take 4).map uI).map (Value.int .u8)) Z Z (by simp;omega) Z) (λw hw=>by rw[<-yi];exact O.rowAt .head Z w hw) ?_;refine sM Z ?_;refine sP (fU (r:=((s/16777216:Nat):Int)) Z Z ai (by exact vF s 24)) ?_;refine sP (bJ (r:=((UInt8.ofNat (s/16777216)).toNat:Int)) Z Z Z (jw _))<|sM Z ?_
     refine sP (fU (r:=((s/65536:Nat):Int)) Z Z ai (by exact vF s 16)) ?_;refine sP (bJ (r:=((UInt8.ofNat (s/65536)).toNat:Int)) Z Z Z (jw _))<|sM Z ?_
     refine sP (fU (r:=((s/256:Nat):Int)) Z Z ai (by exact vF s 8)) ?_;refine sP (bJ (r:=((UInt8.ofNat (s/256)).toNat:Int)) Z Z Z (jw _))<|cG Z (bJ (r:=((UInt8.ofNat s).toNat:Int)) Z Z Z (jw _))<|sP (vq (size:=1) (ps:=[(0,.tmp 54),(1,.tmp 57),(2,.tmp 60),(3,.tmp 62)]) (vs:=((FK.jp s).map uI).map (Value.int .u8)) (cs:=(((FK.jp s).map uI).map (Value.int .u8)).toArray) Z Z Z Z (Ke _ _ _ _)) ?_
     refine sP (CR (n:=4) (us:=((bs.drop (k+n)).take 4).map uI) (bs:=(FK.jp s).map uI) (r:=true) Z Z Z Z FQ Z Z (by simp;omega) Z (by simp only[decide_eq_true_eq];exact λh=>HS (Fp h))) ?_;refine sN<|aO Z<|sS<|sA Z<|sA Z<|sB Z<|an<|aH ?_
     exact fM [p] rfl Z Z Z ⟨.inl ⟨by rw[K,if_neg HS],rfl⟩,rfl⟩ aN
   ·
    refine sG<|cG Z (kR Z Z Z)<|sM Z<|iC Z<|iC Z<|eJ (bh Z Z)<|eJ (bJ Z Z Z (wu64 ai))<|eJ (eS (r:=false) Z Z (by simp;omega))<|sP (aS Z Z Z)<|sM Z<|iC Z<|eJ (bh Z Z)<|eJ (bJ Z Z Z (wu64 ai))<|iC Z<|eJ (cH (r:=((bs.length-k-n:Nat):Int)) Z Z (by rw[SL.wu64 ai];omega))<|eJ (bB (r:=true) Z Z (by simp;omega))<|sP (aS Z Z Z)<|sN ?_
    refine aO Z<|sS<|sA Z<|sA Z<|sB Z<|an<|aH ?_
    exact fM [p] rfl Z Z Z ⟨.inl ⟨by rw[I ai],rfl⟩,rfl⟩ aN
  ·
   refine sG<|cG Z (kR Z Z Z)<|sM Z<|iC Z<|iC Z<|eJ (bh Z Z)<|eJ (bJ Z Z Z (wu64 ai))<|eJ (eS (r:=true) Z Z (by simp;omega))<|sP (aS Z Z Z)<|sM Z<|bQ Z<|bQ Z<|bQ Z<|bQ Z<|bQ Z<|bQ Z<|sP (aS Z Z Z)<|sN ?_
   refine aO Z<|sS<|sA Z<|sA Z<|sB Z<|an<|aH ?_
   exact fM [p] rfl Z Z Z ⟨.inl ⟨by rw[I ai],rfl⟩,rfl⟩ aN
end
end Go.Y

namespace Go.Y
open Go.Proofs Go.RowKit Go.Deep
def ErrAt (w:World) (base:Nat) (v:Value) (p:Int×Int):Prop:=
 (p.1=0/\v=.nilIface)\/(p.1≠0/\∃b,v=.iface 125 (.pointer (some ⟨b,0,none⟩))/\base<=b/\Blk w b 130 #[.int .i64 p.1,.int .i64 p.2])
theorem ErrAt.made {w:World} {base:Nat} {p:Int×Int} (E:p.1≠0) (I:base<=w.heap.size) :
 ErrAt (w.alloc (.cells #[.int .i64 p.1,.int .i64 p.2] 130)) base (.iface 125 (.pointer (some ⟨w.heap.size,0,none⟩))) p:=
 .inr ⟨E,_,rfl,I,Blk.made _ _ _⟩
theorem ErrAt.keep {w w':World} {base:Nat} {v:Value} {p:Int×Int} (h:ErrAt w base v p) (K:∀b,base<=b->b<w.heap.size->w'.heap[b]?=w.heap[b]?):ErrAt w' base v p:=by
 rcases h with h|⟨O,b,T,E,I⟩
 · exact .inl h
 · exact .inr ⟨O,b,T,E,(K b E I.lt).trans I⟩
theorem m0 (n low:Int) (w:World) (E:low<=n) (I:n<=1048576) :
 Calls Tryz.prog 106 #[.int .i64 n,.int .i64 low] w λe w'=>e=.returned (.bool true)/\w=w':=by
 go_enter Tryz.func106,Tryz.ntmps106
 go_wp2
 go_ret
 exact⟨rfl,rfl⟩
theorem Ch (n low:Int) (w:World) (h:n<low\/1048576<n) :
 Calls Tryz.prog 106 #[.int .i64 n,.int .i64 low] w λe w'=>e=.returned (.bool false)/\w=w':=by
 by_cases I:low<=n
 · have E:decide (n<=1048576)=false:=by simp;omega
   clear h
   go_enter Tryz.func106,Tryz.ntmps106
   go_wp2
   go_ret
   exact⟨rfl,rfl⟩
 · have E:n<low:=ai
   clear h
   go_enter Tryz.func106,Tryz.ntmps106
   go_wp2
   go_ret
   exact⟨rfl,rfl⟩
theorem ie (e a:Int) (w:World) :
 Calls Tryz.prog 105 #[.int .i64 e,.int .i64 a] w λE w'=>E=.returned (.iface 125 (.pointer (some ⟨w.heap.size,0,none⟩)))/\w.alloc (.cells #[.int .i64 e,.int .i64 a] 130)=w':=by
 go_enter Tryz.func105,Tryz.ntmps105
 go_wp2
 go_ret
 exact⟨rfl,rfl⟩
theorem AV (k:Int) (w:World) :
 Calls Tryz.prog 108 #[.int .i64 k] w λE w'=>E=.returned (.tuple #[])/\w=w':=by
 go_enter Tryz.func108,Tryz.ntmps108
 go_wp2
 go_end0
 exact⟨rfl,rfl⟩
theorem AU {n:FK.Node} (h:¬FK.ef n) :
 n.Lz<1\/(1<=n.Lz/\5<n.Lz)\/((1<=n.Lz/\n.Lz<=5)/\(n.close<1\/1048576<n.close))\/
 ((1<=n.Lz/\n.Lz<=5)/\(1<=n.close/\n.close<=1048576)/\(n.beat<0\/1048576<n.beat))\/
 ((1<=n.Lz/\n.Lz<=5)/\(1<=n.close/\n.close<=1048576)/\(0<=n.beat/\n.beat<=1048576)/\(n.base<1\/1048576<n.base))\/
 ((1<=n.Lz/\n.Lz<=5)/\(1<=n.close/\n.close<=1048576)/\(0<=n.beat/\n.beat<=1048576)/\(1<=n.base/\n.base<=1048576)/\(n.cap<n.base\/1048576<n.cap))\/
 ((1<=n.Lz/\n.Lz<=5)/\(1<=n.close/\n.close<=1048576)/\(0<=n.beat/\n.beat<=1048576)/\(1<=n.base/\n.base<=1048576)/\(n.base<=n.cap/\n.cap<=1048576)/\(n.LA<0\/1048576<n.LA)):=by
 unfold FK.ef FK.span at h;omega
def CheckPost (w:World) (p:Int×Int) (e:Ending) (w':World):Prop:=∃v,e=.returned v/\ErrAt w' w.heap.size v p/\Below w.heap.size w w'
theorem eZ {w w':World} {p:Int×Int} {b:Nat} (I:p.1≠0) (E:Below w.heap.size w w') (K:w'.heap.size=b) :
 CheckPost w p (.returned (.iface 125 (.pointer (some ⟨b,0,none⟩)))) (w'.alloc (.cells #[.int .i64 p.1,.int .i64 p.2] 130)):=
 ⟨_,rfl,by subst K;exact .made I E.size,E.alloc E.size _⟩
theorem BP (w:World) (A:Option Addr) (c:Nat) (f:FK.Flow) (K:¬FK.j8 f):Calls Tryz.prog 59 #[.agg #[.int .i64 f.deadline,.slice A f.Lw.length c]] w (CheckPost w (FK.chk f)):=by
 have HR:=Lib.hid (FK.Checked.head K).chk;have E:(f.deadline<1\/1048576<f.deadline)\/((1<=f.deadline/\f.deadline<=1048576)/\f.Lw.length=0)\/((1<=f.deadline/\f.deadline<=1048576)/\12<f.Lw.length):=by
  unfold FK.j8 FK.span at K;omega
 clear K;rw[HR.out];rcases E with h|⟨⟨T,Y⟩,h3⟩|⟨⟨T,Y⟩,h3⟩
 · go_enter Tryz.func59,Tryz.ntmps59
   go_wp2_with (first
    | (go_at_call 106;refine(Ch _ _ _ ai).mono ?_;rintro e I ⟨rfl,rfl⟩)
    | (go_at_call 105;refine(ie _ _ _).mono ?_;rintro e I ⟨rfl,rfl⟩))
   go_ret
   refine eZ (w:=w) (p:=(2,-1)) di ?_ cP;exact Dh
 · have O:((f.Lw.length:Int)==0)=true:=by simp[h3]
   have H3:=Lib.hid h3;clear h3
   go_enter Tryz.func59,Tryz.ntmps59
   go_wp2_with (first
    | (go_at_call 106;refine(m0 _ _ _ ai ai).mono ?_;rintro e I ⟨rfl,rfl⟩)
    | (go_at_call 105;refine(ie _ _ _).mono ?_;rintro e I ⟨rfl,rfl⟩))
   go_ret
   refine eZ (w:=w) (p:=(2,-1)) di ?_ cP;exact Dh
 · have O:((f.Lw.length:Int)==0)=false:=by rw[beq_eq_false_iff_ne];omega
   go_enter Tryz.func59,Tryz.ntmps59
   go_wp2_with (first
    | (go_at_call 106;refine(m0 _ _ _ ai ai).mono ?_;rintro e I ⟨rfl,rfl⟩)
    | (go_at_call 105;refine(ie _ _ _).mono ?_;rintro e I ⟨rfl,rfl⟩))
   go_ret
   refine eZ (w:=w) (p:=(2,-1)) di ?_ cP;exact Dh
end Go.Y

namespace Go.Y
open Go.Proofs Go.RowKit Go.Deep
theorem Tab.lt {w:World} (h:Tab w):2<w.heap.size:=by
 have K:=h 0 di;rcases Nat.lt_or_ge 2 w.heap.size with E|I
 · exact E
 · unfold World.cell? at K
   simp[Array.getElem?_eq_none I] at K
theorem Tab.below {w w':World} (h:Tab w) (E:Below w.heap.size w w'):Tab w':=h.keep E.to_same h.lt
theorem tL {len m:Nat} {p:Int} {l:List Int} (E:m<l.length):FK.EdgesOk len p (l.drop m)<->(p<l[m]/\l[m]<len/\FK.EdgesOk len l[m] (l.drop (m+1))):=by
 rw[List.drop_eq_getElem_cons E];rfl
def C9 (len:Nat) (l:List Int) (m:Nat) (E:Int):Prop:=FK.EdgesOk len (-1) l<->FK.EdgesOk len E (l.drop m)
theorem BQ (w:World) (B:Nat) (A:Option Addr) (c:Nat) (f:FK.Flow) (hB:B<=w.heap.size) (hN:NodesAt w B A c f.Lw) (hT:Tab w)
 (hh:FK.j8 f):Calls Tryz.prog 59 #[.agg #[.int .i64 f.deadline,.slice A f.Lw.length c]] w (CheckPost w (FK.chk f)):=by
 have LB:=hh;obtain⟨⟨d1,d2⟩,l1,l2⟩:=LB;have HN:=Lib.hid hN;have HT:=Lib.hid hT;have HH:=Lib.hid hh;have g1:=hN.len;have g2:=hN.cap;clear hT hh hN;have hz:((f.Lw.length:Int)==0)=false:=by rw[beq_eq_false_iff_ne];omega
 have t8:∀(args:Array Value) (W:World),(callFunc 108 args).run Tryz.prog W=.ok (.enter 108 args) W:=λargs W=>by kernel_rfl
 have LK:=Lib.hid t8;clear t8
 go_enter Tryz.func59,Tryz.ntmps59
 go_wp2_with (go_at_call 106;refine(m0 _ _ _ ai ai).mono ?_;rintro e w2 ⟨rfl,rfl⟩)
 go_loopw [33] (λi wr=>∃k:Nat,k<=f.Lw.length/\i=.int .i64 k/\FK.OkTo f k/\Below w.heap.size w wr/\w.heap.size<wr.heap.size/\wr.cell? ⟨w.heap.size,1,none⟩=some (.slice A f.Lw.length c)) (λi _=>f.Lw.length-(RowKit.intOf i).toNat)
 case atStart=>exact⟨0,ai,rfl,λj n hj=>by omega,Dh,by simp,by go_simp⟩
 case round=>
  obtain⟨k,hk,rfl,d7,hb,LW,LX⟩:=hrel
  by_cases LR:k<f.Lw.length
  · obtain⟨b,LY,rfl,LP,d8⟩:=HN.out.cells ai
    have f8:f.Lw[k]?=some f.Lw[k]:=by simp[LR]
    obtain⟨n,hn⟩:∃n,n=f.Lw[k]:=⟨_,rfl⟩;rw[<-hn] at f8;clear hn;have LC:=(d8 k n f8).keep (hb.to_same.mono hB) LP;obtain⟨c0,c1,c2,c3,c4,c5,⟨A6,n6,c6,hi⟩,hr⟩:=LC;have f9:=Lib.hid hi;have mt:=Lib.hid f8;have K:=Lib.hid d7;have HB:=Lib.hid hb;clear d8 hr hi f8 d7 hb
    by_cases d9:FK.ef n
    · have LD:=Lib.hid d9
      obtain⟨a1,a2,⟨a3,a4⟩,⟨a5,a6⟩,⟨a7,a8⟩,⟨a9,LZ⟩,L3,L4⟩:=d9;have L9:=f9.out.len;have Ma:=f9.out.cap
      go_wp2_with (go_at_call 106;refine(m0 _ _ _ ai ai).mono ?_;rintro e w2 ⟨rfl,rfl⟩)
      go_loop [7,89] (λs t=>∃(m:Nat) (I:Int),m<=n.after.length/\t=.int .i64 m/\s=.int .i64 I/\-1<=I/\I<f.Lw.length/\C9 f.Lw.length n.after m I) (λ_ t=>n.after.length-(RowKit.intOf t).toNat)
      case atStart=>exact⟨0,-1,ai,rfl,rfl,ai,ai,by simp[C9]⟩
      case round=>
       obtain⟨m,I,hm,rfl,rfl,Y,L5,LH⟩:=hrel;have t6:=Lib.hid LH;clear LH
       by_cases wf:m<n.after.length
       · obtain⟨b6,o6,LQ,L6,LJ⟩:=f9.out.cells ai
         have LS:=LJ m n.after[m] (by simp[wf]);have LL:=f9.out.rng n.after[m] (List.getElem_mem _);obtain⟨x,hx⟩:∃x,x=n.after[m]:=⟨_,rfl⟩;rw[<-hx] at LS LL;have HD:=Lib.hid (tL (len:=f.Lw.length) (p:=I) wf);rw[<-hx] at HD;obtain⟨L7,L8⟩:=LL;have LT:b6<wr.heap.size:=ai;subst LQ;clear LJ hx
         by_cases h1:x<=I
         · have O:¬FK.EdgesOk f.Lw.length (-1) n.after:=λhe=>by have:=(HD.out.1 (t6.out.1 he)).1;omega
           have HR:=Lib.hid (FK.Checked.edge k n HH.out K.out mt.out LD.out O).chk;clear O
           go_wp2_with (go_at_call 105;refine(ie _ _ _).mono ?_;rintro e w2 ⟨rfl,rfl⟩)
           go_ret
           rw[HR.out];refine eZ (w:=w) (p:=(3,(k:Int))) cP ?_ cP;exact(Di HB.out)
         · by_cases h2:(f.Lw.length:Int)<=x
           · have O:¬FK.EdgesOk f.Lw.length (-1) n.after:=λhe=>by have:=(HD.out.1 (t6.out.1 he)).2.1;omega
             have HR:=Lib.hid (FK.Checked.edge k n HH.out K.out mt.out LD.out O).chk;clear O
             go_wp2_with (go_at_call 105;refine(ie _ _ _).mono ?_;rintro e w2 ⟨rfl,rfl⟩)
             go_ret
             rw[HR.out];refine eZ (w:=w) (p:=(3,(k:Int))) cP ?_ cP;exact(Di HB.out)
           · go_wp2
             go_round
             case rel=>exact⟨m+1,x,ai,by go_num,rfl,ai,ai,t6.out.trans (HD.out.trans ⟨λh=>h.2.2,λh=>⟨ai,ai,h⟩⟩)⟩
             case measure=>simp[RowKit.intOf];omega
       · have d6:FK.EdgesOk f.Lw.length (-1) n.after:=t6.out.2 (by rw[List.drop_of_length_le ai];trivial)
         have f7:FK.OkTo f (k+1):=λj n' hj LG=>by
          rcases Nat.lt_or_ge j k with h|h
          · exact K.out j n' h LG
          · obtain rfl:j=k:=ai
            have:=mt.out;rw[LG] at this;cases this;exact⟨LD.out,d6⟩
         have LE:=Lib.hid f7;clear f7 d6
         go_wp2
         go_roundw
         case rel=>exact⟨k+1,ai,by go_num,LE.out,(Di HB.out),by simp;omega,by go_simp⟩
         case measure=>simp[RowKit.intOf];omega
    · have HR:=Lib.hid (FK.Checked.bound k n HH.out K.out mt.out d9).chk
      have LF:=AU d9;clear d9;rcases LF with h|⟨h0,h⟩|⟨h0,h⟩|⟨h0,h2,h⟩|⟨h0,h2,h3,h⟩|⟨h0,h2,h3,h4,h⟩|⟨h0,h2,h3,h4,h5,h⟩
      all_goals
       go_wp2_with (first
        | (go_at_call 106;refine(m0 _ _ _ ai ai).mono ?_;rintro e w2 ⟨rfl,rfl⟩)
        | (go_at_call 106;refine(Ch _ _ _ ai).mono ?_;rintro e w2 ⟨rfl,rfl⟩)
        | (go_at_call 105;refine(ie _ _ _).mono ?_;rintro e w2 ⟨rfl,rfl⟩))
       go_ret
       rw[HR.out];refine eZ (w:=w) (p:=(2,(k:Int))) cP ?_ cP;exact(Di HB.out)
  · obtain rfl:k=f.Lw.length:=ai
    have K:=Lib.hid d7;have HB:=Lib.hid hb;have Mb:=HT.out.lt;have hv:=d7.aft_lt;have BT:∀n∈f.Lw,∀x∈n.after,0<=x:=λn hn x hx=>by
     obtain⟨i,hi,rfl⟩:=List.mem_iff_getElem.1 hn;have:=(d7 i f.Lw[i] hi (by simp[hi])).2.bounds x hx;omega
    have LM:=Lib.hid (p9 wr B A c f.Lw 108 #[] (λW _=>Below wr.heap.size wr W) ai l2 hv BT LK.out (Below.refl _ _)
     (λW T h=>⟨(HN.out.keep (hb.to_same.mono hB)).keep (h.to_same.mono ai),(HT.out.below hb).below h,h.size⟩)
     (λW W' T h h'=>h.trans h')
     (λW T k h _ _ _=>(AV k W).mono λe W' ⟨he,hw⟩=>by subst hw;exact⟨he,h,cm _,λ_ _ _=>rfl⟩))
    clear d7 hb hv BT
    go_wp2_with (fail)
    refine LM.out.mono ?_;rintro e w2 ⟨left,T,rfl,Fd,In,t7⟩;have E:=In.stuck (K.out.aft_lt) t7;have Mc:=na In l2;have LN:=Lib.hid (HB.out.trans (Fd.mono HB.out.size));have LU:=Lib.hid ((HT.out.below HB.out).below Fd);clear Fd In t7
    by_cases Y:left=0
    · have HR:=Lib.hid (FK.Checked.ok HH.out K.out λi hi=>Classical.byContradiction λhn=>by
       have:=(E i).2 ⟨hi,hn⟩;rw[Y] at this;simp at this).chk
      have LV:((left:Int) !=0)=false:=by rw[Y];rfl
      clear E Y
      go_wp2
      go_ret
      rw[HR.out];exact⟨_,rfl,.inl ⟨rfl,rfl⟩,LN.out⟩
    · obtain⟨t1,t2,t3⟩:=rx left ai Y
      have LO:=Lib.hid (rT left ai Y w2 LU.out);have LV:((left:Int) !=0)=true:=by rw[bne_iff_ne];omega
      generalize Lib.ctz 64 left=t at LO t1 t2 t3
      have ht:=(E t).1 t1;have HR:=Lib.hid (FK.Checked.cycle t HH.out K.out ht.1 ht.2 λj hj=>Classical.byContradiction λhn=>by
       have:=(E j).2 ⟨ai,hn⟩;rw[t2 j hj] at this;cases this).chk
      clear E Y t1 t2 ht
      go_wp2_with (first
       | (go_at_call 109;refine LO.out.mono ?_;rintro e w3 ⟨rfl,rfl⟩)
       | (go_at_call 105;refine(ie _ _ _).mono ?_;rintro e w3 ⟨rfl,rfl⟩))
      go_ret
      rw[HR.out];refine eZ (w:=w) (p:=(4,(t:Int))) cP ?_ cP;exact(Di LN.out)
theorem qa (w:World) (B:Nat) (A:Option Addr) (c:Nat) (f:FK.Flow) (I:B<=w.heap.size) (K:NodesAt w B A c f.Lw) (O:Tab w) :
 Calls Tryz.prog 59 #[.agg #[.int .i64 f.deadline,.slice A f.Lw.length c]] w (CheckPost w (FK.chk f)):=by
 by_cases E:FK.j8 f
 · exact BQ w B A c f I K O E
 · exact BP w A c f E
end Go.Y

namespace Go.SL
open Go.RowKit
theorem Holds.fresh {E:Env} {w w':World} {l:List HP} {b:Nat} {o:Obj} (h:Holds E w l) (K:Below w.heap.size w w') (Y:w.heap.size<=b) (T:w'.heap[b]?=some o):Holds E w' (SL.ob b o::l):=by
 refine⟨h.is.below K,λk=>k=b,E.free w,λk I=>?_,λk I=>⟨Nat.lt_of_lt_of_le I.1 K.size,I.2⟩,λk I O=>?_,⟨rfl,T⟩,h.star.loc (λ_ h=>h) λk I=>K.block k I.1⟩
 · subst I
   refine⟨(Array.getElem?_eq_some_iff.1 T).1,λp hp e=>?_⟩;have:=h.is.lt hp;omega
 · have:=O.1
   omega
end Go.SL
namespace Go.Y
open Go.Proofs Go.RowKit Go.SL
section
variable {bs:List UInt8} {q:Nat} {f:FK.Flow} {p:Int×Int} {m:List HP} {v:Value}
def ErrPost (p:Int×Int) (v:Value) (m:List HP):Prop:=(p.1=0/\v=.nilIface/\m=[])\/(p.1≠0/\∃b,v=.iface 125 (.pointer (some ⟨b,0,none⟩))/\m=[blk b 130 #[.int .i64 p.1,.int .i64 p.2]])
theorem ErrPost.ok (h:ErrPost p v m) (E:p.1=0):v=.nilIface/\m=[]:=by
 rcases h with⟨_,h⟩|⟨h,_⟩
 · exact h
 · exact absurd E h
theorem ErrPost.bad (h:ErrPost p v m) (E:p.1≠0):∃b,v=.iface 125 (.pointer (some ⟨b,0,none⟩))/\m=[blk b 130 #[.int .i64 p.1,.int .i64 p.2]]:=by
 rcases h with⟨h,_⟩|⟨_,h⟩
 · exact absurd h E
 · exact h
theorem lj (f:FK.Flow) (A:Option Addr) (c:Nat):Gives Tryz.prog Good 59 [.agg #[.int .i64 f.deadline,.slice A f.Lw.length c]].toArray (λw=>NodesAt w w.heap.size A c f.Lw)
 (ErrPost (FK.chk f)):=λE w hE hw hN=>
 (qa w w.heap.size A c f (cm _) hN (hE.tab w hw)).mono λe w' ⟨v,T,I,Y⟩=>by
  have h0:=(Holds.start hw);rcases I with⟨K,rfl⟩|⟨K,b,rfl,O,ho⟩
  · exact⟨_,[],T,.inl ⟨K,rfl,rfl⟩,h0.below Y⟩
  · exact⟨_,[_],T,.inr ⟨K,b,rfl,rfl⟩,h0.fresh Y O ho⟩
theorem H7 {e:Nat} (h:FK.rd bs 0=.error e):FK.uq bs=.error (1,(e:Int)):=by
 unfold FK.uq FK.ls;rw[pM h]
 rfl
theorem AN {n e:Nat} (h:FK.rd bs 0=.ok (n,q)) (E:FK.gu bs (FK.jd bs) q=.error e):FK.uq bs=.error (1,(e:Int)):=by
 unfold FK.uq FK.ls;rw[oR h];simp only[FK.andThen,E]
theorem DT {n E:Nat} {ns:List FK.Node} (h:FK.rd bs 0=.ok (n,q)) (I:FK.gu bs (FK.jd bs) q=.ok (ns,E)):FK.ls bs 0=.ok (⟨n,ns⟩,E):=by
 unfold FK.ls;rw[oR h];simp only[FK.andThen,I]
theorem H5 (h:FK.ls bs 0=.ok (f,q)) (E:q<bs.length):FK.uq bs=.error (1,(q:Int)):=by
 unfold FK.uq;rw[h];simp only[E,if_true]
theorem JT (h:FK.ls bs 0=.ok (f,q)) (E:¬q<bs.length) (hc:(FK.chk f).1≠0):FK.uq bs=.error ((FK.chk f).1,(FK.chk f).2):=by
 unfold FK.uq;rw[h];simp only[E,if_false,hc]
theorem H6 (h:FK.ls bs 0=.ok (f,q)) (E:¬q<bs.length) (hc:(FK.chk f).1=0):FK.uq bs=.ok f:=by
 unfold FK.uq;rw[h];simp only[E,if_false,hc,if_true]
end
variable {G:Env->Prop}
theorem tM (b2 b3:Nat) (x y z:Value):DoesD Tryz.prog G 117 [.pointer (some ⟨b2,0,none⟩),.pointer (some ⟨b3,0,none⟩)].toArray .returning .returning [blk b2 25 #[x,y],blk b3 71 #[z]]
 λm=>m=[blk b2 25 #[x,y],blk b3 71 #[z]]:=by
 refine DoesD.recover (v:=.nilIface) Tryz.func117 Z Z Z (.inl ⟨rfl,rfl,rfl⟩) λE fr I=>?_;exact az<|aj<|sS<|sP (jM Z Z)<|sN<|aO Z<|sG<|sA Z<|aq<|am<|bm [_,_] rfl ⟨rfl,rfl⟩ aN
theorem p7 (b2 b3 e:Nat) (x y z:Value):DoesD Tryz.prog G 117 [.pointer (some ⟨b2,0,none⟩),.pointer (some ⟨b3,0,none⟩)].toArray (.panicking (B7 e)) (.panicking [{v:=.iface 213 (.int .i64 e),recovered:=true}]) [blk b2 25 #[x,y],blk b3 71 #[z]]
 λm=>∃b,m=[blk b2 25 #[.int .i64 0,.slice none 0 0],blk b3 71 #[.iface 125 (.pointer (some ⟨b,0,none⟩))],blk b 130 #[.int .i64 1,.int .i64 e]]:=by
 refine DoesD.recover (v:=.iface 213 (.int .i64 e)) Tryz.func117 Z Z Z (.inr ⟨[],rfl,rfl⟩) λE fr K=>?_;refine az<|aj<|sS<|sP (dU Z Z)<|sN<|ak Z<|sS<|sP (ev_as Z Z Z)<|bG Z Z<|bG Z Z<|sN<|aO Z<|sS<|sA Z<|aq ?_
 refine sT<|sG<|sP (bT (ps:=[]) (vs:=[]) (cs:=#[.int .i64 0,.slice none 0 0]) Z Z Z Z Z)<|cG Z (bT (ps:=[(0,.const (.int .i64 1)),(1,.tmp 12)]) (vs:=[.int .i64 1,.int .i64 e]) (cs:=#[.int .i64 1,.int .i64 e]) Z Z Z Z Z)<|sO (cL Z Z λI=>(sP (ed Z Z Z) ?_))
 refine sO<|aZ Z (m:=2) (vs:=[.int .i64 0,.slice none 0 0]) Z Z Z Z fx cP ?_
 exact bK Z Z Z Z cP<|aq<|am<|bm [_,_,_] rfl ⟨rfl,I,rfl⟩<|Ent.perm<|List.Perm.swap _ _ _
end Go.Y

namespace Go.Y
open Go.Proofs Go.RowKit Go.SL
def Ik (bs:List UInt8) (p:HP) (v:Value) (m:List HP):Prop:=
 (∃(f:FK.Flow) (A':Option Addr) (E:Nat),FK.uq bs=.ok f/\(∀nd∈f.Lw,Small nd)/\v=.tuple #[.agg #[.int .i64 f.deadline,.slice A' f.Lw.length E],.nilIface]/\m=[nodesOwn (.slice A' f.Lw.length E) f.Lw,p])\/
 (∃(e a:Int) (b:Nat),FK.uq bs=.error (e,a)/\e≠0/\v=.tuple #[.agg #[.int .i64 0,.slice none 0 0],.iface 125 (.pointer (some ⟨b,0,none⟩))]/\m=[blk b 130 #[.int .i64 e,.int .i64 a],p])
theorem pL {p:HP} {A:Option Addr} {c:Nat} {bs:List UInt8} (hp:Reads p A bs) (hl:bs.length<=1099511627776) :
 eh 63 [.slice A bs.length c] [p] (Ik bs p):=by
 refine ox Tryz.func63 Z Z λE fr O=>?_;refine ae<|sS<|sO (cX (z:=.agg #[.int .i64 0,.slice none 0 0]) Z λb2=>(sO (cX (z:=.nilIface) Z λb3=>(sN (sS ?_)))))
 refine sP (ew Z Z) ?_;refine sO<|wi Z<|sN<|bg Z<|sP (bT (ps:=[(0,.tmp 7)]) (vs:=[.slice A bs.length c]) (cs:=#[.slice A bs.length c,.int .i64 0]) Z Z Z Z Z)<|sO (cL Z Z λb9=>(sB Z (sS (sM Z ?_))))
 refine sO<|nq Z Z Z O (iF (c:=c) hp hl b9 0 (Nat.zero_le _)) (aY .head dj) ?_ ?_
 ·
  rintro c m ⟨e,q',he,rfl,rfl⟩;refine az<|cI ?_
  refine mA Z Z O (p7 b2 b3 e _ _ _) (aY gC dj) ?_;rintro m ⟨b,rfl⟩;refine cD ?_;exact eb [_,_] rfl (ce (vs:=[.int .i64 0,.slice none 0 0]) Z Z Z Z (aR Z)) (dy Z Z (ag Z)) (.inr ⟨1,e,b,H7 he,ai,rfl,rfl⟩)<|Ent.drop.trans<|Ent.drop.trans<|Ent.cons Ent.drop
 rintro v m ⟨n,q1,hn,rfl,rfl⟩;refine az<|bX 0 Z ?_
 refine bK Z Z Z Z ii ?_;refine sN<|bg Z<|sM Z ?_
 refine sP (ew Z Z) ?_;refine sO<|nq Z Z Z O (D8 (c:=c) hp hl b9 q1 (FK.xl hn).2.2) (aY bM bM) ?_ ?_
 ·
  rintro c m ⟨e,q',he,rfl,rfl⟩;refine az<|cI ?_
  refine mA Z Z O (p7 b2 b3 e _ _ _) (aY dj dj) ?_;rintro m ⟨b,rfl⟩;refine cD ?_;exact eb [_,_] rfl (ce (vs:=[.int .i64 0,.slice none 0 0]) Z Z Z Z (aR Z)) (dy Z Z (ag Z)) (.inr ⟨1,e,b,AN hn he,ai,rfl,rfl⟩)<|Ent.drop.trans<|Ent.drop.trans<|Ent.cons Ent.drop
 rintro v m ⟨ns,q2,d7,d8,Y,⟨A',T,rfl⟩,rfl⟩;refine cD<|bX 1 Z<|bK Z Z Z Z (by simp[Value.cells]) ?_
 have I:=DT hn d7;refine sN<|sQ<|sS<|dS 1 Z Z<|aE Z Z Z Z<|cG Z (bh Z Z)<|sP (bB Z Z Z)<|sN ?_
 refine aA Z (λd6=>?_) λd6=>?_
 ·
  refine sG<|dS 1 Z Z<|aE Z Z Z Z<|sP (ed Z Z Z)<|sO<|Cs Z<|cI ?_
  refine mA Z Z O (p7 b2 b3 q2 _ _ _) (aY .head gC) ?_;rintro m ⟨b,rfl⟩;refine cD ?_;exact eb [_,_] rfl (ce (vs:=[.int .i64 0,.slice none 0 0]) Z Z Z Z (aR Z)) (dy Z Z (ag Z)) (.inr ⟨1,q2,b,H5 I ai,ai,rfl,rfl⟩)<|Ent.drop.trans<|Ent.drop.trans<|Ent.cons<|Ent.drop.trans Ent.drop
 ·
  refine ah<|sT<|sQ<|sQ ?_
  by_cases K:(FK.chk ⟨n,ns⟩).1=0
  ·
   refine sG<|cE (bR (vs:=[.int .i64 n,.slice A' ns.length T]) Z) (aR Z) ?_
   refine sO<|iP Z Z Z O (lj ⟨n,ns⟩ A' T) (nodesOwn.at bM λnd hnd=>(Y nd hnd).i64) ?_
   rintro v m hv;obtain⟨rfl,rfl⟩:=hv.ok K;refine aB<|sB Z<|bg Z<|sP (cS Z Z)<|sN<|ak Z<|ah<|sT<|sS<|cE (bR (vs:=[.int .i64 n,.slice A' ns.length T]) Z) (aR Z) ?_
   refine sO<|aZ Z (m:=2) (vs:=[.int .i64 n,.slice A' ns.length T]) Z Z Z Z fx (by simp[Value.cells]) ?_
   refine bK Z Z Z Z ii ?_;refine sN<|an ?_
   refine ic (.inl Z) Z Z O (tM b2 b3 _ _ _) (aY bM .head) ?_;rintro m rfl;refine az ?_;exact eb [_,_] rfl (ce (vs:=[.int .i64 n,.slice A' ns.length T]) Z Z Z Z (aR Z)) (dy Z Z (ag Z)) (.inl ⟨⟨n,ns⟩,A',T,H6 I ai K,Y,rfl,rfl⟩)<|Ent.drop.trans<|Ent.drop.trans<|Ent.cons Ent.drop
  ·
   refine sG<|cE (bR (vs:=[.int .i64 n,.slice A' ns.length T]) Z) (aR Z) ?_
   refine sO<|iP Z Z Z O (lj ⟨n,ns⟩ A' T) (nodesOwn.at bM λnd hnd=>(Y nd hnd).i64) ?_
   rintro v m hv;obtain⟨b,rfl,rfl⟩:=hv.bad K;refine ae<|sB Z<|bg Z<|sP (fj Z Z)<|sN<|aO Z<|sS<|sP (bT (ps:=[]) (vs:=[]) (cs:=#[.int .i64 0,.slice none 0 0]) Z Z Z Z Z)<|sM Z ?_
   refine sO<|aZ Z (m:=2) (vs:=[.int .i64 0,.slice none 0 0]) Z Z Z Z fx (by simp[Value.cells]) ?_
   refine bK Z Z Z Z ii ?_;refine sN<|an<|aH ?_
   refine ic (.inl Z) Z Z O (tM b2 b3 _ _ _) (aY bM .head) ?_;rintro m rfl;refine az ?_;exact eb [_,_] rfl (ce (vs:=[.int .i64 0,.slice none 0 0]) Z Z Z Z (aR Z)) (dy Z Z (ag Z)) (.inr ⟨_,_,b,JT I ai K,K,rfl,rfl⟩)<|Ent.drop.trans<|Ent.drop.trans<|Ent.cons<|Ent.drop.trans Ent.drop
end Go.Y

namespace Go.Y
open Go.Proofs Go.RowKit Go.SL
theorem Hq (u w:Value) (E:u.oneCell'=true) (hw:w.oneCell'=true) (z:Value) (I:z.cells.size=1):Instr.fill (λi=>some (i*1,1)) (Array.map (λx=>z.cells[x%z.cells.size]!) (Array.range (2*1))) ((List.map (λx=>x.fst) [((0:Nat),Operand.tmp 30),(1,.tmp 31)]).zip [u,w])=some #[u,w]:=by
 have e1:Array.range (2*1)=#[0,1]:=rfl;rw[e1];simp[Instr.fill,kv E,kv hw,I]
def mw (f e j d:Nat) (p:EA) (S:FK.En) (J:FK.Jn) (σ:FK.Dsk) (bs:List UInt8) (fl:FK.Flow) (pb:HP) (v:Value) (m:List HP):Prop:=
 ((J.add σ (dN (FK.frame (1::bs)))).2.2=0/\∃S0 E,FK.Cut S S0/\v=.tuple #[aV (S.Lt+1),.nilIface]/\m=dg f e j d E (S0.submit fl) (J.add σ (dN (FK.frame (1::bs)))).1 (J.add σ (dN (FK.frame (1::bs)))).2.1++[pb])\/
 ((J.add σ (dN (FK.frame (1::bs)))).2.2≠0/\v=.tuple #[aV 0,dO (J.add σ (dN (FK.frame (1::bs)))).2.2]/\m=dg f e j d p S (J.add σ (dN (FK.frame (1::bs)))).1 (J.add σ (dN (FK.frame (1::bs)))).2.1++[pb])
theorem wU {f e j d:Nat} {p:EA} {S:FK.En} {J:FK.Jn} {σ:FK.Dsk} {pb:HP} {A:Option Addr} {c:Nat} {bs:List UInt8} {fl:FK.Flow} (h:FK.Ok S) (hJ:J.n<1000000) (hr:Roomy σ) (hp:Reads pb A bs) (hA:A=none->bs=[]) (hl:bs.length<=1000000000) (hd:FK.uq bs=.ok fl) (K:FK.Fit fl) (d7:S.roomy=true) (d8:S.sets<9223372036854775807) (f9:S.Lt<9223372036854775807):eh 36 [aX f,.slice A bs.length c] (dg f e j d p S J σ++[pb]) (mw f e j d p S J σ bs fl pb):=by
 have BT:=K.head.2.2;have h1:=K.head.2.1;obtain⟨t7,t8⟩:=K.head.1;refine bz Tryz.func36 Z λE fr hE=>bH<|sS<|sA Z<|sB Z<|bg Z ?_
 refine ch Z (pL hp ai) gfE4 ?_;rintro v m T;obtain⟨A',Y,d9,rfl,rfl⟩:∃A' Y,(∀nd∈fl.Lw,Small nd)/\v=.tuple #[.agg #[.int .i64 fl.deadline,.slice A' fl.Lw.length Y],.nilIface]/\m=[nodesOwn (.slice A' fl.Lw.length Y) fl.Lw,pb]:=by
  rcases T with⟨f',A',Y,I,d9,T,hm⟩|⟨e',a',b',I,_⟩
  · rw[hd] at I
    injection I with I;subst I;exact⟨A',Y,d9,T,hm⟩
  · rw[hd] at I
    cases I
 refine az<|sM Z<|bG Z Z<|bG Z Z<|sO (cX (z:=.agg #[.int .i64 0,.slice none 0 0]) Z λb6=>?_)
 refine sO<|aZ Z (m:=2) (vs:=[.int .i64 fl.deadline,.slice A' fl.Lw.length Y]) Z Z Z Z fx (by simp[Value.cells]) ?_
 refine aD b6 #[.int .i64 fl.deadline,.slice A' fl.Lw.length Y] rfl<|sB Z<|sQ<|aj<|bg Z<|sP (cS Z Z)<|sB Z<|ak Z<|sS<|dS 0 Z Z<|aE Z Z Z Z ?_
 refine bV Z DL (Ent.sel HasEng.sel) ?_;refine ae ?_;rw[show(S.runs.any (λr=>decide (0<r.2.ended))||decide (S.runs.length<6))=true from d7];refine sP (dp Z Z)<|sB Z<|ak Z<|ah<|am<|sT<|sQ<|sQ ?_
 refine al (l':=aG e p S::blk b6 25 #[.int .i64 fl.deadline,.slice A' fl.Lw.length Y]::nodesOwn (.slice A' fl.Lw.length Y) fl.Lw::pb::dT f e j::aM j d J::ar d σ::fr) aN ?_;refine sZ Z<|eI Z Z<|dv 1 Z Z Z<|bZ Z (aF Z) (ag Z)<|dr 5 Z (bn Z)<|cK 4 Z (eE Z Z Z Z Z Z λO=>(dK [true] (aa (ag Z) ab) ?_))
 refine cK 6 Z (dB (m:=2) (z:=.slice none 0 0) (size:=1) (ps:=[(0,.tmp 30),(1,.tmp 31)]) (vs:=[.slice (some ⟨O,0,none⟩) 1 1,.slice A bs.length c]) (cs:=#[.slice (some ⟨O,0,none⟩) 1 1,.slice A bs.length c]) Z Z Z Z ai ai Z (Hq _ _ Z Z _ Z) λt6=>?_);refine dK [true] (aa (ag Z) ab) ?_;refine dR 7 rfl rfl<|rI rfl rfl rfl hE (zC (A1:=some ⟨O,0,none⟩) (bs1:=[1]) (p1:=bP (.slice (some ⟨O,0,none⟩) 1 1) [1]) 1 c (Reads.row (c:=1) λ_=>⟨O,rfl⟩) (λh=>by cases h) hp hA (by simp;omega) (by simp;omega)) ((Ent.cons ((vv (b:=O) (bs:=[1]) (by unfold maxLen;simp)).trans (Ent.cons gfE3)))) ?_
 rintro v m rfl;refine cD<|aI .head ?_
 rintro wf mt rfl f1 f2 - - -
 obtain⟨d6,f7⟩:=jL f1 f2;refine dK [true] (aa (ag Z) ab) ?_;refine cK 8 Z<|cF Z (ym mt hJ d6 f7 (by simp;omega) hr) ((dd Dd Dd .head)) ?_
 rintro v m ⟨T,rfl⟩;refine cD ?_;rw[show([1]++bs:List UInt8)=1::bs from rfl] at T ⊢
 generalize hω:J.add σ (dN (FK.frame (1::bs)))=ω at T ⊢
 refine dK [false] ab<|dr 9 Z (aQ Z)<|dE<|sT<|sQ ?_
 by_cases HE:ω.2.2=0
 ·
  replace T:=T.trans (if_pos HE);subst T;refine sG<|cG Z (cS Z Z)<|sN<|ak Z<|ah<|sT<|sQ<|sZ Z<|eI Z Z<|dv 0 Z Z Z<|bZ Z (aF Z) (ag Z)<|bZ Z (bR (vs:=[.int .i64 fl.deadline,.slice A' fl.Lw.length Y]) Z) (aR Z) ?_
  refine cK 5 Z<|cF Z (qm (nv:=.slice A' fl.Lw.length Y) h1 ai K.after ai ai h.now (by have:=h.queueLe;omega) (by have:=h.tmsLe;omega) d8 (λr hr=>(h.low r.1 (List.mem_map_of_mem (f:=(·.1)) hr)).2) f9) (aY HasEng.sel De) ?_
  rintro v m ⟨S0,p',f8,rfl,rfl⟩;refine ae<|dK [false,false] ab<|dr 6 Z (aQ Z)<|bF Z (aQ Z)<|dE<|sT<|an ?_
  refine db (dg f e j d p' (S0.submit fl) ω.1 ω.2.1++[pb]) Z Z Z (by unfold mw;rw[hω];exact .inl ⟨HE,S0,p',f8,rfl,rfl⟩) ?_;show Ent _ (dT f e j::aG e p' _::aM j d ω.1::ar d ω.2.1::pb::fr);exact ap
 ·
  replace T:=T.trans (if_neg HE);subst T;refine sG<|cG Z (fj Z Z)<|sN<|aO Z<|bg Z<|sA Z<|sB Z<|an<|aH ?_
  refine db (dg f e j d p S ω.1 ω.2.1++[pb]) Z Z Z (by unfold mw;rw[hω];exact .inr ⟨HE,by unfold dO;rw[if_neg HE];rfl,rfl⟩) ?_;show Ent _ (dT f e j::aG e p _::aM j d ω.1::ar d ω.2.1::pb::fr);exact ap
end Go.Y

namespace FK
inductive Redo:En->List UInt8->En->Prop
 | submit {S S0:En} {bs:List UInt8} {fl:Flow} (hd:uq bs=.ok fl) (hf:Fit fl) (hl:bs.length<=1000000000) (hc:Cut S S0) (hu:∀S1,Cut S S1->S1=S0):Redo S (1::bs) (S0.submit fl)
 | poll {S:En} {id k:Nat} {q:List Pl} {R:Rn} {s:Sp} {nd:Node} (hq:S.Lx=⟨id,(k:Int),0⟩::q) (hR:S.getR id=some R) (hs:R.Lv[k]?=some s) (hn:R.fl.Lw[k]?=some nd):Redo S (bW 2 0) (S.hand ⟨id,(k:Int),0⟩ q R s nd)
 | beat {S:En} {t id k:Nat} {wh:Int} {R:Rn} {nd:Node} (hlt:t<18446744073709551616) (ht:(S.Ly.find? (·.1==t)).map (·.2)=some ⟨id,(k:Int),wh⟩) (hR:S.getR id=some R) (hn:R.fl.Lw[k]?=some nd):Redo S (bW 3 t) (S.life ⟨id,(k:Int),wh⟩ nd)
 | complete {S:En} {t:Nat} {P:Pl} (hlt:t<18446744073709551616) (ht:(S.Ly.find? (·.1==t)).map (·.2)=some P):Redo S (bW 4 t) (S.complete t)
 | fail {S:En} {t:Nat} {P:Pl} (hlt:t<18446744073709551616) (ht:(S.Ly.find? (·.1==t)).map (·.2)=some P):Redo S (bW 5 t) (S.fail t)
 | cancel {S:En} {id:Nat} {R:Rn} (hlt:id<18446744073709551616) (hR:S.getR id=some R):Redo S (bW 6 id) (S.finish id 4)
 | tick {S U:En} {n:Nat} (hlt:n<18446744073709551616) (ht:Ticks (S.later n) S U):Redo S (bW 7 n) U
 | seed {S:En} {n:Nat} (hlt:n<18446744073709551616):Redo S (bW 8 n) {S with seed:=n}
structure Fine (S:En):Prop where
 ok:Ok S
 sets:S.sets<=4611686018427387904
 ends:S.ends<=4611686018427387904
 tok:S.Ls<=4611686018427387904
 runs:S.Lt<=4611686018427387904
theorem BF {op n:Nat}:1<=(bW op n).length:=by unfold bW;simp
theorem qH {op n:Nat}:(bW op n).drop 1=co n:=rfl
end FK
namespace Go.Y
open Go.Proofs
open Go Go.RowKit Go.SL
section
variable {A:Option Addr} {jv:Value} {S:FK.En}
theorem iT {f e op n:Nat} {p:EA} {Q:FK.En->Prop} {pb:HP} {c:Nat} (h1:op≠1) (d6:op<256) (T:n<18446744073709551616) (K:Reads pb A (FK.bW op n)) (hc:(FK.bW op n).length<=c)
 (hD:eh 104 [aX f,.int .i64 op,aV n] [i7 f e jv,aG e p S] λv m=>v=.tuple #[]/\∃U,Q U/\m=[i7 f e jv,aG e p U]) :
 eh 57 [aX f,.slice A (FK.bW op n).length c] [i7 f e jv,aG e p S,pb] λv m=>v=.tuple #[]/\∃U,Q U/\m=[i7 f e jv,aG e p U,pb]:=by
 obtain⟨g,o,rfl⟩:=K.form (by unfold FK.bW;simp);have Y:=FK.BF (op:=op) (n:=n);have h8:(UInt8.ofNat op).toNat=op:=by simp;omega
 have d7:(FK.bW op n).length<=11:=by
  have:=gq (n:=n) T;unfold FK.bW;simp;omega
 have hT:eh 100 [Dj (some ⟨g,o,none⟩) (FK.bW op n).length c 1] [pb] λv m=>(∃w,v=.tuple #[aV n,w])/\m=[pb]:=by
  have h:=nC (G:=Good) (K.cut (k:=1) hc) (c:=c-1) (by rw[List.length_drop];omega) (by rw[List.length_drop];omega);rw[List.length_drop] at h;refine h.mono λv m ⟨hv,hm⟩=>⟨m,⟨?_,hm⟩,aN⟩;have O:=FK.pF T [];rw[List.append_nil] at O;rcases hv with⟨I,_⟩|⟨n',k,I,_,_,rfl⟩
  · rw[FK.qH,O] at I;cases I
  · rw[FK.qH,O] at I
    injection I with I;injection I with I _;subst I;exact⟨_,rfl⟩
 refine bz Tryz.func57 Z λE fr hE=>cD<|bg Z<|sP (bp (z:=1) (i:=0) Z Z Z Z ai) ?_
 refine cE (aF (v:=.int .u8 op) Z) (λw hw=>by have:=K.at dj Z (j:=0) (x:=UInt8.ofNat op) Z w hw;rw[h8] at this;simpa using this) ?_;refine sP (bJ (r:=(op:Int)) Z Z Z (iI ai))<|sB Z<|sQ<|bg Z<|sP (bC (r:=false) Z Z (by simp;omega))<|sN<|ak Z<|ah<|sT<|bg Z<|sP (eG (z:=1) (a:=1) (b:=(FK.bW op n).length) Z Z Z ⟨_,rfl⟩ rfl ai ai) ?_
 refine ch Z hT gfE2 ?_;rintro v m ⟨⟨w,rfl⟩,rfl⟩;refine ae<|sM Z<|bG Z Z<|bG Z Z<|sA Z<|sB Z<|sG<|sM Z<|sM Z<|sM Z ?_
 refine ch Z hD (aY bM bM) ?_;rintro v m ⟨rfl,U,hU,rfl⟩;exact az<|aq<|bm [i7 f e jv,aG e p U,pb] rfl ⟨rfl,U,hU,rfl⟩ aN
theorem AK {f e:Nat} {p:EA} {pb:HP} {c:Nat} {bs:List UInt8} {fl:FK.Flow} (h:FK.Fine S) (hp:Reads pb A (1::bs)) (hc:(1::bs).length<=c) (hl:bs.length<=1000000000) (hd:FK.uq bs=.ok fl) (K:FK.Fit fl) :
 eh 57 [aX f,.slice A (1::bs).length c] [i7 f e jv,aG e p S,pb] λv m=>v=.tuple #[]/\∃S0 T,FK.Cut S S0/\m=[i7 f e jv,aG e T (S0.submit fl),pb]:=by
 obtain⟨g,o,rfl⟩:=hp.form cP;have f7:=K.head.2.2;have h1:=K.head.2.1;obtain⟨d8,d9⟩:=K.head.1;have hs1:=h.sets;have f8:=h.runs;have d7:(1::bs).length=bs.length+1:=rfl;have hR:eh 63 [Dj (some ⟨g,o,none⟩) (1::bs).length c 1] [pb] λv m=>∃A' O,(∀nd∈fl.Lw,Small nd)/\v=.tuple #[.agg #[.int .i64 fl.deadline,.slice A' fl.Lw.length O],.nilIface]/\m=[nodesOwn (.slice A' fl.Lw.length O) fl.Lw,pb]:=by
  have h:=pL (c:=c-1) (hp.cut (k:=1) hc) (by rw[List.length_drop];omega);rw[List.length_drop] at h;refine h.mono λv m hv=>⟨m,?_,aN⟩;rcases hv with⟨f',A',O,I,Y,hv,hm⟩|⟨e',a',b',I,_⟩
  · have I:FK.uq bs=.ok f':=I
    rw[hd] at I;injection I with I;subst I;exact⟨A',O,Y,hv,hm⟩
  · have I:FK.uq bs=.error _:=I
    rw[hd] at I;cases I
 refine bz Tryz.func57 Z λE fr hE=>cD<|bg Z<|sP (bp (z:=1) (i:=0) Z Z Z Z ai) ?_
 refine cE (aF (v:=.int .u8 1) Z) (λw hw=>by have:=hp.at dj Z (j:=0) (x:=1) Z w hw;simpa using this) ?_;refine sP (bJ (r:=1) Z Z Z di)<|sB Z<|sQ<|bg Z<|sP (bC (r:=true) Z Z Z)<|sN<|aO Z<|bg Z<|sP (eG (z:=1) (a:=1) (b:=(1::bs).length) Z Z Z ⟨_,rfl⟩ rfl ai ai) ?_
 refine ch Z hR gfE2 ?_;rintro v m ⟨A',O,Y,rfl,rfl⟩;refine az<|sM Z<|bG Z Z<|bG Z Z<|sO (cX (z:=.agg #[.int .i64 0,.slice none 0 0]) Z λb5=>?_)
 refine sO<|aZ Z (m:=2) (vs:=[.int .i64 fl.deadline,.slice A' fl.Lw.length O]) Z Z Z Z fx (by simp[Value.cells]) ?_
 refine aD b5 #[.int .i64 fl.deadline,.slice A' fl.Lw.length O] rfl<|sA Z ?_
 refine al (l':=aG e p S::nodesOwn (.slice A' fl.Lw.length O) fl.Lw::blk b5 25 #[.int .i64 fl.deadline,.slice A' fl.Lw.length O]::pb::i7 f e jv::fr) (by show Ent (blk b5 25 _::nodesOwn _ _::pb::i7 f e jv::aG e p S::fr) _;exact ap) ?_;refine sN<|sQ<|sZ Z<|eI Z Z<|dv 0 Z Z Z<|bZ Z (aF Z) (ag Z)<|bZ Z (bR (vs:=[.int .i64 fl.deadline,.slice A' fl.Lw.length O]) Z) (aR Z) ?_
 refine cK 5 Z<|cF Z (qm (nv:=.slice A' fl.Lw.length O) h1 ai K.after ai ai h.ok.now (by have:=h.ok.queueLe;omega) (by have:=h.ok.tmsLe;omega) ai (λr hr=>(h.ok.low r.1 (List.mem_map_of_mem (f:=(·.1)) hr)).2) ai) (aY .head .head) ?_
 rintro v m ⟨S0,T,d6,rfl,rfl⟩;refine ae<|dK [false,false] ab<|dE<|sT<|an<|aH<|bm [i7 f e jv,aG e T (S0.submit fl),pb] rfl ⟨rfl,S0,T,d6,rfl⟩ ?_
 show Ent _ (i7 f e jv::aG e T (S0.submit fl)::pb::fr);exact ap
end
end Go.Y

namespace FK
section
variable {S:En} {s:Sp} {R:Rn}
theorem dF (a:Nat) (l:List Nat) (r:List UInt8):cQ (a::l)++r=co a++(cQ l++r):=by
 unfold cQ;rw[List.flatMap_cons,List.append_assoc]
def qN (id:Nat) (l:List Sp) (j:Nat):List (Nat×Pl):=(List.range j).flatMap λi=>match l[i]? with
 | some s=>if s.state=3 then[(s.token,⟨id,(i:Int),0⟩)] else[]
 | none=>[]
def tW (l:List (Nat×Rn)):List (Nat×Pl):=l.flatMap λr=>qN r.1 r.2.Lv r.2.Lv.length
theorem uH {id j:Nat} {l:List Sp} (h:l[j]?=some s):qN id l (j+1)=qN id l j++if s.state=3 then[(s.token,⟨id,(j:Int),0⟩)] else[]:=by
 unfold qN;rw[List.range_succ,List.flatMap_append];simp[h]
theorem oN {id:Nat} {l:List Sp} {j:Nat} {x:Nat×Pl} (h:x∈qN id l j):∃(i:Nat) (s:Sp),i<j/\l[i]?=some s/\s.state=3/\x=(s.token,⟨id,(i:Int),0⟩):=by
 unfold qN at h;obtain⟨i,hi,I⟩:=List.mem_flatMap.1 h;rw[List.mem_range] at hi;cases hs:l[i]? with
 | none=>rw[hs] at I;cases I
 | some s=>
  rw[hs] at I;simp only at I
  split at I
  · rename_i h3
    exact⟨i,s,hi,hs,h3,by simpa using I⟩
  · cases I
theorem xy {l:List (Nat×Rn)} {x:Nat×Pl} (h:x∈tW l):∃r∈l,∃(i:Nat) (s:Sp),r.2.Lv[i]?=some s/\s.state=3/\x=(s.token,⟨r.1,(i:Int),0⟩):=by
 obtain⟨r,I,O⟩:=List.mem_flatMap.1 h;obtain⟨i,s,_,T,Y,h3⟩:=oN O;exact⟨r,I,i,s,T,Y,h3⟩
theorem Ok.ofTask (h:Ok S) {id i:Nat} (I:S.getR id=some R) (O:R.Lv[i]?=some s) (h3:s.state=3):(s.token,(⟨id,(i:Int),0⟩:Pl))∈S.Ly:=
 (h.Ly _ _).2 ⟨id,i,s,rfl,iy I O,h3,rfl⟩
theorem Ok.oneTask (h:Ok S) {t:Nat} {p q:Pl} (I:(t,p)∈S.Ly) (O:(t,q)∈S.Ly):p=q:=by
 have:(t,p)=(t,q):=Go.Y.pP h.tkeys I O rfl;injection this
def En.rdTo (S:En) (k:Nat):En:={S with runs:=S.runs.take k,Ly:=tW (S.runs.take k),Lx:=[],tms:=[],sets:=0}
def En.rdIn (S:En) (k id:Nat) (R:Rn) (j:Nat):En:={S.rdTo k with Ly:=tW (S.runs.take k)++qN id R.Lv j}
def En.rdQ (S:En) (k:Nat):En:={S.rdTo S.runs.length with Lx:=S.Lx.take k}
def En.rdT (S:En) (k:Nat):En:={S.rdTo S.runs.length with Lx:=S.Lx,tms:=S.tms.take k,sets:=k}
def En.rd (S:En):En:={S with Ly:=tW S.runs,sets:=S.tms.length}
theorem IX (S:En):S.rdT S.tms.length=S.rd:=by
 unfold En.rdT En.rd En.rdTo;simp
def lA (S:En) (k:Nat):List UInt8:=(S.tms.drop k).flatMap λx=>cQ (xf x)
def mG (S:En) (k:Nat):List UInt8:=((S.Lx.drop k).flatMap λp=>cQ (xh p))++(cQ [S.tms.length]++lA S 0)
def gF (R:Rn) (j:Nat):List UInt8:=(R.Lv.drop j).flatMap λs=>cQ (zK s)
def eo (S:En) (k:Nat):List UInt8:=kW (S.runs.drop k)++(cQ [S.Lx.length]++mG S 0)
theorem Lk (S:En):iX S=cQ (jS S)++eo S 0:=by
 unfold iX eo mG lA;simp
theorem nQ {α:Type} {l:List α} {k:Nat} {x:α} (h:l[k]?=some x):l.drop k=x::l.drop (k+1):=by
 obtain⟨I,O⟩:=gfGet.1 h;rw[List.drop_eq_getElem_cons I,O]
theorem Au {k id:Nat} (h:S.runs[k]?=some (id,R)):eo S k=cQ [id,R.state.toNat,R.ended,(bo R.fl).length]++(bo R.fl++(gF R 0++eo S (k+1))):=by
 unfold eo gF;rw[nQ h];simp[kW,Kj]
theorem As {j:Nat} (h:R.Lv[j]?=some s) (r:List UInt8):gF R j++r=cQ (zK s)++(gF R (j+1)++r):=by
 unfold gF;rw[nQ h];simp
theorem Av {k:Nat} {p:Pl} (h:S.Lx[k]?=some p):mG S k=cQ (xh p)++mG S (k+1):=by
 unfold mG;rw[nQ h];simp
theorem Ap {k:Nat} {x:KD} (h:S.tms[k]?=some x):lA S k=cQ (xf x)++lA S (k+1):=by
 unfold lA;rw[nQ h];simp
theorem Dw (S:En):eo S S.runs.length=cQ [S.Lx.length]++mG S 0:=by
 unfold eo;simp[kW]
theorem Dx (S:En):mG S S.Lx.length=cQ [S.tms.length]++lA S 0:=by
 unfold mG;simp
end
end FK
namespace Go.Y
open Go.Proofs
open Go Go.RowKit Go.SL
variable {G:Env->Prop}
def gS (b:Nat) (pb:HP) (r:List UInt8):HP:=HP.ex λx:Option Addr×Nat=>HP.all [HP.pure (Reads pb x.1 r/\r.length<=x.2/\r.length<=1000000000),blk b 61 #[.slice x.1 r.length x.2]]
theorem mF {b:Nat} {pb:HP} {r:List UInt8} {A:Option Addr} {c:Nat} {l:List HP} (h:Reads pb A r) (hc:r.length<=c) (I:r.length<=1000000000):Ent (blk b 61 #[.slice A r.length c]::l) (gS b pb r::l):=
 (Ent.pure (show Reads pb A r/\r.length<=c/\r.length<=1000000000 from⟨h,hc,I⟩)).trans ((Ent.all (m:=[HP.pure (Reads pb A r/\r.length<=c/\r.length<=1000000000),blk b 61 #[.slice A r.length c]])).trans (Ent.ex (f:=λx:Option Addr×Nat=>HP.all [HP.pure (Reads pb x.1 r/\r.length<=x.2/\r.length<=1000000000),blk b 61 #[.slice x.1 r.length x.2]]) (A,c)))
theorem n5 {E:Env} {n:Nat} {D:List Deferred} {ts:List (Nat×Value)} {b:Nat} {pb:HP} {bs:List UInt8} {l:List HP} {K:Act->World->Prop} (h:∀A c,Reads pb A bs->bs.length<=c->bs.length<=1000000000->At E n D ts (blk b 61 #[.slice A bs.length c]::l) K):At E n D ts (gS b pb bs::l) K:=by
 refine cN .head λx=>bl ?_;refine al (l':=HP.pure (Reads pb x.1 bs/\bs.length<=x.2/\bs.length<=1000000000)::blk b 61 #[.slice x.1 bs.length x.2]::l) aN ?_;exact ec .head λI=>h _ _ I.1 I.2.1 I.2.2
abbrev B0 (b:Nat):Value:=.func (.func 99) #[] #[aX b]
theorem cZ {b m:Nat} {r:List UInt8} {pb:HP} (hm:m<18446744073709551616):dZ G 99 [aX b] [gS b pb (FK.co m++r),pb] λv l=>v=aV m/\l=[gS b pb r,pb]:=by
 refine bz Tryz.func99 Z λE fr hE=>az (n5 λA c hp hc hb=>?_);have d8:r.length<=1000000000:=by rw[List.length_append] at hb;omega
 refine sS<|sB Z<|sS<|aE Z Z Z Z ?_
 refine ch Z (nC hp hc ai) gfE1 ?_;rintro v m ⟨hv,rfl⟩;refine ae ?_;obtain⟨A',Y,rfl,d6,d7⟩:∃A' Y,v=.tuple #[aV m,.slice A' r.length Y]/\Reads pb A' r/\r.length<=Y:=by
  have O:=FK.pF hm r;rcases hv with⟨h,_⟩|⟨n,k,h,hk,hn,rfl⟩
  · rw[h] at O;cases O
  · rw[h] at O
    injection O with O;injection O with e1 e2;subst e1;have T:r.length=(FK.co n++r).length-k:=by rw[<-List.length_drop,e2]
    have I:=hp.cut (k:=k) hc;rw[e2] at I;exact⟨_,c-k,by rw[T],I,ai⟩
 refine sM Z<|bG Z Z<|bG Z Z<|sA Z ?_
 refine bK Z Z Z Z ii ?_;exact aD b #[.slice A' r.length Y] rfl<|sN<|bg Z<|sB Z<|an<|aw [gS b pb r,pb] rfl Z ⟨rfl,rfl⟩<|mF d6 d7 d8
section
variable {P:Program} {E:Env} {n:Nat} {D:List Deferred} {ts:List (Nat×Value)} {l r:List HP} {Q:Exit->Act->World->Prop} {i:Nat} {ty:TypeId} {pos:String} {af:Array Edge} {g:Option (Nat×Bool)} {K:Act->World->Prop}
theorem D3 {t e:TypeId} {size:Nat} (hi:Nat.blt i n=true) (I:P.underlying t=some (.slice e)) (O:dm P e size)
 (h:∀b,At E n D ((i,.slice (some ⟨b,0,none⟩) 0 0)::ts) (blk b e #[]::l) K):At E n D ts l (λa w=>(Oper.mk (some i) (.buildSlice t 0 #[]) ty pos af g).wp P a w K Q):=λa w f hw=>by
 have T:(execOp a.eval (Oper.mk (some i) (.buildSlice t 0 #[]) ty pos af g)).run P w=.ok (.value (.slice (some ⟨w.heap.size,0,none⟩) 0 0)) (w.alloc (.cells #[] e)):=by
  simp[execOp,Instr.buildSlice,Sem.run_bind,run_underlying I,Result.andThen_ok,cY O,Instr.fill,newRow]
  congr 2
  exact Array.eq_empty_of_size_eq_zero cP
 show(Oper.mk (some i) (.buildSlice t 0 #[]) ty pos af g).wp P a w K Q;unfold Oper.wp;rw[T];exact h _ _ _ (f.put i (Nat.le_of_ble_eq_true hi) _)<|hw.alloc _
theorem AS {e w m:Nat} {p:EA} {S:FK.En} {t:TypeId} {x y:Operand} (H:Sel (aG e p S) l (cb w (xg m)::r)) (I:m<=4611686018427387904) (O:dm P t 1) (T:ev ts x=some (.pointer (some ⟨e,6,none⟩))) (Y:ev ts y=some (aX w))
 (h:At E n D ts (aG e {p with w:=w} {S with now:=m,sets:=0,tms:=[]}::r) K):At E n D ts l (λa w=>(Oper.mk none (.store t x y) ty pos af g).wp P a w K Q):=by
 refine al (Ent.sel H)<|bl ?_
 refine xH (h:=⟨.tail .head⟩) (e:=e) (i:=6) (C:=ja S p) (C':=ja S {p with w:=w}) O T Y Z ai (λ_ _ _=>rfl) ?_;refine al ?_ h;refine Ent.trans ?_<|Ent.all (m:=j0 e {p with w:=w} {S with now:=m,sets:=0,tms:=[]})
 have hw:∀q:List HP,Ent (cb w (xg m)::q) (dx w m 0 []::q):=λq=>(Ent.pure (⟨rfl,cm _,inv0 I,rfl⟩:WOk m 0 [] (xg m))).trans ((Ent.all (m:=[HP.pure (WOk m 0 [] (xg m)),cb w (xg m)])).trans (Ent.ex (f:=λW:FK.WS=>HP.all [HP.pure (WOk m 0 [] W),cb w W]) (xg m)));show Ent (dV e (ja S {p with w:=w}) S.Lx::HP.pure (ep S)::cA aV p.rm (eV S p)::fw p S.runs::cA aV p.tm (dH S)::dx p.w S.now S.sets S.tms::cb w (xg m)::r) (HP.pure (ep S)::dV e (ja S {p with w:=w}) S.Lx::cA aV p.rm (eV S p)::fw p S.runs::cA aV p.tm (dH S)::dx w m 0 []::r);refine Ent.trans ?_<|Ent.cons<|Ent.cons<|Ent.cons<|Ent.cons<|Ent.cons<|hw r
 exact gfE1.trans<|Ent.cons<|Ent.cons<|Ent.cons<|Ent.cons<|Ent.cons Ent.drop
end
theorem BN {pb:HP} {A:Option Addr} {c:Nat} {bs:List UInt8} (O:Reads pb A bs) (T:0<bs.length) (hl:bs.length<=1000000000):dZ G 101 [.slice A bs.length c] [pb] λv m=>m=[bP v bs,pb]:=by
 obtain⟨g,o,rfl⟩:=O.form (by intro h;rw[h] at T;simp at T);refine bz Tryz.func101 Z λE fr hE=>ae<|sS<|sB Z<|sQ<|bg Z<|sP (kR Z Z Z)<|sN<|ak Z<|ah<|sT<|sS<|sO (D3 Z Z Z λY=>?_)
 refine al (l':=bP (.slice (some ⟨Y,0,none⟩) 0 0) []::pb::fr) (dI (cm _) (Nat.zero_le _) Z Z) ?_;refine sM Z ?_;refine eu rfl (cU rfl rfl jh rfl ai rfl rfl (HasVal.sel (v:=.slice (some ⟨Y,0,none⟩) 0 0)) (news:=cw bs) (by rw[iG,Nat.mul_one]) (λh=>by cases h) (Reads.src O bM) (by intro u hu;obtain⟨x,_,rfl⟩:=List.mem_map.1 hu;rfl) (by unfold maxLen;simp;omega) (by simp;omega) λI d6=>?_);refine sB Z<|an<|aw [bP I bs,pb] rfl Z Z ?_
 show Ent (row 5 1 I (([]:List UInt8).length+bs.length) (cw []++cw bs)::pb::fr) (row 5 1 I bs.length (cw bs)::pb::fr);rw[List.length_nil,Nat.zero_add];exact aN
end Go.Y
