/- The engine's Tick, walked. -/
import Derived.Test.YtkckgjpkkbkkgaaGreatDoorCoG
import Derived.Test.YtkckgjpkkbkkgaaGreatDoorCoF
import Derived.Test.YtkckgjpkkbkkgaaGreatDoorCoE
import Derived.Test.YtkckgjpkkbkkgaaGreatDoorCoD
import Derived.Test.YtkckgjpkkbkkgaaGreatDoorCoA
import Derived.Shelf.Small.Bits
import Derived.Shelf.Strconv.Atoi
import Derived.Shelf.Strconv.Itoa0
import Derived.Shelf.Strconv.Itoa1
import Derived.Shelf.LaysM
import Derived.Shelf.Strconv.Itoa2
import Derived.Shelf.Strconv.Itoa3
import Derived.Shelf.Sort.Plain
import Derived.Shelf.Strings.Prefix
import Derived.Shelf.Slices.In.SortNone
import Derived.Shelf.Slices.In.SortNone2
import Derived.Test.YtkckgjpkkbkkgaaGreatDoorChecked
import Derived.Sort.OwnSorted
import Derived.Test.YtkckgjpkkbkkgaaGreatDoorCoB
set_option maxHeartbeats 4000000
set_option maxRecDepth 20000
namespace FK
end FK
namespace Go.Y
open Go.Proofs
open Go Go.RowKit Go.SL
theorem Cg {e:Nat} {p:EA} {S:FK.En} (h:FK.Ok S) {n:Nat} (hn:n<18446744073709551616) (LB:S.sets<=4611686018427387904) (LC:S.ends<=4611686018427387904):eh 146 [aX e,aV n] [aG e p S] λv m=>v=.tuple #[]/\∃U,FK.Ticks (S.later n) S U/\m=[aG e p U]:=by
 have LG:=h.massLe;have LL:=h.now;obtain⟨up,t8⟩:∃up,up=S.later n:=⟨_,rfl⟩;have Fd:up=min (S.now+n) 4611686018427387904:=t8;rw[<-t8];obtain⟨q,hq⟩:∃q,q=(S.now+n)%18446744073709551616:=⟨_,rfl⟩;refine bz Tryz.func146 Z λE fr hE=>ae<|sS<|dS 6 Z Z ?_
 refine cE (aF Z) (bc λ_ _ _=>rfl) ?_;refine bV Z rc aN ?_;refine ae<|sB Z<|bg Z<|cG Z (aT (r:=(q:Int)) Z Z (by rw[mM];omega))<|sB Z ?_
 refine sQ<|cT (X:=Nat) (λy=>[(5,.int .u64 y),(0,aX e)]) (λ_=>aG e p S::fr) (λy=>min y 4611686018427387904=up) ?_ ?_
 ·
  refine bg Z<|cG Z (bB Z Z Z)<|sN ?_
  refine aA Z (λLD=>?_) λLD=>?_
  ·
   refine sG<|sA Z<|aq ?_
   exact bd 4611686018427387904 ai cf aN
  ·
   refine ah ?_;exact bd q (by rw[Fd];omega) cf aN
 intro y hy;refine bg Z<|sP (FV (r:=(up:Int)) Z Z ai)<|sB Z<|aj ?_
 refine aL (X:=FK.En) (λ_=>[(5,.int .u64 up),(0,aX e)]) (λT=>aG e p T::fr) (λT=>FK.Ok T/\T.now<=up/\T.sets+T.mass<=S.sets+S.mass/\T.ends+T.mass<=S.ends+S.mass/\∀U,FK.Ticks up T U->FK.Ticks up S U) (λT=>T.mass) S ⟨h,ai,cm _,cm _,λ_ h=>h⟩ cf aN ?_;rintro T ⟨hT,mt,LN,LO,BT⟩;replace mt:T.now<=up:=mt;refine aj<|sQ ?_
 by_cases HD:∀y∈T.tms,up<y.2
 ·
  refine sG<|dS 6 Z Z ?_
  refine cE (aF Z) (bc λ_ _ _=>rfl) ?_;refine sM Z ?_;refine ch Z (Cn up mt ai ai (by have:=hT.tmsLe;omega)) aN ?_;rintro v m hP;obtain⟨rfl,rfl⟩:v=.tuple #[iW ⟨0,0,0⟩,.int .u64 0,.bool false]/\m=[aG e p {T with now:=up}]:=by
   rcases hP with⟨x,tms',hm,t7,_,_⟩|⟨_,K,h2⟩
   · have:=HD x hm.mem;omega
   · exact⟨K,h2⟩
  refine ae<|sM Z<|bG Z Z<|bG Z Z<|bG Z Z<|sO (cX (z:=.agg #[.int .u64 0,.int .i64 0,.int .i64 0]) Z λb6=>?_)
  refine sO<|aZ (vs:=iq ⟨0,0,0⟩) Z (m:=3) Z Z Z Z fx (by show 0+3<=3;omega) ?_
  exact sA Z<|sB Z<|aj<|bg Z<|sP (dp Z Z)<|sB Z<|aO Z<|an<|aJ<|aJ<|cu<|aJ<|bm [_] rfl ⟨rfl,_,BT _ (.done HD),rfl⟩ Ent.drop
 ·
  refine sG<|dS 6 Z Z ?_
  refine cE (aF Z) (bc λ_ _ _=>rfl) ?_;refine sM Z ?_;refine ch Z (Cn up mt ai ai (by have:=hT.tmsLe;omega)) aN ?_;rintro v m hP;obtain⟨x,tms',hm,t7,rfl,rfl⟩:∃(x:FK.KD) (tms':List FK.KD),FK.IsMin T.tms x tms'/\x.2<=up/\v=.tuple #[iW x.1,.int .u64 x.2,.bool true]/\m=[aG e p {T with now:=x.2,tms:=tms'}]:=by
   rcases hP with h|⟨K,_⟩
   · exact h
   · exact absurd K HD
  refine ae<|sM Z<|bG Z Z<|bG Z Z<|bG Z Z<|sO (cX (z:=.agg #[.int .u64 0,.int .i64 0,.int .i64 0]) Z λb6=>?_)
  refine sO<|aZ (vs:=iq x.1) Z (m:=3) Z Z Z Z fx (by show 0+3<=3;omega) ?_
  refine sA Z<|sB Z<|aj<|sQ<|aD b6 (iq x.1).toArray Z ?_
  obtain⟨d9,LF,R,hR,f9⟩:=hT.pop hm;obtain⟨W,hW⟩:∃W:FK.En,W={T with now:=x.2,tms:=tms'}:=⟨_,rfl⟩;have LP:W.mass=T.mass:=by rw[hW];rfl
  have LQ:W.sets=T.sets:=by rw[hW]
  have LR:W.ends=T.ends:=by rw[hW]
  have I:W.getR x.1.run=some R:=by rw[hW];exact hR
  have In:∀y∈W.tms,y.1≠x.1:=by rw[hW];exact LF
  rw[<-hW] at d9 ⊢;have Y:=d9.due_less I f9;have d8:=d9.due I f9 In;have d6:∀U,FK.Ticks up (W.due x.1) U->FK.Ticks up S U:=λU hU=>BT U (.step hm t7 (hW▸hU));have LH:=Y.mass;have LJ:=Y.sets;have LK:=Y.ends;have d7:(W.due x.1).now<=up:=by rw[Y.now,hW];exact t7
  refine sG<|cG Z (dp Z Z)<|sB Z<|ak Z<|sS<|bX 2 Z<|aE Z Z Z Z<|sP (bC Z Z Z)<|sB Z ?_
  refine aA Z (λO=>?_) λO=>?_
  ·
   obtain⟨LM,f7⟩:x.1=⟨x.1.run,-1,0⟩/\W.due x.1=W.finish x.1.run 5:=by
    rcases FK.lU I f9 with h|⟨k,s,hs,⟨K,_,_⟩|⟨K,_,_⟩⟩
    · exact h
    · rw[K] at O;exact absurd (show(1:Int)=0 from O) di
    · rcases K with K|K
      · rw[K] at O;exact absurd (show(1:Int)=0 from O) di
      · rw[K] at O;exact absurd (show(2:Int)=0 from O) di
   refine sG<|sM Z<|bX 0 Z<|aE Z Z Z Z ?_
   refine bV Z (Er d9 5 I ai) gfE1 ?_;refine ae<|aq<|am<|am ?_
   exact aC (W.due x.1) ⟨d8,d7,ai,ai,d6⟩ ai cf (by rw[f7];exact Ent.cons Ent.drop)
  ·
   obtain⟨k,s,hs,wf,f7⟩:∃(k:Nat) (s:FK.Sp),R.Lv[k]?=some s/\x.1.node=(k:Int)/\((s.state=4/\W.due x.1=W.ready x.1.run k)\/(s.state=3/\W.due x.1=W.failed x.1.run k)):=by
    rcases FK.lU I f9 with⟨K,_⟩|⟨k,s,hs,⟨K,h2,h3⟩|⟨K,h2,h3⟩⟩
    · rw[K] at O;exact absurd rfl O
    · exact⟨k,s,hs,by rw[K],.inl ⟨h2,h3⟩⟩
    · exact⟨k,s,hs,by rcases K with K|K<;>rw[K],.inr ⟨h2,h3⟩⟩
   obtain⟨⟨id,nd,wh⟩,at_⟩:=x;simp only at wf I f7 LH LJ LK d7 d8 d6;subst wf;refine sQ<|sZ Z<|eI Z Z<|dv 1 Z Z Z ?_
   refine iJ 3 Z (aF Z) (bc λ_ _ _=>rfl) ?_;refine dr 4 Z (bL 0 Z)<|bZ Z (aF Z) (ag Z)<|bZ Z (gO (a:=id) (v:=aX (p.fb id)) Z fy Z Z (gV I)) eH<|bF Z (bL 1 Z)<|bZ Z (aF Z) (ag Z)<|tV Z (eE Z Z Z Z Z Z λLE=>?_)
   refine dK [true,true,true,true] (aa (ag Z) (aa eH (aa (ag Z) (aa (bc λ_ _ _=>rfl) ab)))) ?_;refine cK 10 Z<|cF Z (rh [4] (some ⟨LE,0,none⟩) 1 I hs) ((aY dj .head).trans (Ent.cons (hZ (xs:=[4]) (show 1<=9223372036854775807 by omega)))) ?_
   rintro v m ⟨rfl,rfl⟩;refine ae ?_;refine dK [false,false,true,true] (aa (ag Z) (aa (bc λ_ _ _=>rfl) ab)) ?_;refine dr 11 Z (aQ Z)<|dE<|sT ?_
   refine aA Z (λt6=>?_) λt6=>?_
   ·
    have h4:s.state=4:=by simpa using t6
    have f8:W.due ⟨id,(k:Int),wh⟩=W.ready id k:=by rcases f7 with h|h;exact h.2;omega
    refine sG<|sM Z<|cE (bR (vs:=iq ⟨id,(k:Int),wh⟩) Z) (aR Z) ?_
    refine bV Z (tx (wh:=wh) I hs (by have:=d9.queueLe;omega)) aN ?_;refine ae<|aq<|am<|am ?_
    exact aC (W.due ⟨id,(k:Int),wh⟩) ⟨d8,d7,ai,ai,d6⟩ ai cf (by rw[f8];exact Ent.cons Ent.drop)
   ·
    have h4:¬s.state=4:=by simpa using t6
    have f8:W.due ⟨id,(k:Int),wh⟩=W.failed id k:=by rcases f7 with h|h;omega;exact h.2
    refine sG<|sM Z<|cE (bR (vs:=iq ⟨id,(k:Int),wh⟩) Z) (aR Z) ?_
    refine bV Z (xZ d9 (wh:=wh) I hs ai ai) aN ?_;refine ae<|aq<|am<|am ?_
    exact aC (W.due ⟨id,(k:Int),wh⟩) ⟨d8,d7,ai,ai,d6⟩ ai cf (by rw[f8];exact Ent.cons Ent.drop)
end Go.Y

namespace FK
def bW (op n:Nat):List UInt8:=UInt8.ofNat op::co n
end FK
namespace Go.Y
open Go.Proofs
open Go Go.RowKit Go.SL
abbrev i7 (f e:Nat) (jv:Value):HP:=blk f 104 #[aX e,jv]
abbrev dT (f e j:Nat):HP:=i7 f e (aX j)
section
variable {Q:FK.En->Prop} {S:FK.En} {e f n:Nat} {jv:Value} {p:EA} {bs:List UInt8} {σ:FK.Dsk} {J:FK.Jn}
theorem vv {b:Nat} {r:List HP} (h:bs.length<=maxLen):Ent (blk b 5 (cw bs).toArray::r) (bP (.slice (some ⟨b,0,none⟩) bs.length bs.length) bs::r):=
 dI (cm _) h (by simp[cw]) (by rw[List.take_of_length_le (by simp[cw])])
theorem jL {A:Option Addr} {c:Nat} (K:A=none->bs.length=0/\c=0) (O:∀E,A=some E->∃g,E=⟨g,0,none⟩):Reads (bP (.slice A bs.length c) bs) A bs/\(A=none->bs=[]):=by
 refine⟨Reads.row λI=>?_,λh=>List.eq_nil_of_length_eq_zero (K h).1⟩;have T:=List.length_pos_iff.2 I;cases A with
 | none=>have:=(K rfl).1;omega
 | some E=>obtain⟨g,rfl⟩:=O E rfl;exact⟨g,rfl⟩
theorem uY {j d:Nat} {op:Nat} (_hop:op<256) (T:n<18446744073709551616) (Y:J.n<1000000) (hr:Roomy σ):eh 70 [aX f,.int .i64 op,aV n] [dT f e j,aM j d J,ar d σ] λv m=>v=dO (J.add σ (dN (FK.frame (FK.bW op n)))).2.2/\m=[dT f e j,aM j d (J.add σ (dN (FK.frame (FK.bW op n)))).1,ar d (J.add σ (dN (FK.frame (FK.bW op n)))).2.1]:=by
 have d6:(FK.bW op n).length<=11:=by
  have:=gq (n:=n) T;unfold FK.bW;simp;omega
 refine bz Tryz.func70 Z λE fr hE=>cD<|sS<|sB Z<|sQ<|sZ Z<|eI Z Z<|dv 1 Z Z Z<|bZ Z (aF Z) (ag Z)<|cJ Z Z<|bF Z (bJ (r:=((UInt8.ofNat op).toNat:Int)) Z Z Z (jw op))<|dr 7 Z (bn Z)<|cK 6 Z (eE Z Z Z Z Z Z λO=>(dK [true] (aa (ag Z) ab) ?_))
 refine cK 8 Z<|cF Z (gk (.slice (some ⟨O,0,none⟩) 1 1) [UInt8.ofNat op] n T cP) (vv (bs:=[UInt8.ofNat op]) (by unfold maxLen;simp)) ?_
 rintro v m rfl;refine ae ?_;refine al (l':=bP v (FK.bW op n)::dT f e j::aM j d J::ar d σ::fr) aN ?_;refine aI .head ?_;rintro A c rfl f1 f2 - - -
 obtain⟨I,K⟩:=jL f1 f2;refine dK [true] (aa (ag Z) ab) ?_;refine cK 9 Z<|cF Z (ym c Y I K ai hr) (dd dj dj .head) ?_
 rintro v m ⟨hv,rfl⟩;refine cD<|dK [false] ab<|dr 10 Z (aQ Z)<|dE<|sT<|an ?_
 exact aw [dT f e j,aM j d (J.add σ (dN (FK.frame (FK.bW op n)))).1,ar d (J.add σ (dN (FK.frame (FK.bW op n)))).2.1] rfl Z ⟨hv,rfl⟩ (by show Ent (aM j d _::ar d _::_::dT f e j::fr) _;exact gfE3.trans (Ent.cons (Ent.cons (Ent.cons Ent.drop))))
theorem H4 (I:eh 71 [aX e] [aG e p S] λv m=>(∃u,v=u)/\∃U,Q U/\m=[aG e p U]):eh 104 [aX f,.int .i64 2,aV n] [i7 f e jv,aG e p S] λv m=>v=.tuple #[]/\∃U,Q U/\m=[i7 f e jv,aG e p U]:=by
 refine bz Tryz.func104 Z λE fr O=>az<|bg Z<|sN<|aj<|sS<|sP (bC Z Z Z)<|sB Z<|aO Z<|sG<|dS 0 Z Z<|aE Z Z Z Z ?_
 refine ch Z I gfE1 ?_;rintro v m ⟨-,U,K,rfl⟩;exact ae<|aq<|am<|bm [i7 f e jv,aG e p U] rfl ⟨rfl,U,K,rfl⟩ gfE1
theorem yf (I:eh 142 [aX e,aV n] [aG e p S] λv m=>(v=.tuple #[])/\∃U,Q U/\m=[aG e p U]):eh 104 [aX f,.int .i64 3,aV n] [i7 f e jv,aG e p S] λv m=>v=.tuple #[]/\∃U,Q U/\m=[i7 f e jv,aG e p U]:=by
 refine bz Tryz.func104 Z λE fr O=>az<|bg Z<|sN<|aj<|sS<|sP (bC Z Z Z)<|sB Z<|ak Z<|sS<|sP (bC Z Z Z)<|sB Z ?_
 refine aO Z<|sG<|dS 0 Z Z<|aE Z Z Z Z<|sM Z ?_
 refine ch Z I gfE1 ?_;rintro v m ⟨-,U,K,rfl⟩;exact ae<|aq<|am<|bm [i7 f e jv,aG e p U] rfl ⟨rfl,U,K,rfl⟩ gfE1
theorem ye (I:eh 143 [aX e,aV n] [aG e p S] λv m=>(v=.tuple #[])/\∃U,Q U/\m=[aG e p U]):eh 104 [aX f,.int .i64 4,aV n] [i7 f e jv,aG e p S] λv m=>v=.tuple #[]/\∃U,Q U/\m=[i7 f e jv,aG e p U]:=by
 refine bz Tryz.func104 Z λE fr O=>az<|bg Z<|sN<|aj<|sS<|sP (bC Z Z Z)<|sB Z<|ak Z<|sS<|sP (bC Z Z Z)<|sB Z ?_
 refine ak Z<|sS<|sP (bC Z Z Z)<|sB Z<|aO Z<|sG<|dS 0 Z Z<|aE Z Z Z Z<|sM Z ?_
 refine ch Z I gfE1 ?_;rintro v m ⟨-,U,K,rfl⟩;exact ae<|aq<|am<|bm [i7 f e jv,aG e p U] rfl ⟨rfl,U,K,rfl⟩ gfE1
theorem yd (I:eh 144 [aX e,aV n] [aG e p S] λv m=>(v=.tuple #[])/\∃U,Q U/\m=[aG e p U]):eh 104 [aX f,.int .i64 5,aV n] [i7 f e jv,aG e p S] λv m=>v=.tuple #[]/\∃U,Q U/\m=[i7 f e jv,aG e p U]:=by
 refine bz Tryz.func104 Z λE fr O=>az<|bg Z<|sN<|aj<|sS<|sP (bC Z Z Z)<|sB Z<|ak Z<|sS<|sP (bC Z Z Z)<|sB Z ?_
 refine ak Z<|sS<|sP (bC Z Z Z)<|sB Z<|ak Z<|sS<|sP (bC Z Z Z)<|sB Z<|aO Z<|sG<|dS 0 Z Z<|aE Z Z Z Z ?_
 refine sM Z ?_;refine ch Z I gfE1 ?_;rintro v m ⟨-,U,K,rfl⟩;exact ae<|aq<|am<|bm [i7 f e jv,aG e p U] rfl ⟨rfl,U,K,rfl⟩ gfE1
theorem HU (I:eh 145 [aX e,aV n] [aG e p S] λv m=>(v=.tuple #[])/\∃U,Q U/\m=[aG e p U]):eh 104 [aX f,.int .i64 6,aV n] [i7 f e jv,aG e p S] λv m=>v=.tuple #[]/\∃U,Q U/\m=[i7 f e jv,aG e p U]:=by
 refine bz Tryz.func104 Z λE fr O=>az<|bg Z<|sN<|aj<|sS<|sP (bC Z Z Z)<|sB Z<|ak Z<|sS<|sP (bC Z Z Z)<|sB Z ?_
 refine ak Z<|sS<|sP (bC Z Z Z)<|sB Z<|ak Z<|sS<|sP (bC Z Z Z)<|sB Z<|ak Z<|sS<|sP (bC Z Z Z)<|sA Z<|aq ?_
 refine sT<|aO Z<|sG<|dS 0 Z Z<|aE Z Z Z Z<|sM Z ?_
 refine ch Z I gfE1 ?_;rintro v m ⟨-,U,K,rfl⟩;exact ae<|aq<|am<|bm [i7 f e jv,aG e p U] rfl ⟨rfl,U,K,rfl⟩ gfE1
theorem yc (I:eh 146 [aX e,aV n] [aG e p S] λv m=>(v=.tuple #[])/\∃U,Q U/\m=[aG e p U]):eh 104 [aX f,.int .i64 7,aV n] [i7 f e jv,aG e p S] λv m=>v=.tuple #[]/\∃U,Q U/\m=[i7 f e jv,aG e p U]:=by
 refine bz Tryz.func104 Z λE fr O=>az<|bg Z<|sN<|aj<|sS<|sP (bC Z Z Z)<|sB Z<|ak Z<|sS<|sP (bC Z Z Z)<|sB Z ?_
 refine ak Z<|sS<|sP (bC Z Z Z)<|sB Z<|ak Z<|sS<|sP (bC Z Z Z)<|sB Z<|ak Z<|sS<|sP (bC Z Z Z)<|sA Z<|aq ?_
 refine sT<|ak Z<|sS<|sP (bC Z Z Z)<|sB Z<|aO Z<|sG<|dS 0 Z Z<|aE Z Z Z Z<|sM Z ?_
 refine ch Z I gfE1 ?_;rintro v m ⟨-,U,K,rfl⟩;exact ae<|aq<|am<|bm [i7 f e jv,aG e p U] rfl ⟨rfl,U,K,rfl⟩ gfE1
theorem HJ (I:eh 147 [aX e,aV n] [aG e p S] λv m=>(v=.tuple #[])/\∃U,Q U/\m=[aG e p U]):eh 104 [aX f,.int .i64 8,aV n] [i7 f e jv,aG e p S] λv m=>v=.tuple #[]/\∃U,Q U/\m=[i7 f e jv,aG e p U]:=by
 refine bz Tryz.func104 Z λE fr O=>az<|bg Z<|sN<|aj<|sS<|sP (bC Z Z Z)<|sB Z<|ak Z<|sS<|sP (bC Z Z Z)<|sB Z ?_
 refine ak Z<|sS<|sP (bC Z Z Z)<|sB Z<|ak Z<|sS<|sP (bC Z Z Z)<|sB Z<|ak Z<|sS<|sP (bC Z Z Z)<|sA Z<|aq ?_
 refine sT<|ak Z<|sS<|sP (bC Z Z Z)<|sB Z<|ak Z<|sS<|sP (bC Z Z Z)<|sB Z<|aO Z<|sG<|dS 0 Z Z ?_
 refine aE Z Z Z Z<|sM Z ?_
 refine ch Z I gfE1 ?_;rintro v m ⟨-,U,K,rfl⟩;exact ae<|aq<|am<|bm [i7 f e jv,aG e p U] rfl ⟨rfl,U,K,rfl⟩ gfE1
def CallPost (f e j d:Nat) (p:EA) (S:FK.En) (J:FK.Jn) (σ:FK.Dsk) (op n:Nat) (Q:FK.En->Prop) (v:Value) (m:List HP):Prop:=
 v=dO (J.add σ (dN (FK.frame (FK.bW op n)))).2.2/\∃U,((J.add σ (dN (FK.frame (FK.bW op n)))).2.2=0->Q U)/\((J.add σ (dN (FK.frame (FK.bW op n)))).2.2≠0->U=S)/\m=[dT f e j,aG e p U,aM j d (J.add σ (dN (FK.frame (FK.bW op n)))).1,ar d (J.add σ (dN (FK.frame (FK.bW op n)))).2.1]
theorem nS {j d:Nat} {op:Nat} (O:op<256) (Y:n<18446744073709551616) (hJ:J.n<1000000) (hr:Roomy σ)
 (hD:eh 104 [aX f,.int .i64 op,aV n] [dT f e j,aG e p S] λv m=>v=.tuple #[]/\∃U,Q U/\m=[dT f e j,aG e p U]):eh 74 [aX f,.int .i64 op,aV n] [dT f e j,aG e p S,aM j d J,ar d σ] (CallPost f e j d p S J σ op n Q):=by
 refine bz Tryz.func74 Z λE fr hE=>cc<|sS<|sB Z<|bg Z<|sM Z<|sM Z ?_
 refine ch Z (uY (e:=e) (j:=j) O Y hJ hr) (Ent.cons (aY bM bM)) ?_;rintro v m ⟨I,rfl⟩;refine cD ?_
 generalize T:J.add σ (dN (FK.frame (FK.bW op n)))=ω at I ⊢
 refine sB Z<|sQ<|sQ ?_
 by_cases K:ω.2.2=0
 ·
  replace I:=I.trans (if_pos K);subst I;refine sG<|cG Z (jM Z Z)<|sN<|aO Z<|sG<|sM Z<|sM Z<|sM Z ?_
  refine ch Z hD (Ent.cons gfE2) ?_;rintro v m ⟨rfl,U,hU,rfl⟩;refine az<|sN<|bg Z<|sB Z<|an ?_
  exact aw [dT f e j,aG e p U,aM j d ω.1,ar d ω.2.1] rfl Z (by unfold CallPost;rw[T];exact⟨(if_pos K).symm,U,λ_=>hU,λh=>absurd K h,rfl⟩) aN
 ·
  replace I:=I.trans (if_neg K);subst I;refine sG<|cG Z (dU Z Z)<|sN<|ak Z<|ah<|sT<|bg Z<|sB Z<|an ?_
  exact aw [dT f e j,aG e p S,aM j d ω.1,ar d ω.2.1] rfl Z (by unfold CallPost;rw[T];exact⟨(if_neg K).symm,S,λh=>absurd h K,λ_=>rfl,rfl⟩)<|Ent.cons gfE2
end
end Go.Y

namespace Go.Y
open Go.Proofs Go.RowKit Go.SL
variable {G:Env->Prop}
theorem Em {k:Nat} (T:0<k) (Y:k<=1099511627776):dZ G 122 [.slice none 0 0,.int .i64 k] [] λv m=>m=[bP v []]:=by
 refine bz Tryz.func122 Z λE fr hE=>aB<|sS<|sB Z<|sQ<|bg Z<|sP (bB (r:=false) Z Z cP)<|sN<|ak Z<|ah<|sT<|sQ<|bg Z ?_
 refine cG Z (CT Z Z)<|cG Z (bh Z Z)<|sP (cH (r:=0) Z Z di)<|sP (cH (r:=(k:Int)) Z Z eg)<|sB Z<|bg Z<|sP (eS (r:=true) Z Z (by simp;omega))<|sN<|aO Z<|sG<|sM Z<|cG Z (CT Z Z) ?_
 refine sP (Ko (v':=.slice none 0 0) (eG (z:=1) (a:=0) (b:=0) Z Z Z Z ⟨_,rfl⟩ (cm _) (cm _)) Z)<|sM Z ?_
 refine sO (KQ Z Z Z jh Z Z Z T (by unfold maxLen;omega) ai λK I O=>?_);exact cG Z (bh Z Z)<|sP (Ko (v':=.slice (some ⟨K,0,none⟩) 0 I) (eG (z:=1) (a:=0) (b:=0) Z Z Z Z ⟨_,rfl⟩ (cm _) (Nat.zero_le _)) (by simp only[Nat.sub_zero];split<;>rfl))<|sB Z<|bg Z<|sB Z<|an<|aw [_] rfl Z Z aN
def iQ (a b:List UInt8) (k:Nat):List UInt8:=if k=0 then[] else if k=1 then a else a++b
theorem zC {g:Nat} {A1 A2:Option Addr} {bs1 I:List UInt8} {p1 O:HP} (c1 c2:Nat) (d6:Reads p1 A1 bs1) (d7:A1=none->bs1=[]) (d8:Reads O A2 I) (d9:A2=none->I=[]) (h0:0<bs1.length+I.length) (hl:bs1.length+I.length<=1099511627776) :
 dZ G 66 [.slice (some ⟨g,0,none⟩) 2 2] [blk g 61 #[.slice A1 bs1.length c1,.slice A2 I.length c2],p1,O] λv m=>m=[bP v (bs1++I),p1,O]:=by
 refine bz Tryz.func66 Z λE fr hE=>cD<|sS<|sB Z<|sS<|sB Z<|sQ<|bg Z<|sP (bh Z Z)<|sM Z<|sN<|aj ?_
 refine aL (X:=Nat) (λk=>[(11,.int .i64 k),(10,.int .i64 (2:Nat)),(9,.slice (some ⟨g,0,none⟩) 2 2),(3,.int .i64 (iQ bs1 I k).length),(0,.slice (some ⟨g,0,none⟩) 2 2)]) (λ_=>blk g 61 #[.slice A1 bs1.length c1,.slice A2 I.length c2]::p1::O::fr) (λk=>k<=2) (λk=>2-k) 0 (Nat.zero_le _) cf aN ?_;intro k hk;have f8:(iQ bs1 I k).length<=bs1.length+I.length:=by unfold iQ;split;simp;split;omega;simp
 refine sS<|sP (bB Z Z Z)<|sN<|sQ ?_
 refine aA Z (λT=>?_) λT=>?_
 ·
  have K:k<2:=by have:(k:Int)<((2:Nat):Int):=T;omega
  refine ah<|sT<|sQ<|aj<|sQ ?_
  by_cases HK:k=0
  ·
   subst HK;refine sG<|sP (bp (z:=1) Z Z Z Z K)<|aE Z Z Z Z<|sB Z<|bg Z<|cG Z (bh Z Z)<|sP (aT (r:=((iQ bs1 I 1).length:Int)) Z Z (by simp only[iQ];simp;rw[iI ai]))<|sB Z<|bg Z<|sP (bB (r:=false) Z Z cP)<|aq ?_
   refine sT<|ak Z<|ah<|am<|sT<|sG<|sP (aT (r:=((1:Nat):Int)) Z Z di)<|sM Z<|aq ?_
   exact aC 1 ai ai cf aN
  ·
   obtain rfl:k=1:=ai;refine sG<|sP (bp (z:=1) Z Z Z Z K)<|aE Z Z Z Z<|sB Z<|bg Z<|cG Z (bh Z Z)<|sP (aT (r:=((iQ bs1 I 2).length:Int)) Z Z (by simp only[iQ];simp;rw[iI ai]))<|sB Z<|bg Z<|sP (bB (r:=false) Z Z cP)<|aq ?_
   refine sT<|ak Z<|ah<|am<|sT<|sG<|sP (aT (r:=((2:Nat):Int)) Z Z di)<|sM Z<|aq ?_
   exact aC 2 ai ai cf aN
 ·
  obtain rfl:k=2:=by have:¬(k:Int)<((2:Nat):Int):=T;omega
  have h2:iQ bs1 I 2=bs1++I:=rfl;refine aK<|av<|au<|ao<|sT<|bg Z ?_
  refine ch Z (Em (k:=(iQ bs1 I 2).length) (by rw[h2,List.length_append];exact h0) ai) aN ?_;rintro v m rfl;refine ae<|sB Z<|sQ<|bg Z<|sP (bh Z Z)<|sM Z<|sN<|aj ?_
  refine aL (X:=Nat×Value) (λx=>[(27,.int .i64 x.1),(26,.int .i64 (2:Nat)),(25,.slice (some ⟨g,0,none⟩) 2 2),(6,x.2)]) (λx=>bP x.2 (iQ bs1 I x.1)::blk g 61 #[.slice A1 bs1.length c1,.slice A2 I.length c2]::p1::O::fr) (λx=>x.1<=2) (λx=>2-x.1) (0,v) (Nat.zero_le _) cf aN ?_;rintro⟨k,u⟩ hk;replace hk:k<=2:=hk;refine al (l':=bP u (iQ bs1 I k)::blk g 61 #[.slice A1 bs1.length c1,.slice A2 I.length c2]::p1::O::fr) aN ?_;refine sS<|sP (bB Z Z Z)<|sN<|sQ ?_
  refine aA Z (λY=>?_) λY=>?_
  ·
   have K:k<2:=by have:(k:Int)<((2:Nat):Int):=Y;omega
   refine ah<|sT<|sQ<|aj<|sQ ?_
   by_cases HM:k=0
   ·
    subst HM;refine sG<|sP (bp (z:=1) Z Z Z Z K)<|aE Z Z Z Z<|sB Z<|sG<|sM Z<|sM Z ?_
    refine eu rfl (cU rfl rfl jh rfl ai rfl rfl (HasVal.sel (v:=u)) (news:=cw bs1) (by rw[iG];omega) (λh=>by rw[d7 h];rfl) (Reads.src d6 dj) (by intro u hu;obtain⟨x,_,rfl⟩:=List.mem_map.1 hu;rfl) (by unfold maxLen;simp[iQ];omega) (by simp[iQ];omega) λu2 f7=>?_);refine sA Z<|aq<|am<|sT<|sG<|sP (aT (r:=((1:Nat):Int)) Z Z Z)<|sM Z<|aq<|aC (1,u2) (by show 1<=2;omega) (by show 2-1<2-0;omega) cf ?_
    show Ent (row 5 1 u2 (0+bs1.length) ([]++cw bs1)::_) (row 5 1 u2 bs1.length (cw bs1)::_);rw[Nat.zero_add,List.nil_append];exact aN
   ·
    obtain rfl:k=1:=ai;refine sG<|sP (bp (z:=1) Z Z Z Z K)<|aE Z Z Z Z<|sB Z<|sG<|sM Z<|sM Z ?_
    refine eu rfl (cU rfl rfl jh rfl ai rfl rfl (HasVal.sel (v:=u)) (news:=cw I) (by rw[iG];omega) (λh=>by rw[d9 h];rfl) (Reads.src d8 gC) (by intro u hu;obtain⟨x,_,rfl⟩:=List.mem_map.1 hu;rfl) (by unfold maxLen;simp[iQ];omega) (by simp[iQ];omega) λu2 f7=>?_);refine sA Z<|aq<|am<|sT<|sG<|sP (aT (r:=((2:Nat):Int)) Z Z Z)<|sM Z<|aq<|aC (2,u2) (by show 2<=2;omega) (by show 2-2<2-1;omega) cf ?_
    show Ent (row 5 1 u2 (bs1.length+I.length) (cw bs1++cw I)::_) (row 5 1 u2 (bs1++I).length (cw (bs1++I))::_);rw[List.length_append,iH];exact aN
  ·
   obtain rfl:k=2:=by have:¬(k:Int)<((2:Nat):Int):=Y;omega
   exact aK<|av<|au<|ao<|sT<|bg Z<|sB Z<|an<|aw [bP u (bs1++I),p1,O] rfl Z Z<|Ent.cons Ent.drop
end Go.Y

namespace Go.Y
open Go.Proofs Go.RowKit Go.SL
abbrev dg (f e j d:Nat) (p:EA) (S:FK.En) (J:FK.Jn) (σ:FK.Dsk):List HP:=[dT f e j,aG e p S,aM j d J,ar d σ]
section
variable {S:FK.En} {σ:FK.Dsk} {J:FK.Jn} {d e f j t:Nat} {p:EA} {P:FK.Pl} {R:FK.Rn}
theorem og {op:Nat} (I:S.Ly.any (·.1==t)=false):eh 72 [aX f,.int .i64 op,aV t] (dg f e j d p S J σ) λv m=>v=dO 7/\m=dg f e j d p S J σ:=by
 refine bz Tryz.func72 Z λE fr K=>cc<|sS<|sB Z<|sQ<|sS<|dS 0 Z Z<|aE Z Z Z Z<|sM Z ?_
 refine bV Z (s6 t) gfE1 ?_;refine ae ?_;rw[I];exact sP (dp Z Z)<|sN<|aO Z<|sS<|sP (ed Z Z Z)<|sB Z<|an<|aH<|aw (dg f e j d p S J σ) Z Z ⟨rfl,rfl⟩ gfE1
theorem oe {op:Nat} {Q:FK.En->Prop} (I:S.Ly.any (·.1==t)=true) (K:eh 74 [aX f,.int .i64 op,aV t] (dg f e j d p S J σ) (CallPost f e j d p S J σ op t Q)):eh 72 [aX f,.int .i64 op,aV t] (dg f e j d p S J σ) (CallPost f e j d p S J σ op t Q):=by
 refine bz Tryz.func72 Z λE fr T=>cc<|sS<|sB Z<|sQ<|sS<|dS 0 Z Z<|aE Z Z Z Z<|sM Z ?_
 refine bV Z (s6 t) gfE1 ?_;refine ae ?_;rw[I];refine sP (dp Z Z)<|sN<|ak Z<|ah<|sT<|bg Z<|sM Z<|sM Z ?_
 refine ch Z K gfE1 ?_;rintro v m O;exact sB Z<|an<|aw m Z Z O aN
theorem sJ (h:(S.Ly.find? (·.1==t)).map (·.2)=some P):S.Ly.any (·.1==t)=true:=by
 cases hf:S.Ly.find? (·.1==t) with
 | none=>rw[hf] at h;cases h
 | some x=>exact List.any_eq_true.2 ⟨x,List.mem_of_find?_eq_some hf,List.find?_some (p:=λx:Nat×FK.Pl=>x.1==t) hf⟩
theorem qT (I:S.Ly.any (·.1==t)=false):eh 41 [aX f,aV t] (dg f e j d p S J σ) λv m=>v=dO 7/\m=dg f e j d p S J σ:=by
 refine bz Tryz.func41 Z λE fr K=>cc<|sS<|sB Z<|bg Z<|sM Z ?_
 refine bV Z (og (op:=4) I) aN ?_;exact cc<|sB Z<|an<|aw (dg f e j d p S J σ) Z Z ⟨rfl,rfl⟩ aN
theorem qS (h:FK.Ok S) (T:t<18446744073709551616) (Y:J.n<1000000) (hr:Roomy σ) (O:(S.Ly.find? (·.1==t)).map (·.2)=some P) (I:S.ends<9223372036854775807):eh 41 [aX f,aV t] (dg f e j d p S J σ) (CallPost f e j d p S J σ 4 t λU=>U=S.complete t):=by
 refine bz Tryz.func41 Z λE fr hE=>cc<|sS<|sB Z<|bg Z<|sM Z ?_
 refine ch Z (oe (op:=4) (Q:=λU=>U=S.complete t) (sJ O) (nS (op:=4) ai T Y hr (ye ((qI h O I).mono λv m K=>⟨m,⟨K.1,_,rfl,K.2⟩,aN⟩)))) aN ?_;rintro v m K;exact sB Z<|an<|aw m Z Z K aN
theorem zp (I:S.Ly.any (·.1==t)=false):eh 42 [aX f,aV t] (dg f e j d p S J σ) λv m=>v=dO 7/\m=dg f e j d p S J σ:=by
 refine bz Tryz.func42 Z λE fr K=>cc<|sS<|sB Z<|bg Z<|sM Z ?_
 refine bV Z (og (op:=5) I) aN ?_;exact cc<|sB Z<|an<|aw (dg f e j d p S J σ) Z Z ⟨rfl,rfl⟩ aN
theorem zo (h:FK.Ok S) (Y:t<18446744073709551616) (hJ:J.n<1000000) (hr:Roomy σ) (T:(S.Ly.find? (·.1==t)).map (·.2)=some P) (I:S.sets+1<9223372036854775807) (K:S.ends<9223372036854775807):eh 42 [aX f,aV t] (dg f e j d p S J σ) (CallPost f e j d p S J σ 5 t λU=>U=S.fail t):=by
 refine bz Tryz.func42 Z λE fr hE=>cc<|sS<|sB Z<|bg Z<|sM Z ?_
 refine ch Z (oe (op:=5) (Q:=λU=>U=S.fail t) (sJ T) (nS (op:=5) ai Y hJ hr (yd ((CP h T I K).mono λv m O=>⟨m,⟨O.1,_,rfl,O.2⟩,aN⟩)))) aN ?_;rintro v m O;exact sB Z<|an<|aw m Z Z O aN
theorem Bw {n:Nat} (h:FK.Ok S) (O:n<18446744073709551616) (T:J.n<1000000) (Y:Roomy σ) (I:S.sets<=4611686018427387904) (K:S.ends<=4611686018427387904):eh 44 [aX f,aV n] (dg f e j d p S J σ) (CallPost f e j d p S J σ 7 n λU=>FK.Ticks (S.later n) S U):=by
 refine bz Tryz.func44 Z λE fr hE=>cc<|sS<|sB Z<|bg Z<|sM Z ?_
 refine ch Z (nS (op:=7) ai O T Y (yc (Cg h O I K))) aN ?_;rintro v m hv;exact sB Z<|an<|aw m Z Z hv aN
theorem zj (I:S.Lx=[]):eh 39 [aX f] (dg f e j d p S J σ) λv m=>v=.tuple #[jR 0 0 0 0,.bool false,.nilIface]/\m=dg f e j d p S J σ:=by
 refine bz Tryz.func39 Z λE fr K=>cc<|sS<|sO (cX (z:=.agg #[.int .u64 0,.int .i64 0,.int .i64 0,.int .u64 0]) Z λb2=>(sA Z (sB Z (sQ (sS (sM Z (dA Z (bX 0 Z (aE Z Z Z Z ?_)))))))))
 refine bV Z yj gfE2 ?_;refine ae ?_;rw[show decide (0<S.Lx.length)=false by rw[I];rfl];refine sP (dp Z Z)<|sN<|aO Z<|sS<|sP (bT (ps:=[]) (vs:=[]) (cs:=(bS 0 0 0 0).toArray) Z Z Z Z Z) ?_
 refine sO<|aZ Z (m:=4) (vs:=bS 0 0 0 0) Z Z Z Z fx (by show 0+4<=4;omega) ?_
 exact aD b2 (bS 0 0 0 0).toArray Z<|sA Z<|sB Z<|an<|aH<|hO (dg f e j d p S J σ) Z (ce (vs:=bS 0 0 0 0) Z Z Z Z (aR Z)) (da Z) (da Z) ⟨rfl,rfl⟩<|Ent.drop.trans gfE1
def pd (f e j d:Nat) (p:EA) (S:FK.En) (J:FK.Jn) (σ:FK.Dsk) (id k:Nat) (q:List FK.Pl) (R:FK.Rn) (s:FK.Sp) (nd:FK.Node) (v:Value) (m:List HP):Prop:=
 ((J.add σ (dN (FK.frame (FK.bW 2 0)))).2.2=0/\v=.tuple #[jR id k (s.Lu+1) (S.Ls+1),.bool true,.nilIface]/\m=dg f e j d p (S.hand ⟨id,(k:Int),0⟩ q R s nd) (J.add σ (dN (FK.frame (FK.bW 2 0)))).1 (J.add σ (dN (FK.frame (FK.bW 2 0)))).2.1)\/
 ((J.add σ (dN (FK.frame (FK.bW 2 0)))).2.2≠0/\v=.tuple #[jR 0 0 0 0,.bool false,dO (J.add σ (dN (FK.frame (FK.bW 2 0)))).2.2]/\m=dg f e j d p S (J.add σ (dN (FK.frame (FK.bW 2 0)))).1 (J.add σ (dN (FK.frame (FK.bW 2 0)))).2.1)
theorem zi (h:FK.Ok S) (hJ:J.n<1000000) (hr:Roomy σ) {id k:Nat} {q:List FK.Pl} {s:FK.Sp} {nd:FK.Node} (Y:S.Lx=⟨id,(k:Int),0⟩::q) (hR:S.getR id=some R) (hs:R.Lv[k]?=some s) (hn:R.fl.Lw[k]?=some nd) (I:S.sets+1<9223372036854775807) (O:S.Ls<9223372036854775807):eh 39 [aX f] (dg f e j d p S J σ) (pd f e j d p S J σ id k q R s nd):=by
 refine bz Tryz.func39 Z λE fr hE=>cc<|sS<|sO (cX (z:=.agg #[.int .u64 0,.int .i64 0,.int .i64 0,.int .u64 0]) Z λb2=>(sA Z (sB Z (sQ (sS (sM Z (dA Z (bX 0 Z (aE Z Z Z Z ?_)))))))))
 refine bV Z yj gfE2 ?_;refine ae ?_;rw[show decide (0<S.Lx.length)=true by rw[Y];rfl];refine sP (dp Z Z)<|sN<|ak Z<|ah<|sT<|sQ<|bg Z ?_
 refine ch Z (uY (e:=e) (j:=j) (op:=2) (n:=0) ai ai hJ hr) (dd dj dj dj) ?_;rintro v m ⟨K,rfl⟩;refine cD ?_
 generalize hω:J.add σ (dN (FK.frame (FK.bW 2 0)))=ω at K ⊢
 refine sB Z<|sQ ?_
 by_cases T:ω.2.2=0
 ·
  replace K:=K.trans (if_pos T);subst K;refine sG<|cG Z (cS Z Z)<|sN<|ak Z<|ah<|sT<|sS<|dS 0 Z Z<|aE Z Z Z Z ?_
  refine bV Z (Co h Y hR hs hn I O) gfE3 ?_;refine ae<|sM Z<|bG Z Z<|bG Z Z<|sO (cX (z:=.agg #[.int .u64 0,.int .i64 0,.int .i64 0,.int .u64 0]) Z λb6=>?_)
  refine sO<|aZ Z (m:=4) (vs:=bS id k (s.Lu+1) (S.Ls+1)) Z Z Z Z fx (by show 0+4<=4;omega) ?_
  refine aD b6 (bS id k (s.Lu+1) (S.Ls+1)).toArray Z<|sB Z<|sS<|cE (bR (vs:=bS id k (s.Lu+1) (S.Ls+1)) Z) (aR Z)<|sM Z ?_
  refine sO<|aZ Z (m:=4) (vs:=bS id k (s.Lu+1) (S.Ls+1)) Z Z Z Z fx (by show 0+4<=4;omega) ?_
  refine aD b2 (bS id k (s.Lu+1) (S.Ls+1)).toArray Z<|sA Z<|sB Z<|an ?_
  refine hO (dg f e j d p (S.hand ⟨id,(k:Int),0⟩ q R s nd) ω.1 ω.2.1) Z (ce (vs:=bS id k (s.Lu+1) (S.Ls+1)) Z Z Z Z (aR Z)) (da Z) (da Z) (by unfold pd;rw[hω];exact .inl ⟨T,rfl,rfl⟩) ?_;show Ent _ (dT f e j::aG e p _::aM j d ω.1::ar d ω.2.1::fr);exact ap
 ·
  replace K:=K.trans (if_neg T);subst K;refine sG<|cG Z (fj Z Z)<|sN<|aO Z<|sS<|sP (bT (ps:=[]) (vs:=[]) (cs:=(bS 0 0 0 0).toArray) Z Z Z Z Z)<|sM Z ?_
  refine sO<|aZ Z (m:=4) (vs:=bS 0 0 0 0) Z Z Z Z fx (by show 0+4<=4;omega) ?_
  refine aD b2 (bS 0 0 0 0).toArray Z<|sA Z<|sB Z<|an<|aH ?_
  refine hO (dg f e j d p S ω.1 ω.2.1) Z (ce (vs:=bS 0 0 0 0) Z Z Z Z (aR Z)) (da Z) (da Z) (by unfold pd;rw[hω];exact .inr ⟨T,by unfold dO;rw[if_neg T],rfl⟩) ?_;show Ent _ (dT f e j::aG e p _::aM j d ω.1::ar d ω.2.1::fr);exact ap
theorem wV {id:Nat} (h:FK.Ok S) (hR:S.getR id=some R):eh 19 [aX f,aV id] (dg f e j d p S J σ) λv m=>∃I K O T,v=.tuple #[.agg (dh id R.state (.slice I R.Lv.length K) (.slice O R.Lv.length T)).toArray,.nilIface]/\m=aU (.slice I R.Lv.length K) (R.Lv.map (·.state))::aU (.slice O R.Lv.length T) (R.Lv.map (·.Lu))::dg f e j d p S J σ:=by
 have d7:∀g:FK.Sp->Int,(R.Lv.map g).length=R.Lv.length:=λg=>List.length_map _;refine bz Tryz.func19 Z λE fr hE=>cc<|sS<|sO (cX (z:=.agg #[.int .u64 0,.int .i64 0,.slice none 0 0,.slice none 0 0]) Z λb4=>(sB Z (sS (sM Z (dA Z (bX 0 Z (aE Z Z Z Z (sM Z ?_))))))))
 refine ch Z (GC h hR) gfE2 ?_;rintro v m ⟨v2,v3,rfl,rfl⟩;refine cD<|aI (HasVal.sel (v:=v2)) ?_
 rintro I K Y - - - - -
 refine aI (HasVal.sel (v:=v3)) ?_;rintro O T d6 - - - - -
 rw[d7] at Y d6;subst Y;subst d6;refine sM Z<|bG Z Z<|bG Z Z<|sO (cX (z:=.agg #[.int .u64 0,.int .i64 0,.slice none 0 0,.slice none 0 0]) Z λb6=>?_)
 refine sO<|aZ Z (m:=4) (vs:=dh id R.state (.slice I R.Lv.length K) (.slice O R.Lv.length T)) Z Z Z Z fx (by show 0+4<=4;omega) ?_
 refine aD b6 (dh id R.state (.slice I R.Lv.length K) (.slice O R.Lv.length T)).toArray Z<|sB Z<|sQ<|bg Z<|sP (dp Z Z)<|sN<|ak Z<|ah<|sT<|sS<|cE (bR (vs:=dh id R.state (.slice I R.Lv.length K) (.slice O R.Lv.length T)) Z) (aR Z) ?_
 refine sO<|aZ Z (m:=4) (vs:=dh id R.state (.slice I R.Lv.length K) (.slice O R.Lv.length T)) Z Z Z Z fx (by show 0+4<=4;omega) ?_
 refine aD b4 (dh id R.state (.slice I R.Lv.length K) (.slice O R.Lv.length T)).toArray Z<|sB Z<|an ?_
 refine eb (aU (.slice I R.Lv.length K) (R.Lv.map (·.state))::aU (.slice O R.Lv.length T) (R.Lv.map (·.Lu))::dg f e j d p S J σ) Z (ce (vs:=dh id R.state (.slice I R.Lv.length K) (.slice O R.Lv.length T)) Z Z Z Z (aR Z)) (da Z) ⟨I,K,O,T,rfl,rfl⟩ ?_;show Ent _ (aU _ _::aU _ _::dT f e j::aG e p _::aM j d J::ar d σ::fr);exact ap
end
open Go.Proofs Go.RowKit Go.SL Go.Extern
theorem JX (e:Addr) (t K:Nat) (o:Value):eh 114 [.iface 125 (.pointer (some e)),.iface 127 (.pointer (some ⟨t,0,none⟩)),rv 127 K 150,rt 125] [blk K 127 #[.pointer (some ⟨t,0,none⟩)],blk t 125 #[o]] λv m=>v=.bool true/\m=[blk t 125 #[.pointer (some e)]]:=by
 refine bz Tryz.func114 Z λE fr hE=>az<|sS<|sO (cL Z Z λO=>(sB Z (aj ?_)))
 refine aL (X:=Unit) (λ_=>[(0,.iface 125 (.pointer (some e))),(1,.iface 127 (.pointer (some ⟨t,0,none⟩))),(3,rt 125),(6,.pointer (some ⟨O,0,none⟩))]) (λ_=>blk O 202 #[hnd 127,.pointer (some ⟨K,0,none⟩),.int .u64 150]::blk K 127 #[.pointer (some ⟨t,0,none⟩)]::blk t 125 #[o]::fr) (λ_=>True) (λ_=>0) () trivial cf aN ?_;rintro _ _;refine aj<|sQ<|bg Z ?_
 refine sP (ju Z λw _=>ID _ w) ?_;refine sM Z ?_;refine sP (fF Z Z (lw _) λw _=>zH w) ?_;refine sN<|aO Z<|sS<|cE (bR (vs:=[hnd 127,.pointer (some ⟨K,0,none⟩),.int .u64 150]) Z) (aR Z) ?_
 refine cE (ju (args:=[rv 127 K 150]) Z λw h=>Lm K t w h) (ag Z) ?_;refine sM Z ?_;refine sO (xo (v:=λb=>rv 125 b 150) Z Z (λw=>F9 e w) λI=>?_);refine sO<|uW (args:=[rv 125 t 406,rv 125 I 150]) Z (b:=t) (j:=0) (tb:=125) (cs:=#[o]) (u:=.tuple #[]) (v:=.pointer (some e)) (φ:=cR ⟨I,0,none⟩ (.pointer (some e))) Z (ag (b:=I) Z) (λw T Y=>setF t I e o w T Y) ?_
 exact sN<|sS<|sB Z<|an<|aH<|aJ<|cu<|aJ<|aw [blk t 125 #[.pointer (some e)]] rfl Z ⟨rfl,rfl⟩<|Ent.cons<|Ent.drop.trans<|Ent.drop.trans Ent.drop
theorem JW (e:Int) (t K:Nat) (o:Value):eh 114 [.iface 33 (.int .i64 e),.iface 131 (.pointer (some ⟨t,0,none⟩)),rv 131 K 150,rt 33] [blk K 131 #[.pointer (some ⟨t,0,none⟩)],blk t 33 #[o]] λv m=>v=.bool true/\m=[blk t 33 #[.int .i64 e]]:=by
 refine bz Tryz.func114 Z λE fr hE=>az<|sS<|sO (cL Z Z λO=>(sB Z (aj ?_)))
 refine aL (X:=Unit) (λ_=>[(0,.iface 33 (.int .i64 e)),(1,.iface 131 (.pointer (some ⟨t,0,none⟩))),(3,rt 33),(6,.pointer (some ⟨O,0,none⟩))]) (λ_=>blk O 202 #[hnd 131,.pointer (some ⟨K,0,none⟩),.int .u64 150]::blk K 131 #[.pointer (some ⟨t,0,none⟩)]::blk t 33 #[o]::fr) (λ_=>True) (λ_=>0) () trivial cf aN ?_;rintro _ _;refine aj<|sQ<|bg Z ?_
 refine sP (ju Z λw _=>qX _ w) ?_;refine sM Z ?_;refine sP (fF Z Z (lw _) λw _=>zG w) ?_;refine sN<|aO Z<|sS<|cE (bR (vs:=[hnd 131,.pointer (some ⟨K,0,none⟩),.int .u64 150]) Z) (aR Z) ?_
 refine cE (ju (args:=[rv 131 K 150]) Z λw h=>Ll K t w h) (ag Z) ?_;refine sM Z ?_;refine sO (xo (v:=λb=>rv 33 b 130) Z Z (λw=>F8 e w) λI=>?_);refine sO<|uW (args:=[rv 33 t 386,rv 33 I 130]) Z (b:=t) (j:=0) (tb:=33) (cs:=#[o]) (u:=.tuple #[]) (v:=.int .i64 e) (φ:=cR ⟨I,0,none⟩ (.int .i64 e)) Z (ag (b:=I) Z) (λw T Y=>setN t I e o w T Y) ?_
 exact sN<|sS<|sB Z<|an<|aH<|aJ<|cu<|aJ<|aw [blk t 33 #[.int .i64 e]] rfl Z ⟨rfl,rfl⟩<|Ent.cons<|Ent.drop.trans<|Ent.drop.trans Ent.drop
theorem EO (x:Int) (t I:Nat) (o:Value):eh 114 [.iface 33 (.int .i64 x),.iface 127 (.pointer (some ⟨t,0,none⟩)),rv 127 I 150,rt 125] [blk I 127 #[.pointer (some ⟨t,0,none⟩)],blk t 125 #[o]] λv m=>v=.bool false/\m=[blk t 125 #[o]]:=by
 refine bz Tryz.func114 Z λE fr O=>az<|sS<|sO (cL Z Z λK=>(sB Z (aj ?_)))
 refine aL (X:=Unit) (λ_=>[(0,.iface 33 (.int .i64 x)),(1,.iface 127 (.pointer (some ⟨t,0,none⟩))),(3,rt 125),(6,.pointer (some ⟨K,0,none⟩))]) (λ_=>blk K 202 #[hnd 127,.pointer (some ⟨I,0,none⟩),.int .u64 150]::blk I 127 #[.pointer (some ⟨t,0,none⟩)]::blk t 125 #[o]::fr) (λ_=>True) (λ_=>0) () trivial cf aN ?_;rintro _ _;refine aj<|sQ<|bg Z ?_
 refine sP (ju Z λw _=>qX _ w) ?_;refine sM Z ?_;refine sP (fF Z Z (lw _) λw _=>xc w) ?_;refine sN<|ak Z<|ah<|sT<|sQ<|bg Z<|sP (nM (z:=.nilIface) Z Z eP eP)<|sM Z<|bG Z Z<|bG Z Z<|sA Z<|sB Z<|bg Z ?_
 refine sM Z<|bQ Z<|bQ Z<|bQ Z<|sP (aS Z Z Z)<|sN<|ak Z<|ah<|sT<|bg Z<|sN<|aj<|sS<|sP (nM (z:=.nilIface) Z Z eP eP)<|bG Z Z ?_
 refine bG Z Z<|sN<|ak Z<|sS<|sP (nM (z:=.nilIface) Z Z eP eP)<|bG Z Z<|bG Z Z<|sN<|ak Z<|sS<|sB Z<|sS<|sA Z ?_
 exact sN<|an<|aJ<|aJ<|cu<|aJ<|aw [blk t 125 #[o]] rfl Z ⟨rfl,rfl⟩<|Ent.drop.trans Ent.drop
theorem Ip (e:Addr) (t:Nat) (o:Value):eh 61 [.iface 125 (.pointer (some e)),.iface 127 (.pointer (some ⟨t,0,none⟩))] [blk t 125 #[o]] λv m=>v=.bool true/\m=[blk t 125 #[.pointer (some e)]]:=by
 refine bz Tryz.func61 Z λE fr K=>ae<|sS<|sB Z<|sQ<|bg Z<|sP (dU Z Z)<|sN<|ak Z<|ah<|sT<|sQ<|bg Z ?_
 refine sP (dU Z Z)<|sN<|ak Z<|ah<|sT<|bg Z ?_
 refine sO (xo (v:=λb=>rv 127 b 150) Z Z (λw=>uB t w) λI=>?_);refine sO (cX (z:=.agg #[.pointer none,.pointer none,.int .u64 0]) Z λO=>?_);refine sO<|aZ Z (m:=3) (vs:=[hnd 127,.pointer (some ⟨I,0,none⟩),.int .u64 150]) Z Z Z Z fx (by simp[Value.cells]) ?_
 refine sN<|sS<|cE (bR (vs:=[hnd 127,.pointer (some ⟨I,0,none⟩),.int .u64 150]) Z) (aR Z) ?_
 refine sP (ju Z λw _=>Fq I w) ?_;refine sB Z<|sQ<|bg Z ?_
 refine sP (fF Z Z (uw _) λw _=>FM w) ?_;refine sP (dq Z Z Z)<|sM Z<|mJ (bR (vs:=[hnd 127,.pointer (some ⟨I,0,none⟩),.int .u64 150]) Z) (aR Z) ?_
 refine mJ (ju (args:=[rv 127 I 150]) (φ:=cR ⟨I,0,none⟩ (.pointer (some ⟨t,0,none⟩))) Z λw h=>CE I t w h) (ag Z) ?_;refine sP (aS Z Z Z)<|sN<|ak Z<|ah<|sT<|bg Z ?_
 refine sP (fF Z Z (E6 _) λw _=>FW w) ?_;refine sB Z<|sQ<|bg Z ?_
 refine sP (fF Z Z (uw _) λw _=>J9 w) ?_;refine sP (dq Z Z Z)<|sM Z<|iC Z ?_
 refine mJ (aF Z) (λw hw=>K.err w hw.is) ?_;refine eJ (fF Z Z (nc _) λw _=>qy w) ?_;refine eJ (dp Z Z)<|sP (aS Z Z Z)<|sN<|ak Z<|ah<|sT<|bg Z<|sM Z<|cE (bR (vs:=[hnd 127,.pointer (some ⟨I,0,none⟩),.int .u64 150]) Z) (aR Z)<|sM Z ?_
 refine bV Z (JX e t I o) (aY bM bM) ?_;exact ae<|sB Z<|an<|aw [blk t 125 #[.pointer (some e)]] rfl Z ⟨rfl,rfl⟩<|Ent.cons Ent.drop
theorem Iq (e:Int) (t:Nat) (o:Value):eh 61 [.iface 33 (.int .i64 e),.iface 131 (.pointer (some ⟨t,0,none⟩))] [blk t 33 #[o]] λv m=>v=.bool true/\m=[blk t 33 #[.int .i64 e]]:=by
 refine bz Tryz.func61 Z λE fr K=>ae<|sS<|sB Z<|sQ<|bg Z<|sP (dU Z Z)<|sN<|ak Z<|ah<|sT<|sQ<|bg Z ?_
 refine sP (dU Z Z)<|sN<|ak Z<|ah<|sT<|bg Z ?_
 refine sO (xo (v:=λb=>rv 131 b 150) Z Z (λw=>Dr t w) λI=>?_);refine sO (cX (z:=.agg #[.pointer none,.pointer none,.int .u64 0]) Z λO=>?_);refine sO<|aZ Z (m:=3) (vs:=[hnd 131,.pointer (some ⟨I,0,none⟩),.int .u64 150]) Z Z Z Z fx (by simp[Value.cells]) ?_
 refine sN<|sS<|cE (bR (vs:=[hnd 131,.pointer (some ⟨I,0,none⟩),.int .u64 150]) Z) (aR Z) ?_
 refine sP (ju Z λw _=>Kv I w) ?_;refine sB Z<|sQ<|bg Z ?_
 refine sP (fF Z Z (uw _) λw _=>K3 w) ?_;refine sP (dq Z Z Z)<|sM Z<|mJ (bR (vs:=[hnd 131,.pointer (some ⟨I,0,none⟩),.int .u64 150]) Z) (aR Z) ?_
 refine mJ (ju (args:=[rv 131 I 150]) (φ:=cR ⟨I,0,none⟩ (.pointer (some ⟨t,0,none⟩))) Z λw h=>Js I t w h) (ag Z) ?_;refine sP (aS Z Z Z)<|sN<|ak Z<|ah<|sT<|bg Z ?_
 refine sP (fF Z Z (E6 _) λw _=>Ln w) ?_;refine sB Z<|sQ<|bg Z ?_
 refine sP (fF Z Z (uw _) λw _=>kindN w) ?_;refine sP (dq Z Z Z)<|sM Z<|iC Z ?_
 refine mJ (aF Z) (λw hw=>K.err w hw.is) ?_;refine eJ (fF Z Z (nc _) λw _=>y7 w) ?_;refine eJ (dp Z Z)<|sP (aS Z Z Z)<|sN<|ak Z<|ah<|sT<|bg Z<|sM Z<|cE (bR (vs:=[hnd 131,.pointer (some ⟨I,0,none⟩),.int .u64 150]) Z) (aR Z)<|sM Z ?_
 refine bV Z (JW e t I o) (aY bM bM) ?_;exact ae<|sB Z<|an<|aw [blk t 33 #[.int .i64 e]] rfl Z ⟨rfl,rfl⟩<|Ent.cons Ent.drop
theorem J4 (x:Int) (t:Nat) (o:Value):eh 61 [.iface 33 (.int .i64 x),.iface 127 (.pointer (some ⟨t,0,none⟩))] [blk t 125 #[o]] λv m=>v=.bool false/\m=[blk t 125 #[o]]:=by
 refine bz Tryz.func61 Z λE fr K=>ae<|sS<|sB Z<|sQ<|bg Z<|sP (dU Z Z)<|sN<|ak Z<|ah<|sT<|sQ<|bg Z ?_
 refine sP (dU Z Z)<|sN<|ak Z<|ah<|sT<|bg Z ?_
 refine sO (xo (v:=λb=>rv 127 b 150) Z Z (λw=>uB t w) λI=>?_);refine sO (cX (z:=.agg #[.pointer none,.pointer none,.int .u64 0]) Z λO=>?_);refine sO<|aZ Z (m:=3) (vs:=[hnd 127,.pointer (some ⟨I,0,none⟩),.int .u64 150]) Z Z Z Z fx (by simp[Value.cells]) ?_
 refine sN<|sS<|cE (bR (vs:=[hnd 127,.pointer (some ⟨I,0,none⟩),.int .u64 150]) Z) (aR Z) ?_
 refine sP (ju Z λw _=>Fq I w) ?_;refine sB Z<|sQ<|bg Z ?_
 refine sP (fF Z Z (uw _) λw _=>FM w) ?_;refine sP (dq Z Z Z)<|sM Z<|mJ (bR (vs:=[hnd 127,.pointer (some ⟨I,0,none⟩),.int .u64 150]) Z) (aR Z) ?_
 refine mJ (ju (args:=[rv 127 I 150]) (φ:=cR ⟨I,0,none⟩ (.pointer (some ⟨t,0,none⟩))) Z λw h=>CE I t w h) (ag Z) ?_;refine sP (aS Z Z Z)<|sN<|ak Z<|ah<|sT<|bg Z ?_
 refine sP (fF Z Z (E6 _) λw _=>FW w) ?_;refine sB Z<|sQ<|bg Z ?_
 refine sP (fF Z Z (uw _) λw _=>J9 w) ?_;refine sP (dq Z Z Z)<|sM Z<|iC Z ?_
 refine mJ (aF Z) (λw hw=>K.err w hw.is) ?_;refine eJ (fF Z Z (nc _) λw _=>qy w) ?_;refine eJ (dp Z Z)<|sP (aS Z Z Z)<|sN<|ak Z<|ah<|sT<|bg Z<|sM Z<|cE (bR (vs:=[hnd 127,.pointer (some ⟨I,0,none⟩),.int .u64 150]) Z) (aR Z)<|sM Z ?_
 refine bV Z (EO x t I o) (aY bM bM) ?_;exact ae<|sB Z<|an<|aw [blk t 125 #[o]] rfl Z ⟨rfl,rfl⟩<|Ent.cons Ent.drop
theorem yr {G:Env->Prop} (b:Nat) (e a:Value):dZ G 286 [.pointer (some ⟨b,0,none⟩)] [blk b 130 #[e,a]] λv m=>v=.iface 33 e/\m=[blk b 130 #[e,a]]:=by
 refine bz Tryz.func286 Z λE fr I=>?_;exact ae<|sS<|sB Z<|sS<|dS 0 Z Z<|aE Z Z Z Z<|sP (ed Z Z Z)<|sB Z<|an<|aw [_] rfl Z ⟨rfl,rfl⟩ aN
theorem y6 (e:Int):eh 116 [.iface 33 (.int .i64 e),.iface 33 (.int .i64 e),.bool true] [] λv m=>v=.bool true/\m=[]:=by
 refine bz Tryz.func116 Z λE fr I=>aB<|sS<|sB Z<|aj ?_
 refine aL (X:=Unit) (λ_=>[(0,.iface 33 (.int .i64 e)),(1,.iface 33 (.int .i64 e)),(2,.bool true)]) (λ_=>fr) (λ_=>True) (λ_=>0) () trivial cf aN ?_;rintro _ _;exact aj<|sQ<|bg Z<|sM Z<|iC Z<|iC Z<|eJ (sz (r:=true) Z Z Z Z Z Z cP)<|sP (aS Z Z Z)<|sN<|aO Z<|sS<|sB Z<|an<|aH<|aJ<|cu<|aJ<|aw [] rfl Z ⟨rfl,rfl⟩ aN
theorem y5 (b:Nat) (e:Int) (a:Value):eh 116 [.iface 125 (.pointer (some ⟨b,0,none⟩)),.iface 33 (.int .i64 e),.bool true] [blk b 130 #[.int .i64 e,a]] λv m=>v=.bool true/\m=[blk b 130 #[.int .i64 e,a]]:=by
 refine bz Tryz.func116 Z λE fr K=>ae<|sS<|sB Z<|aj ?_
 refine aL (X:=Bool) (λx=>[(0,bif x then .iface 33 (.int .i64 e) else .iface 125 (.pointer (some ⟨b,0,none⟩))),(1,.iface 33 (.int .i64 e)),(2,.bool true)]) (λ_=>blk b 130 #[.int .i64 e,a]::fr) (λ_=>True) (λx=>bif x then 0 else 1) false trivial cf aN ?_;rintro x _;refine aj<|sQ<|sQ ?_
 by_cases I:x=true
 ·
  subst I;exact sG<|sM Z<|sM Z<|iC Z<|iC Z<|eJ (sz (r:=true) Z Z Z Z Z Z cP)<|sP (aS Z Z Z)<|sN<|aO Z<|sS<|sB Z<|an<|aH<|aJ<|cu<|aJ<|aw [_] rfl Z ⟨rfl,rfl⟩ aN
 ·
  obtain rfl:x=false:=by simpa using I
  refine sG<|sM Z<|sM Z<|iC Z<|iC Z<|eJ (Ex Z Z Z Z)<|sP (aS Z Z Z)<|sN<|ak Z<|ah<|sT<|sQ<|bg Z<|sP (nM (z:=.nilIface) Z Z eP eP)<|sM Z<|bG Z Z<|bG Z Z ?_
  refine sA Z<|sB Z<|bg Z<|sM Z<|bQ Z<|bQ Z<|bQ Z<|sP (aS Z Z Z)<|sN<|ak Z<|ah<|sT<|bg Z ?_
  refine sN<|aj<|sS<|sP (Li Z Z eP)<|bG Z Z<|bG Z Z<|sN<|aO Z<|sS<|sB Z<|bg Z ?_
  refine sO<|fm Z Z Z (Ji _) Z K (yr b (.int .i64 e) a) aN ?_
  rintro v m ⟨rfl,rfl⟩;refine ae<|sB Z<|bg Z<|sP (dU Z Z)<|sN<|ak Z<|ah<|am<|am ?_
  exact aC true trivial cP cf aN
theorem oW (e:Int):eh 62 [.iface 33 (.int .i64 e),.iface 33 (.int .i64 e)] [] λv m=>v=.bool true/\m=[]:=by
 refine bz Tryz.func62 Z λE fr I=>aB<|sS<|sB Z<|sQ<|bg Z<|sP (dU Z Z)<|sM Z<|iC Z<|eJ (dU Z Z)<|sP (aS Z Z Z)<|sN<|ak Z<|ah<|sT ?_
 refine bg Z ?_;refine sP (ju Z λw _=>qX _ w) ?_;refine sP (fF Z Z (qu _) λw _=>qK w) ?_;refine sB Z<|bg Z<|sM Z<|sM Z ?_
 refine bV Z (y6 e) aN ?_;exact aB<|sB Z<|an<|aw [] rfl Z ⟨rfl,rfl⟩ aN
theorem He (b:Nat) (e:Int) (a:Value):eh 62 [.iface 125 (.pointer (some ⟨b,0,none⟩)),.iface 33 (.int .i64 e)] [blk b 130 #[.int .i64 e,a]] λv m=>v=.bool true/\m=[blk b 130 #[.int .i64 e,a]]:=by
 refine bz Tryz.func62 Z λE fr I=>ae<|sS<|sB Z<|sQ<|bg Z<|sP (dU Z Z)<|sM Z<|iC Z<|eJ (dU Z Z)<|sP (aS Z Z Z)<|sN<|ak Z<|ah<|sT ?_
 refine bg Z ?_;refine sP (ju Z λw _=>qX _ w) ?_;refine sP (fF Z Z (qu _) λw _=>qK w) ?_;refine sB Z<|bg Z<|sM Z<|sM Z ?_
 refine bV Z (y5 b e a) aN ?_;exact ae<|sB Z<|an<|aw [_] rfl Z ⟨rfl,rfl⟩ aN
theorem rU:eh 35 [.nilIface] [] λv m=>v=.tuple #[.int .i64 0,.int .i64 (-1)]/\m=[]:=by
 refine bz Tryz.func35 Z λE fr I=>aB<|sS<|sA Z<|sB Z<|sS<|sO (cX (z:=.pointer none) Z λK=>(sN (sS (sO (cX (z:=.int .i64 0) Z λO=>(sN (sQ (aj (sQ ?_)))))))))
 exact sG<|cG Z (jM Z Z)<|sB Z<|aO Z<|sS<|sA Z<|sB Z<|an<|aJ<|aH<|db [] rfl Z Z ⟨rfl,rfl⟩<|Ent.drop.trans Ent.drop
theorem Ak (e:Int):eh 35 [.iface 33 (.int .i64 e)] [] λv m=>v=.tuple #[.int .i64 e,.int .i64 (-1)]/\m=[]:=by
 refine bz Tryz.func35 Z λE fr O=>aB<|sS<|sA Z<|sB Z<|sS<|sO (cX (z:=.pointer none) Z λI=>(sN (sS (sO (cX (z:=.int .i64 0) Z λK=>(sN (sQ (aj (sQ ?_)))))))))
 refine sG<|cG Z (dU Z Z)<|sB Z<|ak Z<|bg Z<|sP (ed Z Z Z) ?_
 refine bV Z (J4 e I (.pointer none)) gfE1 ?_;refine ae<|sM Z<|bQ Z<|bQ Z<|bQ Z<|bQ Z<|bQ Z<|bQ Z<|bQ Z<|sP (aS Z Z Z)<|sB Z<|ak Z<|bg Z<|sP (ed Z Z Z) ?_
 refine bV Z (Iq e K (.int .i64 0)) gfE1 ?_;refine ae<|sM Z<|iC Z<|mJ (aF Z) (ag Z)<|eJ (ed Z Z Z) ?_
 refine iK Z Z Z<|cF Z (oW e) aN ?_
 rintro v m ⟨rfl,rfl⟩;exact aB<|sP (aS Z Z Z)<|sB Z<|aO Z<|sS<|aE Z Z Z Z<|sA Z<|sB Z<|an<|aJ<|aH<|db [] rfl Z Z ⟨rfl,rfl⟩<|Ent.drop.trans Ent.drop
theorem Ah (b:Nat) (e a:Int):eh 35 [.iface 125 (.pointer (some ⟨b,0,none⟩))] [blk b 130 #[.int .i64 e,.int .i64 a]] λv m=>v=.tuple #[.int .i64 e,.int .i64 a]/\m=[blk b 130 #[.int .i64 e,.int .i64 a]]:=by
 refine bz Tryz.func35 Z λE fr K=>ae<|sS<|sA Z<|sB Z<|sS<|sO (cX (z:=.pointer none) Z λI=>(sN (sS (sO (cX (z:=.int .i64 0) Z λO=>(sN (sQ (aj (sQ ?_)))))))))
 refine sG<|cG Z (dU Z Z)<|sB Z<|ak Z<|bg Z<|sP (ed Z Z Z) ?_
 refine bV Z (Ip ⟨b,0,none⟩ I (.pointer none)) gfE1 ?_;refine ae<|sM Z<|iC Z<|mJ (aF Z) (ag Z)<|eJ (cv Z)<|eJ (bL 0 Z)<|mJ (aF Z) (ag Z)<|eJ (ed Z Z Z) ?_
 refine iK Z Z Z<|cF Z (He b e (.int .i64 a)) gfE2 ?_
 rintro v m ⟨rfl,rfl⟩;refine ae<|sP (aS Z Z Z)<|sB Z<|aO Z<|sQ<|sZ Z<|iJ 0 Z (aF Z) (ag Z)<|dv 0 Z Z Z<|bZ Z (aF Z) (ag Z)<|bZ Z (aF Z) (ag Z)<|dv 1 Z Z Z<|bZ Z (aF Z) (ag Z)<|bF Z (aQ Z)<|bF Z (aQ Z)<|dE<|sT ?_
 exact an<|aJ<|aH<|db [_] rfl Z Z ⟨rfl,rfl⟩<|Ent.cons<|Ent.drop.trans Ent.drop
end Go.Y

namespace FK
structure Quiet (σ:Dsk):Prop where
 down:σ.down=false
 left:σ.left=-1
 full:σ.full=-1
 pend:σ.pend=[]
def Dsk.logs (σ:Dsk) (n:Nat) (s:ByteArray):Dsk:={σ with now:=ea σ.now ⟨2,bw n,s⟩,dur:=ea σ.dur ⟨2,bw n,s⟩}
def Dsk.rested (σ:Dsk):Dsk:={σ with left:=-1,full:=-1}
def Dsk.spent (σ:Dsk):Dsk:={σ with left:=-3,full:=-3}
theorem Quiet.logs {σ:Dsk} (h:Quiet σ) (n:Nat) (s:ByteArray):Quiet (σ.logs n s):=⟨h.down,h.left,h.full,h.pend⟩
theorem Quiet.rested {σ:Dsk} (h:Quiet σ):σ.rested=σ:=by
 obtain⟨a,b,c,d,e,f⟩:=σ;obtain⟨I,E,h3,K⟩:=h;simp only at E h3;subst E;subst h3
 rfl
theorem Quiet.add {σ:Dsk} (h:Quiet σ) {J:Jn} (E:J.broken=0) (s:ByteArray):J.add σ s=(J,(σ.logs J.n s).spent,0):=by
 obtain⟨a,b,c,d,e,f⟩:=σ;obtain⟨I,K,h3,O⟩:=h;obtain⟨n,t,T⟩:=J;simp only at I K h3 O E;subst I;subst K;subst h3;subst O;subst E;have e1:Go.IntKind.i64.wrap (-2)=-2:=by decide
 have e2:Go.IntKind.i64.wrap (-3)=-3:=by decide
 simp[Jn.add,Dsk.tell,Dsk.writes,Dsk.sync,e1,e2,Dsk.logs,Dsk.spent]
end FK
namespace Go.Y
open Go.Proofs
open Go Go.RowKit Go.SL
variable {G:Env->Prop}
abbrev eN (h d:Nat) (fp:Option Addr):HP:=blk h 69 #[aX d,.pointer fp]
abbrev cg (l E ke pa:Int):List Value:=[.int .i64 l,.int .i64 E,.int .i64 ke,.int .i64 pa]
abbrev Fa (l E ke pa:Int):Value:=.agg (cg l E ke pa).toArray
abbrev gD:Value:=Fa (-1) (-1) 0 0
section
variable {P:List (Nat×ByteArray)} {fp:Option Addr} {d:Nat} {σ:FK.Dsk}
theorem eB:dZ G 11 [] [] λv m=>v=gD/\m=[]:=by
 refine bz Tryz.func11 Z λE fr K=>aB<|sS<|sO (cX (z:=.agg #[.int .i64 0,.int .i64 0,.int .i64 0,.int .i64 0]) Z λI=>(sN (sS (sP (bT (ps:=[(0,.const (.int .i64 (-1))),(1,.const (.int .i64 (-1)))]) (vs:=[.int .i64 (-1),.int .i64 (-1)]) (cs:=(cg (-1) (-1) 0 0).toArray) Z Z Z Z Z) ?_))))
 refine sO<|aZ Z (m:=4) (vs:=cg (-1) (-1) 0 0) Z Z Z Z fx (by show 0+4<=4;omega) ?_
 exact aD I (cg (-1) (-1) 0 0).toArray Z<|sN<|an<|kO [] rfl (ce (vs:=cg (-1) (-1) 0 0) Z Z Z Z (aR Z)) ⟨rfl,rfl⟩ Ent.drop
theorem eO {h:Nat} (l I ke pa:Int):dZ G 26 [aX h,Fa l I ke pa] [eN h d fp,ar d σ] λv m=>v=.tuple #[]/\m=[eN h d fp,ar d {σ with left:=l,full:=I}]:=by
 refine bz Tryz.func26 Z λE fr K=>az ?_;refine cN bM λq=>bl ?_;refine al (l':=mR d q σ (eN h d fp::fr)) aN ?_;refine sS<|sO (cL Z Z λb3=>(sN (sZ Z (eI Z Z (bF Z (cv Z) (bF Z (bL 0 Z) (bZ Z (aF Z) (ag Z) (cJ Z Z (bF Z (cv Z) (bF Z (bL 0 Z) (bZ Z (aF Z) (ag Z) (bF Z (bL 0 Z) (bZ Z (aF Z) (ag Z) (bF Z (bL 1 Z) (bZ Z (aF Z) (ag Z) (bF Z (cv Z) (bF Z (bL 3 Z) ?_)))))))))))))))))
 refine cK 14 Z<|cp Z Z Z Z Z ii ?_
 refine dK [true,false,false,false] (aa (ag Z) ab)<|dr 15 Z (cv Z)<|bF Z (bL 4 Z) ?_
 refine cK 17 Z<|cp Z Z Z Z Z ii ?_
 refine dK [false] ab<|dE ?_
 refine aD d (gR q {σ with left:=l,full:=I}) Z ?_;refine bm [eN h d fp,ar d {σ with left:=l,full:=I}] rfl ⟨rfl,rfl⟩ ?_;refine Ent.trans ?_ ((cO (d:=d) q {σ with left:=l,full:=I} (r:=eN h d fp::fr)).trans gfE1);show Ent _ (blk d 88 (gR q {σ with left:=l,full:=I})::bI q.md q.P σ.dur::bI q.mn q.P σ.now::fd q.P::row 113 3 q.pv σ.pend.length (ix σ.pend)::eN h d fp::fr);exact ap
theorem fh {h:Nat} (l I ke pa:Int) (hd:σ.down=false):dZ G 28 [aX h,Fa l I ke pa] [eN h d fp,ar d σ] λv m=>v=.tuple #[]/\m=[eN h d fp,ar d σ.rested]:=by
 obtain⟨dur,now,pend,left,full,down⟩:=σ;simp only at hd;subst hd;refine bz Tryz.func28 Z λE fr K=>az ?_;refine cN bM λq=>bl ?_;refine al (l':=mR d q ⟨dur,now,pend,left,full,false⟩ (eN h d fp::fr)) aN ?_;refine sS<|sO (cL Z Z λb3=>(sN (sQ (sS (sM Z (dA Z (bX 0 Z (aE Z Z Z Z (dA Z (bX 5 Z (aE Z Z Z Z (sN (ak Z (ah (sT ?_)))))))))))))))
 refine sZ Z<|eI Z Z<|dv 0 Z Z Z<|bZ Z (aF Z) (ag Z)<|cJ Z Z<|dv 0 Z Z Z<|bZ Z (aF Z) (ag Z)<|dv 3 Z Z Z ?_
 refine cK 10 Z<|cp Z Z Z Z Z ii ?_
 refine dK [false,false] ab<|dr 11 Z (cv Z)<|bF Z (bL 4 Z) ?_
 refine cK 13 Z<|cp Z Z Z Z Z ii ?_
 refine dK [] ab<|dE<|aD d (gR q ⟨dur,now,pend,-1,-1,false⟩) Z<|bm [eN h d fp,ar d ⟨dur,now,pend,-1,-1,false⟩] rfl ⟨rfl,rfl⟩ ?_
 refine Ent.trans ?_ ((cO (d:=d) q ⟨dur,now,pend,-1,-1,false⟩ (r:=eN h d fp::fr)).trans gfE1);show Ent _ (blk d 88 (gR q ⟨dur,now,pend,-1,-1,false⟩)::bI q.md q.P dur::bI q.mn q.P now::fd q.P::row 113 3 q.pv pend.length (ix pend)::eN h d fp::fr);exact ap
theorem iU:eh 20 [.nilIface] [] λv m=>v=.int .i64 0/\m=[]:=by
 refine bz Tryz.func20 Z λE fr I=>aB<|sS<|sB Z<|bg Z ?_
 refine bV Z rU aN ?_;exact aB<|sM Z<|bG Z Z<|bG Z Z<|sA Z<|sB Z<|bg Z<|sB Z<|an<|aw [] rfl Z ⟨rfl,rfl⟩ aN
theorem wN (n:Int):eh 20 [.iface 33 (.int .i64 n)] [] λv m=>v=.int .i64 n/\m=[]:=by
 refine bz Tryz.func20 Z λE fr I=>aB<|sS<|sB Z<|bg Z ?_
 refine bV Z (Ak n) aN ?_;exact aB<|sM Z<|bG Z Z<|bG Z Z<|sA Z<|sB Z<|bg Z<|sB Z<|an<|aw [] rfl Z ⟨rfl,rfl⟩ aN
theorem mo (n:Int):eh 20 [dO n] [] λv m=>v=.int .i64 n/\m=[]:=by
 unfold dO
 split
 · subst n
   exact iU
 · exact wN n
theorem kM {α:Type} {x:α}:∀{l:List α} {j:Nat},l[j]?=some x->l.Perm (x::l.eraseIdx j)
 | [],_,h=>by simp at h
 | y::l,0,h=>by simp at h;subst h;exact List.Perm.refl _
 | y::l,j+1,h=>by
  have:=kM (l:=l) (j:=j) (by simpa using h);rw[List.eraseIdx_cons_succ];exact(List.Perm.cons y this).trans (List.Perm.swap x y _)
theorem Names.perm {M Y:List (ByteArray×Nat)} (h:M.Perm Y):∀{fs:FK.jZ},Names P M fs->∃E,Names P Y E/\E.Perm fs:=by
 induction h with
 | nil=>exact λh=>⟨_,h,List.Perm.refl _⟩
 | cons x _ ih=>
  intro fs h;cases h with
  | cons a t=>
   obtain⟨E,I,K⟩:=ih t;exact⟨_,.cons a I,List.Perm.cons _ K⟩
 | swap x y l=>
  intro fs h;cases h with
  | cons a t=>
   cases t with
   | cons b t=>exact⟨_,.cons b (.cons a t),List.Perm.swap _ _ _⟩
 | trans _ _ O T=>
  intro fs h;obtain⟨f1,I,K⟩:=O h;obtain⟨f2,h3,h4⟩:=T I;exact⟨f2,h3,h4.trans K⟩
theorem Names.keys {P:List (Nat×ByteArray)}:∀{M:List (ByteArray×Nat)} {fs:FK.jZ},Names P M fs->M.map (·.1)=fs.map (·.1)
 | _,_,.nil=>rfl
 | _,_,.cons _ t=>by simp only[List.map_cons,t.keys]
theorem G8 {V:Type} {m:List (ByteArray×V)} {a:ByteArray} (h:a∉m.map (·.1)) (v:V):FK.fS m a v=m++[(a,v)]:=by
 refine FK.ve ?_ v;unfold FK.dw;have:m.find? (·.1==a)=none:=by
  rw[List.find?_eq_none];intro x E I;have:=(MapKept.bytes_beq _ _).1 I;exact h (by rw[<-this];exact List.mem_map_of_mem (f:=(·.1)) E)
 rw[this]
 rfl
theorem Ce {md:Nat} {nv pv:Value} {l T:Int} {dn:Bool} {dur:FK.jZ} (hn:(dur.map (·.1)).Nodup):dZ G 52 [aX d] [blk d 88 #[.map (some md),nv,pv,.int .i64 l,.int .i64 T,.bool dn],bI md P dur,fd P] λv m=>v=.tuple #[]/\∃I,I.Perm dur/\m=[ar d ⟨dur,I,[],l,T,false⟩]:=by
 refine bz Tryz.func52 Z λE fr hE=>cD ?_;refine cN bM λM=>bl ?_;refine al (l':=HP.pure (Names P M dur)::cA bY md (ek M)::blk d 88 #[.map (some md),nv,pv,.int .i64 l,.int .i64 T,.bool dn]::fd P::fr) aN ?_;refine ec .head λhN=>?_;have f8:(M.map (·.1)).Nodup:=by rw[hN.keys];exact hn
 refine bg Z<|sO (jJ bY Z λO=>(dA Z (bX 1 Z ?_)))
 refine bK Z Z Z Z ii ?_;refine aD d #[.map (some md),.map (some O),pv,.int .i64 l,.int .i64 T,.bool dn] rfl<|sN<|sQ<|sS<|dS 0 Z Z<|aE Z Z Z Z<|sO (l6 (b:=md) (m:=ek M) Z Z Z dj λit=>(sN (aj ?_)))
 refine aL (X:=List (ByteArray×Nat)×Option (ByteArray×Value)×List (ByteArray×Nat)) (λ_=>[(12,.pointer (some ⟨it,0,none⟩)),(0,aX d)]) (λx=>dC bY it md (ek M) (ek x.1) x.2.1::cA bY O (ek x.2.2)::blk d 88 #[.map (some md),.map (some O),pv,.int .i64 l,.int .i64 T,.bool dn]::fd P::fr) (λx=>M.Perm (x.2.2++x.1)) (λx=>x.1.length) (M,none,[]) (List.Perm.refl _) cf (by show Ent _ (dC bY it md (ek M) (ek M) none::cA bY O []::blk d 88 #[.map (some md),.map (some O),pv,.int .i64 l,.int .i64 T,.bool dn]::fd P::fr);exact ap) ?_;rintro⟨left,f7,done⟩ K;replace K:M.Perm (done++left):=K;refine al (l':=dC bY it md (ek M) (ek left) f7::cA bY O (ek done)::blk d 88 #[.map (some md),.map (some O),pv,.int .i64 l,.int .i64 T,.bool dn]::fd P::fr) aN ?_;refine sQ ?_
 by_cases HL:left=[]
 ·
  subst HL;refine sG ?_;refine sO<|jt Z Z .head (λ_=>?_) (λj q Y=>by simp at Y)
  refine bG Z Z<|sN<|sQ<|ak Z<|aK<|av<|au<|ao<|sT<|sQ ?_
  rw[List.append_nil] at K;obtain⟨I,d8,d9⟩:=Names.perm K hN;refine sG<|dS 2 Z Z ?_
  refine bK Z Z Z Z ii ?_;refine sN<|sG<|dS 5 Z Z ?_
  refine bK Z Z Z Z ii ?_;refine aq<|aD d (gR ⟨md,O,.slice none 0 0,P⟩ ⟨dur,I,[],l,T,false⟩) Z<|bm [ar d ⟨dur,I,[],l,T,false⟩] rfl ⟨rfl,I,d9,rfl⟩ ?_
  refine Ent.trans ?_<|cO ⟨md,O,.slice none 0 0,P⟩ ⟨dur,I,[],l,T,false⟩
  refine(Ent.sel (p:=dC bY it md (ek M) (ek []) none) bM).trans (Ent.ranged.trans ((cW hN).trans ?_));refine(Ent.sel (p:=cA bY O (ek done)) dj).trans ((cW d8).trans ?_);refine(Ent.row0 (e:=113) (size:=3)).trans ?_;show Ent _ (blk d 88 (gR ⟨md,O,.slice none 0 0,P⟩ ⟨dur,I,[],l,T,false⟩)::bI md P dur::bI O P I::fd P::row 113 3 (.slice none 0 0) 0 []::fr);exact ap
 ·
  refine sG ?_;refine sO<|jt Z Z .head (λh=>absurd (List.map_eq_nil_iff.1 h) HL) λj q Y=>?_
  obtain⟨x,hx,rfl⟩:∃x,left[j]?=some x/\(x.1,aX x.2)=q:=by
   rw[List.getElem?_map] at Y;cases hl:left[j]? with
   | none=>rw[hl] at Y;cases Y
   | some x=>rw[hl] at Y;injection Y with Y;exact⟨x,rfl,Y⟩
  have f9:=(gfGet.1 hx).1;have mt:=kM hx;have d6:M.Perm ((done++[x])++left.eraseIdx j):=by
   rw[List.append_assoc];exact K.trans<|List.Perm.append_left done mt
  have d7:x.1∉done.map (·.1):=by
   have:=(d6.map (·.1)).nodup_iff.1 f8;rw[List.map_append,List.map_append,List.append_assoc,List.nodup_append] at this;intro hm;exact this.2.2 _ hm _ cP Z
  rw[<-ik];refine bG Z Z<|sN<|sQ<|aO Z<|ah<|sT<|aj<|sS<|cE (lJ (p:=(x.1,aX x.2)) Z) (kX .head)<|bG Z Z<|bG Z Z<|sA Z<|sB Z<|sG<|sM Z<|dA Z ?_
  refine bX 1 Z<|aE Z Z Z Z<|sM Z<|sM Z<|sO<|vP (a:=x.1) (v:=aX x.2) Z Z kC Z Z Z bM ?_
  rw[xE,G8 d7];refine aq<|am ?_
  exact aC (left.eraseIdx j,some (x.1,aX x.2),done++[x]) d6 (by show(left.eraseIdx j).length<left.length;rw[List.length_eraseIdx_of_lt f9];omega) cf (by show Ent _ (dC bY it md (ek M) (ek (left.eraseIdx j)) (some (x.1,aX x.2))::cA bY O (ek (done++[x]))::blk d 88 #[.map (some md),.map (some O),pv,.int .i64 l,.int .i64 T,.bool dn]::fd P::fr);exact ap)
theorem wP:dZ G 31 [] [] λv m=>∃h d,v=aX h/\m=[eN h d none,ar d ⟨[],[],[],-1,-1,false⟩]:=by
 refine bz Tryz.func31 Z λE fr hE=>aB<|sS<|sB Z<|sS<|sO (jJ bY Z λb2=>(sP (bT (ps:=[(0,.tmp 2),(3,.const (.int .i64 (-1))),(4,.const (.int .i64 (-1)))]) (vs:=[.map (some b2),.int .i64 (-1),.int .i64 (-1)]) (cs:=#[.map (some b2),.map none,.slice none 0 0,.int .i64 (-1),.int .i64 (-1),.bool false]) Z Z Z Z Z) (sO (cL Z Z λI=>(sP (bT (ps:=[(0,.tmp 4)]) (vs:=[aX I]) (cs:=#[aX I,.pointer none]) Z Z Z Z Z) (sO (cL Z Z λT=>(sB Z (sS (sM Z (dA Z ?_)))))))))))
 refine bX 0 Z<|aE Z Z Z Z ?_
 refine ch Z (Ce (md:=b2) (P:=[]) (dur:=[]) cP) ((aY bM bM).trans (Ent.cons ((cW (M:=[]) .nil).trans (Ent.cons (Ent.all (m:=[])))))) ?_;rintro v m ⟨rfl,K,O,rfl⟩;refine ae<|sN<|bg Z<|sB Z<|an ?_
 have Y:K=[]:=List.Perm.eq_nil O;subst Y;exact aw [eN T I none,ar I ⟨[],[],[],-1,-1,false⟩] rfl Z ⟨T,I,rfl,rfl⟩ gfE1
end
end Go.Y

namespace Go.SL
open Go.RowKit
section
variable {ts:List (Nat×Value)} {K:Act->World->Prop} {D:List Deferred} {fr:List HP}
theorem jK {E:Env} {n:Nat} {p0 p1 I O T Y:HP} (h:At E n D ts (p0::p1::I::O::T::Y::fr) K):At E n D ts ([p0,p1,I,O,T,Y]++fr) K:=h
theorem iV {E:Env} {n:Nat} {p0 p1 I O T Y p6:HP} (h:At E n D ts (p0::p1::I::O::T::Y::p6::fr) K):At E n D ts ([p0,p1,I,O,T,Y,p6]++fr) K:=h
end
end Go.SL
namespace Go.Y
open Go.Proofs Go.RowKit Go.SL
abbrev bN (h d f:Nat):HP:=eN h d (some ⟨f,0,none⟩)
abbrev cd (h f e j d:Nat) (p:EA) (S:FK.En) (J:FK.Jn) (σ:FK.Dsk):List HP:=bN h d f::dg f e j d p S J σ
abbrev cC (σ:FK.Dsk) (J:FK.Jn) (op n:Nat):FK.Dsk:=σ.logs J.n (dN (FK.frame (FK.bW op n)))
section
variable {σ:FK.Dsk} {Q:Int->FK.En->FK.Jn->FK.Dsk->Prop} {S:FK.En} {J:FK.Jn} {d e f h j n:Nat} {p:EA} {R:FK.Rn} {P:FK.Pl}
theorem quietE (h:FK.Quiet σ):({σ with left:=-1,full:=-1}:FK.Dsk)=σ:=h.rested
theorem we (h:FK.Quiet σ):σ.spent.rested=σ:=h.rested
theorem ld (O:FK.Quiet σ) (Y:S.Lx=[]):eh 22 [aX h,gD] (cd h f e j d p S J σ) λv m=>v=.tuple #[jR 0 0 0 0,.bool false,.int .i64 0]/\m=cd h f e j d p S J σ:=by
 refine bz Tryz.func22 Z λE fr hE=>bH<|sS<|sO (cL Z Z λb3=>(sO (cX (z:=.agg #[.int .u64 0,.int .i64 0,.int .i64 0,.int .u64 0]) Z λI=>(sA Z (sB Z (sQ (sS (sM Z (dA Z (bX 1 Z (aE Z Z Z Z (sP (ez Z Z Z) (sN (ak Z ?_))))))))))))))
 refine ah<|sT<|bg Z<|cE (bR (vs:=cg (-1) (-1) 0 0) Z) (aR Z) ?_
 refine bV Z (eO (-1) (-1) 0 0) (aY dj tY) ?_;refine az ?_;rw[quietE O];refine al (l':=dT f e j::aG e p S::aM j d J::ar d σ::bN h d f::blk I 78 (bS 0 0 0 0).toArray::blk b3 49 (cg (-1) (-1) 0 0).toArray::fr) (by show Ent (_::_::blk I 78 (bS 0 0 0 0).toArray::blk b3 49 (cg (-1) (-1) 0 0).toArray::_) _;exact ap) ?_;refine sN<|sS<|dS 1 Z Z<|aE Z Z Z Z ?_
 refine bV Z (zj Y) aN ?_;refine cc<|sM Z<|bG Z Z<|bG Z Z<|bG Z Z<|sO (cX (z:=.agg #[.int .u64 0,.int .i64 0,.int .i64 0,.int .u64 0]) Z λT=>?_)
 refine sO<|aZ Z (m:=4) (vs:=bS 0 0 0 0) Z Z Z Z fx (by show 0+4<=4;omega) ?_
 refine aD T (bS 0 0 0 0).toArray Z<|sA Z<|sB Z<|sQ ?_
 refine al (l':=bN h d f::ar d σ::dT f e j::aG e p S::aM j d J::blk T 78 (bS 0 0 0 0).toArray::blk I 78 (bS 0 0 0 0).toArray::blk b3 49 (cg (-1) (-1) 0 0).toArray::fr) ap ?_;refine sG<|sM Z<|cE (bR (vs:=cg (-1) (-1) 0 0) Z) (aR Z) ?_
 refine bV Z (fh (-1) (-1) 0 0 O.down) aN ?_;refine az ?_;rw[O.rested];refine sN<|sQ<|sZ Z<|iJ 0 Z (bR (vs:=bS 0 0 0 0) Z) (aR Z)<|cJ Z Z<|cJ Z Z ?_
 refine cK 3 Z<|cF Z iU aN ?_
 rintro v m ⟨rfl,rfl⟩;refine aB<|dK [true] (aa (aR Z) ab) ?_
 refine cK 4 Z<|aZ Z (m:=4) (vs:=bS 0 0 0 0) Z Z Z Z fx (by show 0+4<=4;omega) ?_
 refine dK [false] ab<|dr 5 Z (aQ Z)<|bF Z (aQ Z)<|dE<|sT<|an<|aD I (bS 0 0 0 0).toArray Z<|hO (cd h f e j d p S J σ) Z (ce (vs:=bS 0 0 0 0) Z Z Z Z (aR Z)) (da Z) (da Z) ⟨rfl,rfl⟩ ?_
 show Ent _ (bN h d f::dT f e j::aG e p S::aM j d J::ar d σ::fr);exact ap
theorem i6 (hS:FK.Ok S) (hJ:J.n<1000000) (hb:J.broken=0) (hr:Roomy σ) (Y:FK.Quiet σ) {id k:Nat} {q:List FK.Pl} {s:FK.Sp} {nd:FK.Node} (hq:S.Lx=⟨id,(k:Int),0⟩::q) (hR:S.getR id=some R) (hs:R.Lv[k]?=some s) (hn:R.fl.Lw[k]?=some nd) (I:S.sets+1<9223372036854775807) (O:S.Ls<9223372036854775807):eh 22 [aX h,gD] (cd h f e j d p S J σ) λv m=>v=.tuple #[jR id k (s.Lu+1) (S.Ls+1),.bool true,.int .i64 0]/\m=cd h f e j d p (S.hand ⟨id,(k:Int),0⟩ q R s nd) J (cC σ J 2 0):=by
 have T:=Y.add hb (dN (FK.frame (FK.bW 2 0)));refine bz Tryz.func22 Z λE fr hE=>bH<|sS<|sO (cL Z Z λb3=>(sO (cX (z:=.agg #[.int .u64 0,.int .i64 0,.int .i64 0,.int .u64 0]) Z λb4=>(sA Z (sB Z (sQ (sS (sM Z (dA Z (bX 1 Z (aE Z Z Z Z (sP (ez Z Z Z) (sN (ak Z ?_))))))))))))))
 refine ah<|sT<|bg Z<|cE (bR (vs:=cg (-1) (-1) 0 0) Z) (aR Z) ?_
 refine bV Z (eO (-1) (-1) 0 0) (aY dj tY) ?_;refine az ?_;rw[quietE Y];refine al (l':=dT f e j::aG e p S::aM j d J::ar d σ::bN h d f::blk b4 78 (bS 0 0 0 0).toArray::blk b3 49 (cg (-1) (-1) 0 0).toArray::fr) (by show Ent (_::_::blk b4 78 (bS 0 0 0 0).toArray::blk b3 49 (cg (-1) (-1) 0 0).toArray::_) _;exact ap) ?_;refine sN<|sS<|dS 1 Z Z<|aE Z Z Z Z ?_
 refine ch Z (zi hS hJ hr hq hR hs hn I O) aN ?_;rintro v m hv;obtain⟨rfl,rfl⟩:v=.tuple #[jR id k (s.Lu+1) (S.Ls+1),.bool true,.nilIface]/\m=dg f e j d p (S.hand ⟨id,(k:Int),0⟩ q R s nd) J (cC σ J 2 0).spent:=by
  unfold pd at hv;rw[T] at hv;rcases hv with⟨_,h1,h2⟩|⟨h1,_⟩
  · exact⟨h1,h2⟩
  · exact absurd Z h1
 refine cc<|sM Z<|bG Z Z<|bG Z Z<|bG Z Z<|sO (cX (z:=.agg #[.int .u64 0,.int .i64 0,.int .i64 0,.int .u64 0]) Z λb7=>?_)
 refine sO<|aZ Z (m:=4) (vs:=bS id k (s.Lu+1) (S.Ls+1)) Z Z Z Z fx (by show 0+4<=4;omega) ?_
 refine aD b7 (bS id k (s.Lu+1) (S.Ls+1)).toArray Z<|sA Z<|sB Z<|sQ ?_
 refine al (l':=bN h d f::ar d (cC σ J 2 0).spent::dT f e j::aG e p (S.hand ⟨id,(k:Int),0⟩ q R s nd)::aM j d J::blk b7 78 (bS id k (s.Lu+1) (S.Ls+1)).toArray::blk b4 78 (bS 0 0 0 0).toArray::blk b3 49 (cg (-1) (-1) 0 0).toArray::fr) ap ?_;refine sG<|sM Z<|cE (bR (vs:=cg (-1) (-1) 0 0) Z) (aR Z) ?_
 refine bV Z (fh (σ:=(cC σ J 2 0).spent) (-1) (-1) 0 0 Y.down) aN ?_;refine az ?_;rw[we (Y.logs _ _)];refine sN<|sQ<|sZ Z<|iJ 0 Z (bR (vs:=bS id k (s.Lu+1) (S.Ls+1)) Z) (aR Z)<|cJ Z Z<|cJ Z Z ?_
 refine cK 3 Z<|cF Z iU aN ?_
 rintro v m ⟨rfl,rfl⟩;refine aB<|dK [true] (aa (aR Z) ab) ?_
 refine cK 4 Z<|aZ Z (m:=4) (vs:=bS id k (s.Lu+1) (S.Ls+1)) Z Z Z Z fx (by show 0+4<=4;omega) ?_
 refine dK [false] ab<|dr 5 Z (aQ Z)<|bF Z (aQ Z)<|dE<|sT<|an<|aD b4 (bS id k (s.Lu+1) (S.Ls+1)).toArray Z<|hO (cd h f e j d p (S.hand ⟨id,(k:Int),0⟩ q R s nd) J (cC σ J 2 0)) Z (ce (vs:=bS id k (s.Lu+1) (S.Ls+1)) Z Z Z Z (aR Z)) (da Z) (da Z) ⟨rfl,rfl⟩ ?_
 show Ent _ (bN h d f::dT f e j::aG e p (S.hand ⟨id,(k:Int),0⟩ q R s nd)::aM j d J::ar d (cC σ J 2 0)::fr);exact ap
theorem vl (hQ:FK.Quiet σ)
 (hC:eh 41 [aX f,aV n] (dg f e j d p S J σ) λv m=>∃c U O I,v=dO c/\I.down=false/\Q c U O I/\m=dg f e j d p U O I):eh 23 [aX h,.int .i64 4,aV n,gD] (cd h f e j d p S J σ) λv m=>∃c U O I,v=.int .i64 c/\Q c U O I/\m=cd h f e j d p U O I.rested:=by
 refine bz Tryz.func23 Z λE fr hE=>bH<|sS<|sO (cL Z Z λT=>(sB Z (sQ (sS (sM Z (dA Z (bX 1 Z (aE Z Z Z Z (sP (ez Z Z Z) (sN (ak Z (ah (sT ?_)))))))))))))
 refine bg Z<|cE (bR (vs:=cg (-1) (-1) 0 0) Z) (aR Z) ?_
 refine bV Z (eO (-1) (-1) 0 0) (aY bM lp) ?_;refine az ?_;rw[quietE hQ];refine al (l':=dT f e j::aG e p S::aM j d J::ar d σ::bN h d f::blk T 49 (cg (-1) (-1) 0 0).toArray::fr) (by show Ent (_::_::blk T 49 (cg (-1) (-1) 0 0).toArray::_) _;exact ap) ?_;refine sN<|sS<|sB Z<|sQ<|bg Z<|sN<|aj<|sS<|sP (bC Z Z Z)<|sB Z ?_
 refine ak Z<|sS<|sP (bC Z Z Z)<|sB Z<|aO Z<|sG<|dS 1 Z Z<|aE Z Z Z Z<|sM Z ?_
 refine ch Z hC aN ?_;rintro v m ⟨c,U,O,I,rfl,Y,d6,rfl⟩;refine cc<|sA Z<|aq<|am<|sT<|sQ ?_
 refine al (l':=bN h d f::ar d I::dT f e j::aG e p U::aM j d O::blk T 49 (cg (-1) (-1) 0 0).toArray::fr) ap ?_;refine sG<|sM Z<|cE (bR (vs:=cg (-1) (-1) 0 0) Z) (aR Z) ?_
 refine bV Z (fh (-1) (-1) 0 0 Y) aN ?_;refine az<|sN<|bg Z ?_
 refine bV Z (mo c) aN ?_;refine aB<|sB Z<|an<|aw (cd h f e j d p U O I.rested) Z Z ⟨c,U,O,I,rfl,d6,rfl⟩ ?_
 show Ent _ (bN h d f::dT f e j::aG e p U::aM j d O::ar d I.rested::fr);exact ap
theorem vk (hQ:FK.Quiet σ)
 (hC:eh 42 [aX f,aV n] (dg f e j d p S J σ) λv m=>∃c U O I,v=dO c/\I.down=false/\Q c U O I/\m=dg f e j d p U O I):eh 23 [aX h,.int .i64 5,aV n,gD] (cd h f e j d p S J σ) λv m=>∃c U O I,v=.int .i64 c/\Q c U O I/\m=cd h f e j d p U O I.rested:=by
 refine bz Tryz.func23 Z λE fr hE=>bH<|sS<|sO (cL Z Z λT=>(sB Z (sQ (sS (sM Z (dA Z (bX 1 Z (aE Z Z Z Z (sP (ez Z Z Z) (sN (ak Z (ah (sT ?_)))))))))))))
 refine bg Z<|cE (bR (vs:=cg (-1) (-1) 0 0) Z) (aR Z) ?_
 refine bV Z (eO (-1) (-1) 0 0) (aY bM lp) ?_;refine az ?_;rw[quietE hQ];refine al (l':=dT f e j::aG e p S::aM j d J::ar d σ::bN h d f::blk T 49 (cg (-1) (-1) 0 0).toArray::fr) (by show Ent (_::_::blk T 49 (cg (-1) (-1) 0 0).toArray::_) _;exact ap) ?_;refine sN<|sS<|sB Z<|sQ<|bg Z<|sN<|aj<|sS<|sP (bC Z Z Z)<|sB Z ?_
 refine ak Z<|sS<|sP (bC Z Z Z)<|sB Z<|ak Z<|sS<|sP (bC Z Z Z)<|sB Z<|aO Z<|sG<|dS 1 Z Z<|aE Z Z Z Z ?_
 refine sM Z ?_;refine ch Z hC aN ?_;rintro v m ⟨c,U,O,I,rfl,Y,d6,rfl⟩;refine cc<|sA Z<|aq<|am<|sT<|sQ ?_
 refine al (l':=bN h d f::ar d I::dT f e j::aG e p U::aM j d O::blk T 49 (cg (-1) (-1) 0 0).toArray::fr) ap ?_;refine sG<|sM Z<|cE (bR (vs:=cg (-1) (-1) 0 0) Z) (aR Z) ?_
 refine bV Z (fh (-1) (-1) 0 0 Y) aN ?_;refine az<|sN<|bg Z ?_
 refine bV Z (mo c) aN ?_;refine aB<|sB Z<|an<|aw (cd h f e j d p U O I.rested) Z Z ⟨c,U,O,I,rfl,d6,rfl⟩ ?_
 show Ent _ (bN h d f::dT f e j::aG e p U::aM j d O::ar d I.rested::fr);exact ap
theorem Ek (hQ:FK.Quiet σ)
 (hC:eh 44 [aX f,aV n] (dg f e j d p S J σ) λv m=>∃c U O I,v=dO c/\I.down=false/\Q c U O I/\m=dg f e j d p U O I):eh 23 [aX h,.int .i64 7,aV n,gD] (cd h f e j d p S J σ) λv m=>∃c U O I,v=.int .i64 c/\Q c U O I/\m=cd h f e j d p U O I.rested:=by
 refine bz Tryz.func23 Z λE fr hE=>bH<|sS<|sO (cL Z Z λT=>(sB Z (sQ (sS (sM Z (dA Z (bX 1 Z (aE Z Z Z Z (sP (ez Z Z Z) (sN (ak Z (ah (sT ?_)))))))))))))
 refine bg Z<|cE (bR (vs:=cg (-1) (-1) 0 0) Z) (aR Z) ?_
 refine bV Z (eO (-1) (-1) 0 0) (aY bM lp) ?_;refine az ?_;rw[quietE hQ];refine al (l':=dT f e j::aG e p S::aM j d J::ar d σ::bN h d f::blk T 49 (cg (-1) (-1) 0 0).toArray::fr) (by show Ent (_::_::blk T 49 (cg (-1) (-1) 0 0).toArray::_) _;exact ap) ?_;refine sN<|sS<|sB Z<|sQ<|bg Z<|sN<|aj<|sS<|sP (bC Z Z Z)<|sB Z ?_
 refine ak Z<|sS<|sP (bC Z Z Z)<|sB Z<|ak Z<|sS<|sP (bC Z Z Z)<|sB Z<|ak Z<|sS<|sP (bC Z Z Z)<|sA Z<|aq ?_
 refine sT<|ak Z<|sS<|sP (bC Z Z Z)<|sB Z<|aO Z<|sG<|dS 1 Z Z<|aE Z Z Z Z<|sM Z ?_
 refine ch Z hC aN ?_;rintro v m ⟨c,U,O,I,rfl,Y,d6,rfl⟩;refine cc<|sA Z<|aq<|am<|sT<|sQ ?_
 refine al (l':=bN h d f::ar d I::dT f e j::aG e p U::aM j d O::blk T 49 (cg (-1) (-1) 0 0).toArray::fr) ap ?_;refine sG<|sM Z<|cE (bR (vs:=cg (-1) (-1) 0 0) Z) (aR Z) ?_
 refine bV Z (fh (-1) (-1) 0 0 Y) aN ?_;refine az<|sN<|bg Z ?_
 refine bV Z (mo c) aN ?_;refine aB<|sB Z<|an<|aw (cd h f e j d p U O I.rested) Z Z ⟨c,U,O,I,rfl,d6,rfl⟩ ?_
 show Ent _ (bN h d f::dT f e j::aG e p U::aM j d O::ar d I.rested::fr);exact ap
theorem CallPost.well {op:Nat} {Q:FK.En->Prop} (E:FK.Quiet σ) (T:J.broken=0) {v:Value} {m:List HP} (h:CallPost f e j d p S J σ op n Q v m):∃(c:Int) (U:FK.En) (O:FK.Jn) (I:FK.Dsk),v=dO c/\I.down=false/\(c=0/\Q U/\O=J/\I.rested=cC σ J op n)/\m=dg f e j d p U O I:=by
 unfold CallPost at h;rw[E.add T] at h;obtain⟨rfl,U,Y,_,rfl⟩:=h;exact⟨0,U,J,(cC σ J op n).spent,rfl,(show(cC σ J op n).spent.down=false from E.down),⟨rfl,Y Z,rfl,we (E.logs _ _)⟩,rfl⟩
theorem kT {t:Nat} (Y:FK.Ok S) (hn:t<18446744073709551616) (hJ:J.n<1000000) (hb:J.broken=0) (hr:Roomy σ) (I:FK.Quiet σ) (ht:(S.Ly.find? (·.1==t)).map (·.2)=some P) (E:S.ends<9223372036854775807):eh 23 [aX h,.int .i64 4,aV t,gD] (cd h f e j d p S J σ) λv m=>v=.int .i64 0/\m=cd h f e j d p (S.complete t) J (cC σ J 4 t):=by
 refine(vl (Q:=λc U O T=>c=0/\U=S.complete t/\O=J/\T.rested=cC σ J 4 t) I ((qS Y hn hJ hr ht E).mono λv m hv=>⟨m,hv.well I hb,aN⟩)).mono ?_;rintro v m ⟨c,U,O,T,rfl,⟨rfl,rfl,rfl,h4⟩,rfl⟩;refine⟨_,⟨rfl,rfl⟩,?_⟩;rw[h4];exact aN
theorem tF {t:Nat} (hS:FK.Ok S) (hn:t<18446744073709551616) (hJ:J.n<1000000) (hb:J.broken=0) (hr:Roomy σ) (O:FK.Quiet σ) (ht:(S.Ly.find? (·.1==t)).map (·.2)=some P) (E:S.sets+1<9223372036854775807) (I:S.ends<9223372036854775807):eh 23 [aX h,.int .i64 5,aV t,gD] (cd h f e j d p S J σ) λv m=>v=.int .i64 0/\m=cd h f e j d p (S.fail t) J (cC σ J 5 t):=by
 refine(vk (Q:=λc U T Y=>c=0/\U=S.fail t/\T=J/\Y.rested=cC σ J 5 t) O ((zo hS hn hJ hr ht E I).mono λv m hv=>⟨m,hv.well O hb,aN⟩)).mono ?_;rintro v m ⟨c,U,T,Y,rfl,⟨rfl,rfl,rfl,h4⟩,rfl⟩;refine⟨_,⟨rfl,rfl⟩,?_⟩;rw[h4];exact aN
theorem tE (hS:FK.Ok S) (hn:n<18446744073709551616) (hJ:J.n<1000000) (hb:J.broken=0) (hr:Roomy σ) (O:FK.Quiet σ) (E:S.sets<=4611686018427387904) (I:S.ends<=4611686018427387904):eh 23 [aX h,.int .i64 7,aV n,gD] (cd h f e j d p S J σ) λv m=>v=.int .i64 0/\∃U,FK.Ticks (S.later n) S U/\m=cd h f e j d p U J (cC σ J 7 n):=by
 refine(Ek (Q:=λc U T Y=>c=0/\FK.Ticks (S.later n) S U/\T=J/\Y.rested=cC σ J 7 n) O ((Bw hS hn hJ hr E I).mono λv m hv=>⟨m,hv.well O hb,aN⟩)).mono ?_;rintro v m ⟨c,U,T,Y,rfl,⟨rfl,h2,rfl,h4⟩,rfl⟩;refine⟨_,⟨rfl,U,h2,rfl⟩,?_⟩;rw[h4];exact aN
theorem gA {id:Nat} (hS:FK.Ok S) (hR:S.getR id=some R):eh 6 [aX h,aV id] (cd h f e j d p S J σ) λv m=>∃I O T Y,v=.tuple #[.agg (dh id R.state (.slice I R.Lv.length O) (.slice T R.Lv.length Y)).toArray,.int .i64 0]/\m=aU (.slice I R.Lv.length O) (R.Lv.map (·.state))::aU (.slice T R.Lv.length Y) (R.Lv.map (·.Lu))::cd h f e j d p S J σ:=by
 refine bz Tryz.func6 Z λE fr hE=>bH<|sS<|sO (cX (z:=.agg #[.int .u64 0,.int .i64 0,.slice none 0 0,.slice none 0 0]) Z λb4=>(sB Z (sQ (sS (sM Z (dA Z (bX 1 Z (aE Z Z Z Z (sP (ez Z Z Z) (sN (ak Z (ah (sT ?_)))))))))))))
 refine sQ ?_;refine al (l':=dT f e j::aG e p S::aM j d J::ar d σ::bN h d f::blk b4 32 (dh 0 0 (.slice none 0 0) (.slice none 0 0)).toArray::fr) (by show Ent (blk b4 32 (dh 0 0 (.slice none 0 0) (.slice none 0 0)).toArray::_) _;exact ap) ?_;refine sG<|dS 1 Z Z<|aE Z Z Z Z<|sM Z ?_
 refine ch Z (wV hS hR) aN ?_;rintro v m ⟨I,O,T,Y,rfl,rfl⟩;refine jK<|sM Z<|bG Z Z<|bG Z Z<|sO (cX (z:=.agg #[.int .u64 0,.int .i64 0,.slice none 0 0,.slice none 0 0]) Z λb6=>?_)
 refine sO<|aZ Z (m:=4) (vs:=dh id R.state (.slice I R.Lv.length O) (.slice T R.Lv.length Y)) Z Z Z Z fx (by show 0+4<=4;omega) ?_
 refine aD b6 (dh id R.state (.slice I R.Lv.length O) (.slice T R.Lv.length Y)).toArray Z<|sB Z<|sQ<|sZ Z<|iJ 0 Z (bR (vs:=dh id R.state (.slice I R.Lv.length O) (.slice T R.Lv.length Y)) Z) (aR Z)<|cJ Z Z ?_
 refine cK 2 Z<|cF Z iU aN ?_
 rintro v m ⟨rfl,rfl⟩;refine aB<|dK [true] (aa (aR Z) ab) ?_
 refine cK 3 Z<|aZ Z (m:=4) (vs:=dh id R.state (.slice I R.Lv.length O) (.slice T R.Lv.length Y)) Z Z Z Z fx (by show 0+4<=4;omega) ?_
 refine dK [false] ab<|dr 4 Z (aQ Z)<|dE<|sT<|an<|aD b4 (dh id R.state (.slice I R.Lv.length O) (.slice T R.Lv.length Y)).toArray Z ?_
 refine eb (aU (.slice I R.Lv.length O) (R.Lv.map (·.state))::aU (.slice T R.Lv.length Y) (R.Lv.map (·.Lu))::cd h f e j d p S J σ) Z (ce (vs:=dh id R.state (.slice I R.Lv.length O) (.slice T R.Lv.length Y)) Z Z Z Z (aR Z)) (da Z) ⟨I,O,T,Y,rfl,rfl⟩ ?_;show Ent _ (aU _ _::aU _ _::bN h d f::dT f e j::aG e p S::aM j d J::ar d σ::fr);exact ap
end
end Go.Y

namespace Go.SL
open Go.RowKit
section
variable {P:Program} {G:Env->Prop}
theorem DoesD.plain {f:FuncId} {I:Func} {c:Code} {args:List Value} {u:FrameMode} {pre:List HP} {R:List HP->Prop} (hf:P.funcs[f]?=some I) (hb:I.body=some c) (hn:Nat.ble args.length I.ntmps=true)
 (h:∀E fr,G E->At E I.ntmps [] (fH 0 args) (pre++fr) (c.wp P (nV P I E fr λv m=>v=.tuple #[]/\R m))):DoesD P G f args.toArray u u pre R:=by
 intro E w fr hE hw;refine callsD_of_wpS hf hb λc₀ cs hc=>?_;have T:Fits I.ntmps [] (fH 0 args) {tmps:=args.toArray++Array.replicate (I.ntmps-args.toArray.size) undef,defers:=[]}:=by
  refine⟨?_,rfl,?_⟩
  · have:=Nat.le_of_ble_eq_true hn
    simp;omega
  · intro i v hi
    obtain⟨_,K⟩:=fJ args 0 i v hi;rw[Nat.sub_zero] at K;have Y:i<args.length:=(gfGet.1 K).1;simp[Array.getElem?_append,Y,(gfGet.1 K).2]
 have hk:=h E fr hE _ w T hw;refine wpS_of_wp<|Code.wp_mono ?_ hk
 intro e a w' O;cases e with
 | normal=>exact let⟨h1,v,K,v',m,h3,⟨h4,h5⟩,h6⟩:=O;⟨h1,u,by cases c₀;simp_all,v,K,by rw[h3,h4],rfl,m,h5,h6⟩
 | ret=>exact let⟨h1,v,K,v',m,h3,⟨h4,h5⟩,h6⟩:=O;⟨h1,u,by cases c₀;simp_all,v,K,by rw[h3,h4],rfl,m,h5,h6⟩
 | panic c=>exact let⟨_,v',m,h3,_⟩:=O;by cases h3
 | exit _=>exact O.elim
 | goto _=>exact O.elim
 | outgrown=>exact let⟨v',m,h3,_⟩:=O;by cases h3
end
end Go.SL

namespace Go.Proofs
open Go.Shelf
open Go.RowKit in
def qd:Go.Shelf.Ren:=⟨fun|172=>96|244=>137|245=>138|247=>163|279=>164|280=>165|281=>166|282=>167|287=>194|316=>195|171=>133|205=>196|321=>226|322=>227|243=>159|246=>191|283=>213|284=>214|285=>215|286=>216|129=>171|317=>231|318=>232|319=>233|320=>109|337=>148|338=>149|n=>n,fun|9=>9|3=>3|75=>71|76=>180|4=>4|5=>5|167=>277|37=>61|0=>0|85=>278|2=>2|168=>280|53=>30|175=>98|46=>59|210=>312|127=>338|145=>341|143=>339|21=>21|171=>326|173=>328|212=>348|51=>243|20=>20|213=>349|232=>296|233=>297|80=>354|n=>n,fun|15=>3|16=>4|17=>5|18=>1|19=>2|n=>n⟩
theorem xd:Go.Proofs.Lays.n172 Tryz.prog qd:={
 mixed:=by kernel_rfl
 f129:=Tryz.func171.trans (congrArg some (by kernel_rfl))
 f171:=Tryz.func133.trans (congrArg some (by kernel_rfl))
 f172:=Tryz.func96.trans (congrArg some (by kernel_rfl))
 f205:=Tryz.func196.trans (congrArg some (by kernel_rfl))
 f243:=Tryz.func159.trans (congrArg some (by kernel_rfl))
 f244:=Tryz.func137.trans (congrArg some (by kernel_rfl))
 f245:=Tryz.func138.trans (congrArg some (by kernel_rfl))
 f246:=Tryz.func191.trans (congrArg some (by kernel_rfl))
 f247:=Tryz.func163.trans (congrArg some (by kernel_rfl))
 f279:=Tryz.func164.trans (congrArg some (by kernel_rfl))
 f280:=Tryz.func165.trans (congrArg some (by kernel_rfl))
 f281:=Tryz.func166.trans (congrArg some (by kernel_rfl))
 f282:=Tryz.func167.trans (congrArg some (by kernel_rfl))
 f283:=Tryz.func213.trans (congrArg some (by kernel_rfl))
 f284:=Tryz.func214.trans (congrArg some (by kernel_rfl))
 f285:=Tryz.func215.trans (congrArg some (by kernel_rfl))
 f286:=Tryz.func216.trans (congrArg some (by kernel_rfl))
 f287:=Tryz.func194.trans (congrArg some (by kernel_rfl))
 f316:=Tryz.func195.trans (congrArg some (by kernel_rfl))
 f317:=Tryz.func231.trans (congrArg some (by kernel_rfl))
 f318:=Tryz.func232.trans (congrArg some (by kernel_rfl))
 f319:=Tryz.func233.trans (congrArg some (by kernel_rfl))
 f320:=Tryz.func109.trans (congrArg some (by kernel_rfl))
 f321:=Tryz.func226.trans (congrArg some (by kernel_rfl))
 f322:=Tryz.func227.trans (congrArg some (by kernel_rfl))
 f337:=Tryz.func148.trans (congrArg some (by kernel_rfl))
 f338:=Tryz.func149.trans (congrArg some (by kernel_rfl))
 t0:=Tryz.underlying0
 a0:=Tryz.isAgg0
 z0:=Tryz.sizeOf0
 v0:=Tryz.zeroValue0
 t2:=Tryz.underlying2
 a2:=Tryz.isAgg2
 z2:=Tryz.sizeOf2
 v2:=Tryz.zeroValue2
 t3:=Tryz.underlying3
 a3:=Tryz.isAgg3
 z3:=Tryz.sizeOf3
 v3:=Tryz.zeroValue3
 t4:=Tryz.underlying4
 a4:=Tryz.isAgg4
 z4:=Tryz.sizeOf4
 v4:=Tryz.zeroValue4
 t5:=Tryz.underlying5
 a5:=Tryz.isAgg5
 z5:=Tryz.sizeOf5
 v5:=Tryz.zeroValue5
 t9:=Tryz.underlying9
 a9:=Tryz.isAgg9
 z9:=Tryz.sizeOf9
 v9:=Tryz.zeroValue9
 t20:=Tryz.underlying20
 a20:=Tryz.isAgg20
 z20:=Tryz.sizeOf20
 v20:=Tryz.zeroValue20
 t21:=Tryz.underlying21
 a21:=Tryz.isAgg21
 z21:=Tryz.sizeOf21
 v21:=Tryz.zeroValue21
 t37:=Tryz.underlying61
 a37:=Tryz.isAgg61
 z37:=Tryz.sizeOf61
 v37:=Tryz.zeroValue61
 t46:=Tryz.underlying59
 a46:=Tryz.isAgg59
 z46:=Tryz.sizeOf59
 v46:=Tryz.zeroValue59
 t51:=Tryz.underlying243
 a51:=Tryz.isAgg243
 z51:=Tryz.sizeOf243
 v51:=Tryz.zeroValue243
 t53:=Tryz.underlying30
 a53:=Tryz.isAgg30
 z53:=Tryz.sizeOf30
 v53:=Tryz.zeroValue30
 t75:=Tryz.underlying71
 a75:=Tryz.isAgg71
 z75:=Tryz.sizeOf71
 v75:=Tryz.zeroValue71
 t76:=Tryz.underlying180
 a76:=Tryz.isAgg180
 z76:=Tryz.sizeOf180
 v76:=Tryz.zeroValue180
 t85:=Tryz.underlying278
 a85:=Tryz.isAgg278
 z85:=Tryz.sizeOf278
 v85:=Tryz.zeroValue278
 t127:=Tryz.underlying338
 a127:=Tryz.isAgg338
 z127:=Tryz.sizeOf338
 v127:=Tryz.zeroValue338
 t143:=Tryz.underlying339
 a143:=Tryz.isAgg339
 z143:=Tryz.sizeOf339
 v143:=Tryz.zeroValue339
 t145:=Tryz.underlying341
 a145:=Tryz.isAgg341
 z145:=Tryz.sizeOf341
 v145:=Tryz.zeroValue341
 t167:=Tryz.underlying277
 a167:=Tryz.isAgg277
 z167:=Tryz.sizeOf277
 v167:=Tryz.zeroValue277
 t168:=Tryz.underlying280
 a168:=Tryz.isAgg280
 z168:=Tryz.sizeOf280
 v168:=Tryz.zeroValue280
 t171:=Tryz.underlying326
 a171:=Tryz.isAgg326
 z171:=Tryz.sizeOf326
 v171:=Tryz.zeroValue326
 t173:=Tryz.underlying328
 a173:=Tryz.isAgg328
 z173:=Tryz.sizeOf328
 v173:=Tryz.zeroValue328
 t175:=Tryz.underlying98
 a175:=Tryz.isAgg98
 z175:=Tryz.sizeOf98
 v175:=Tryz.zeroValue98
 t210:=Tryz.underlying312
 a210:=Tryz.isAgg312
 z210:=Tryz.sizeOf312
 v210:=Tryz.zeroValue312
 t212:=Tryz.underlying348
 a212:=Tryz.isAgg348
 z212:=Tryz.sizeOf348
 v212:=Tryz.zeroValue348
 t213:=Tryz.underlying349
 a213:=Tryz.isAgg349
 z213:=Tryz.sizeOf349
 t232:=Tryz.underlying296
 a232:=Tryz.isAgg296
 z232:=Tryz.sizeOf296
 v232:=Tryz.zeroValue296
 t233:=Tryz.underlying297
 a233:=Tryz.isAgg297
 z233:=Tryz.sizeOf297
 v233:=Tryz.zeroValue297
 g15:=by kernel_rfl
 g16:=by kernel_rfl
 g17:=by kernel_rfl
 g18:=by kernel_rfl
 g19:=by kernel_rfl}
open Go.RowKit in
theorem pt (s:ByteArray) (n:Int) (hl:s.size<=18) (h:Lib.atoi s.data.toList=some n) (w:World) :
 Calls Tryz.prog 96 #[.string s] w λe w'=>e=.returned (.tuple #[.int .i64 n,.nilIface])/\∃t,w'=Lib.bytesWorld w 5 t:=Any.strconv_Atoi xd s n hl h w
def qc:Go.Shelf.Ren:=⟨fun|192=>266|190=>269|125=>156|258=>270|128=>189|129=>171|302=>271|303=>272|304=>273|305=>274|306=>275|307=>276|308=>277|309=>278|310=>279|333=>280|329=>208|330=>209|334=>281|335=>282|336=>283|344=>284|n=>n,fun|31=>177|0=>0|9=>9|3=>3|46=>59|51=>243|53=>30|4=>4|183=>301|182=>300|131=>288|5=>5|218=>322|222=>195|228=>343|229=>344|n=>n,fun|n=>n⟩
theorem pn:Go.Proofs.Lays.n192 Tryz.prog qc:={
 mixed:=by kernel_rfl
 f125:=Tryz.func156.trans (congrArg some (by kernel_rfl))
 f128:=Tryz.func189.trans (congrArg some (by kernel_rfl))
 f129:=Tryz.func171.trans (congrArg some (by kernel_rfl))
 f190:=Tryz.func269.trans (congrArg some (by kernel_rfl))
 f192:=Tryz.func266.trans (congrArg some (by kernel_rfl))
 f258:=Tryz.func270.trans (congrArg some (by kernel_rfl))
 f302:=Tryz.func271.trans (congrArg some (by kernel_rfl))
 f303:=Tryz.func272.trans (congrArg some (by kernel_rfl))
 f304:=Tryz.func273.trans (congrArg some (by kernel_rfl))
 f305:=Tryz.func274.trans (congrArg some (by kernel_rfl))
 f306:=Tryz.func275.trans (congrArg some (by kernel_rfl))
 f307:=Tryz.func276.trans (congrArg some (by kernel_rfl))
 f308:=Tryz.func277.trans (congrArg some (by kernel_rfl))
 f309:=Tryz.func278.trans (congrArg some (by kernel_rfl))
 f310:=Tryz.func279.trans (congrArg some (by kernel_rfl))
 f329:=Tryz.func208.trans (congrArg some (by kernel_rfl))
 f330:=Tryz.func209.trans (congrArg some (by kernel_rfl))
 f333:=Tryz.func280.trans (congrArg some (by kernel_rfl))
 f334:=Tryz.func281.trans (congrArg some (by kernel_rfl))
 f335:=Tryz.func282.trans (congrArg some (by kernel_rfl))
 f336:=Tryz.func283.trans (congrArg some (by kernel_rfl))
 f344:=Tryz.func284.trans (congrArg some (by kernel_rfl))
 t0:=Tryz.underlying0
 a0:=Tryz.isAgg0
 z0:=Tryz.sizeOf0
 v0:=Tryz.zeroValue0
 t3:=Tryz.underlying3
 a3:=Tryz.isAgg3
 z3:=Tryz.sizeOf3
 v3:=Tryz.zeroValue3
 t4:=Tryz.underlying4
 a4:=Tryz.isAgg4
 z4:=Tryz.sizeOf4
 v4:=Tryz.zeroValue4
 t5:=Tryz.underlying5
 a5:=Tryz.isAgg5
 z5:=Tryz.sizeOf5
 v5:=Tryz.zeroValue5
 t9:=Tryz.underlying9
 a9:=Tryz.isAgg9
 z9:=Tryz.sizeOf9
 v9:=Tryz.zeroValue9
 t31:=Tryz.underlying177
 a31:=Tryz.isAgg177
 z31:=Tryz.sizeOf177
 v31:=Tryz.zeroValue177
 t46:=Tryz.underlying59
 a46:=Tryz.isAgg59
 z46:=Tryz.sizeOf59
 v46:=Tryz.zeroValue59
 t51:=Tryz.underlying243
 a51:=Tryz.isAgg243
 z51:=Tryz.sizeOf243
 v51:=Tryz.zeroValue243
 t53:=Tryz.underlying30
 a53:=Tryz.isAgg30
 z53:=Tryz.sizeOf30
 v53:=Tryz.zeroValue30
 t131:=Tryz.underlying288
 a131:=Tryz.isAgg288
 z131:=Tryz.sizeOf288
 v131:=Tryz.zeroValue288
 t182:=Tryz.underlying300
 a182:=Tryz.isAgg300
 z182:=Tryz.sizeOf300
 v182:=Tryz.zeroValue300
 t183:=Tryz.underlying301
 a183:=Tryz.isAgg301
 z183:=Tryz.sizeOf301
 v183:=Tryz.zeroValue301
 t218:=Tryz.underlying322
 a218:=Tryz.isAgg322
 z218:=Tryz.sizeOf322
 v218:=Tryz.zeroValue322
 t222:=Tryz.underlying195
 a222:=Tryz.isAgg195
 z222:=Tryz.sizeOf195
 v222:=Tryz.zeroValue195
 t228:=Tryz.underlying343
 a228:=Tryz.isAgg343
 z228:=Tryz.sizeOf343
 v228:=Tryz.zeroValue343
 t229:=Tryz.underlying344
 a229:=Tryz.isAgg344
 z229:=Tryz.sizeOf344
 v229:=Tryz.zeroValue344}
open Go.Sort Go.RowKit in
theorem pu (blk off cap:Nat) (ss:List (List UInt8)) (w:World) (hH:Holds encStr w blk off ss.toArray) (hblk:blk<w.heap.size) (hsz:ss.length<4611686018427387904) :
 Calls Tryz.prog 266 #[.slice (some ⟨blk,off,none⟩) ss.length cap] w λe w'=>
  e=.returned (.tuple #[])/\∃n os,w'=grow (putRow encStr (Sort.ahead w n) blk off (ss.mergeSort λx y=>decide (x<=y)).toArray) os:=Any.sort_Strings pn blk off cap ss w hH hblk hsz
open Go.RowKit Go.Lib in
open Go.RowKit Go.Lib in
def qe:Go.Shelf.Ren:=⟨fun|101=>97|208=>139|206=>168|n=>n,fun|9=>9|4=>4|3=>3|n=>n,fun|n=>n⟩
theorem xe:Go.Proofs.Lays.n101 Tryz.prog qe:={
 mixed:=by kernel_rfl
 f101:=Tryz.func97.trans (congrArg some (by kernel_rfl))
 f206:=Tryz.func168.trans (congrArg some (by kernel_rfl))
 f208:=Tryz.func139.trans (congrArg some (by kernel_rfl))
 t3:=Tryz.underlying3
 a3:=Tryz.isAgg3
 z3:=Tryz.sizeOf3
 v3:=Tryz.zeroValue3
 t4:=Tryz.underlying4
 a4:=Tryz.isAgg4
 z4:=Tryz.sizeOf4
 v4:=Tryz.zeroValue4
 t9:=Tryz.underlying9
 a9:=Tryz.isAgg9
 z9:=Tryz.sizeOf9
 v9:=Tryz.zeroValue9}
open Go.RowKit Go.Lib in
theorem lW (s p:ByteArray) (w:World) :
 Calls Tryz.prog 97 #[.string s,.string p] w λe w'=>e=.returned (.string ⟨(Lib.trimPrefix s.data.toList p.data.toList).toArray⟩)/\w'=w:=Any.strings_TrimPrefix xe s p w
open Go.RowKit Go.Sort in
open Go.RowKit Go.Sort in
theorem jo (p:Option Addr) (cap:Nat) (w:World) :
 Calls Tryz.prog 266 #[.slice p 0 cap] w λe w'=>e=.returned (.tuple #[])/\w'=w:=Any.sort_Strings_none pn p cap w
end Go.Proofs

namespace Go.Y
open Go.Proofs Go.RowKit Go.SL
variable {G:Env->Prop}
theorem n0 {d:Nat} {σ:FK.Dsk} {name:ByteArray} (hd:σ.down=false) (I:FK.dw σ.now name=none):dZ G 261 [aX d,bY name] [ar d σ] λv m=>v=.tuple #[.slice none 0 0,dO 9]/\m=[ar d σ]:=by
 obtain⟨dur,now,pend,left,full,down⟩:=σ;simp only at hd I;subst hd;refine bz Tryz.func261 Z λE fr T=>ae ?_;refine cN .head λq=>bl ?_;refine al (l':=mR d q ⟨dur,now,pend,left,full,false⟩ fr) aN ?_;refine cN dj λM=>bl ?_;refine al (l':=HP.pure (Names q.P M now)::cA bY q.mn (ek M)::blk d 88 (gR q ⟨dur,now,pend,left,full,false⟩)::bI q.md q.P dur::fd q.P::row 113 3 q.pv pend.length (ix pend)::fr) aN ?_;refine ec .head λK=>?_;have O:FK.dw M name=none:=by
  rcases K.get name with h|⟨b,s,_,h,_⟩
  · exact h.1
  · rw[h] at I;cases I
 refine sS<|sA Z<|sB Z<|sQ<|sS<|dS 5 Z Z<|aE Z Z Z Z<|sN<|ak Z<|ah<|sT<|sS ?_
 refine dS 1 Z Z<|aE Z Z Z Z<|sM Z<|cE (nL (m:=ek M) (a:=name) Z kC Z Z Z (by rw[lD,O];rfl)) (iN .head)<|sM Z<|bG Z Z<|bG Z Z<|sA Z<|sB Z<|sQ<|bg Z<|sP (dp Z Z)<|sN ?_
 refine aO Z<|sS<|sP (ed Z Z Z)<|sA Z<|sB Z<|an<|aH<|db [ar d ⟨dur,now,pend,left,full,false⟩] rfl Z Z ⟨rfl,rfl⟩ ?_
 refine Ent.trans ?_<|cO q ⟨dur,now,pend,left,full,false⟩
 refine Ent.trans (cW K) ?_;show Ent _ (_::bI q.md q.P dur::bI q.mn q.P now::fd q.P::_::fr);exact ap
theorem tQ {d:Nat} {σ:FK.Dsk} (hd:σ.down=false) (I:σ.now=[]):dZ G 260 [aX d] [ar d σ] λv m=>v=.tuple #[.slice none 0 0,.nilIface]/\m=[ar d σ]:=by
 obtain⟨dur,now,pend,left,full,down⟩:=σ;simp only at hd I;subst hd;subst I;refine bz Tryz.func260 Z λE fr T=>ae ?_;refine cN .head λq=>bl ?_;refine al (l':=mR d q ⟨dur,[],pend,left,full,false⟩ fr) aN ?_;refine cN dj λM=>bl ?_;refine al (l':=HP.pure (Names q.P M [])::cA bY q.mn (ek M)::blk d 88 (gR q ⟨dur,[],pend,left,full,false⟩)::bI q.md q.P dur::fd q.P::row 113 3 q.pv pend.length (ix pend)::fr) aN ?_;refine ec .head λK=>?_;have hM:M=[]:=by cases K;rfl
 subst hM;refine sS<|sA Z<|sB Z<|sQ<|sS<|dS 5 Z Z<|aE Z Z Z Z<|sN<|ak Z<|ah<|sT<|sS ?_
 refine sB Z<|sQ<|sS<|dS 1 Z Z<|aE Z Z Z Z<|sO (l6 (b:=q.mn) (m:=ek []) Z Z Z .head λO=>(sN (aj ?_)))
 refine aL (X:=Nat) (λ_=>[(15,.pointer (some ⟨O,0,none⟩)),(4,.slice none 0 0),(0,aX d)]) (λ_=>dC bY O q.mn (ek []) (ek []) none::blk d 88 (gR q ⟨dur,[],pend,left,full,false⟩)::bI q.md q.P dur::fd q.P::row 113 3 q.pv pend.length (ix pend)::fr) (λ_=>True) (λ_=>0) 0 trivial cf aN ?_;intro k hk;refine sS ?_;refine sO<|jt Z Z .head (λ_=>?_) (λj q Y=>by simp at Y)
 refine bG Z Z<|sN<|sQ<|ak Z<|aK<|av<|au<|ao<|sT<|bg Z ?_
 refine sO<|iP Z Z Z T (ge (φ:=λ_=>True) λ_ w _ _ _=>(jo none 0 w).mono λ_ _ ⟨h1,h2⟩=>⟨h1,by rw[h2];exact Below.refl _ _⟩) (λ_ _=>trivial) ?_
 rintro v m ⟨rfl,rfl⟩;refine aB<|sN<|bg Z<|sA Z<|sB Z<|an<|db [ar d ⟨dur,[],pend,left,full,false⟩] rfl Z Z ⟨rfl,rfl⟩ ?_
 refine Ent.trans ?_<|cO q ⟨dur,[],pend,left,full,false⟩
 refine Ent.trans (Ent.ranged.trans (cW K)) ?_;show Ent _ (_::bI q.md q.P dur::bI q.mn q.P []::fd q.P::_::fr);exact ap
end Go.Y

namespace FK
def gN (ns:List ByteArray):List ByteArray:=((ns.map λs=>s.data.toList).mergeSort λx y=>decide (x<=y)).map λl=>⟨l.toArray⟩
theorem DC (ns:List ByteArray):(gN ns).length=ns.length:=by unfold gN;simp
end FK
namespace Go.SL
open Go Go.RowKit
variable {P:Program} {E:Env} {n i:Nat} {D:List Deferred} {ts:List (Nat×Value)} {l:List HP} {ty:TypeId} {pos:String} {af:Array Edge} {g:Option (Nat×Bool)} {Q:Exit->Act->World->Prop}
theorem GP {src I e:TypeId} {x:Operand} {s:ByteArray} {K:Act->World->Prop} (hi:Nat.blt i n=true) (T:P.underlying src=some .string) (hd:P.underlying I=some (.slice e)) (Y:P.underlying e=some (.int .u8)) (hx:ev ts x=some (.string s))
 (h:∀b c fz,s.size<=c->At E n D ((i,.slice (some ⟨b,0,none⟩) s.size c)::ts) (ob b (.cells (bytesRow s c) e fz)::l) K):At E n D ts l (λa w=>(Oper.mk (some i) (.convert src I x) ty pos af g).wp P a w K Q):=λa w O hw=>by
 have hr:=run_bytes_of_string (P:=P) w src I e s T hd Y;have:(execOp a.eval (Oper.mk (some i) (.convert src I x) ty pos af g)).run P w=.ok (.value (.slice (some ⟨w.heap.size,0,none⟩) s.size (grownCap w s.size 0 e))) (w.drew.alloc (.cells (bytesRow s (grownCap w s.size 0 e)) e ((bytesRow s (grownCap w s.size 0 e)).size,(bytesRow s (grownCap w s.size 0 e)).size+1))):=by
  simp only[execOp,O.eval hx,Sem.run_bind,hr,Result.andThen_ok,Sem.run_pure]
 show(Oper.mk (some i) (.convert src I x) ty pos af g).wp P a w K Q;unfold Oper.wp;rw[this];exact h _ _ _ (grownCap_ge _ _ _ _) _ _ (O.put i (Nat.le_of_ble_eq_true hi) _) ((hw.drawn _).alloc _)
end Go.SL
namespace Go.Y
open Go.Proofs
open Go Go.RowKit Go.SL
variable {G:Env->Prop}
theorem JJ (ns:List ByteArray):(ns.map λs=>s.data.toList).map encStr=ns.map bY:=by
 rw[List.map_map];refine List.map_congr_left λs _=>?_;show Value.string ⟨s.data.toList.toArray⟩=.string s;rw[Array.toArray_toList]
theorem Ez (ns:List ByteArray):((ns.map λs=>s.data.toList).mergeSort λx y=>decide (x<=y)).map encStr=(FK.gN ns).map bY:=by
 unfold FK.gN;rw[List.map_map]
 rfl
theorem AC {A:Option Addr} {c:Nat} {ns:List ByteArray} (hl:ns.length<=1000000):dZ G 266 [.slice A ns.length c] [row 9 1 (.slice A ns.length c) ns.length (ns.map bY)] λv m=>v=.tuple #[]/\m=[row 9 1 (.slice A ns.length c) ns.length ((FK.gN ns).map bY)]:=λE w fr hE hw=>by
 have hr:=hw.row .head;rcases hr.2 with⟨h0,T⟩|⟨g,cap,d7,hv,hb,Y,T,h2,h3,h4⟩
 · have d6:ns=[]:=List.eq_nil_of_length_eq_zero T
   subst d6;refine(jo A c w).mono λe w' ⟨O,K⟩=>?_;subst K;exact⟨_,_,O,⟨rfl,rfl⟩,by
   have e0:(FK.gN []).map bY=([]:List Value):=by simp[FK.gN]
   rw[e0];exact hw⟩
 · have hA:A=some ⟨g,0,none⟩/\c=cap:=by injection hv with a1 _ a3;exact⟨a1,a3⟩
   obtain⟨rfl,rfl⟩:=hA;have I:(ns.map λs=>s.data.toList).length=ns.length:=List.length_map _;rw[Nat.mul_one] at h4;have hH:=holds_of_block (ss:=ns.map λs=>s.data.toList) Y (by rw[I,h4,JJ]);have hc:=pu g 0 c (ns.map λs=>s.data.toList) w hH (Array.getElem?_eq_some_iff.1 Y).1 ai;rw[I] at hc;refine hc.mono λe w' ⟨O,n,os,K⟩=>?_;subst K;refine⟨_,_,O,⟨rfl,rfl⟩,?_⟩;have ho:=ownsRow_sorted (w:=w) (base:=0) (n:=n) (os:=os) (ss:=ns.map λs=>s.data.toList) (ts:=(ns.map λs=>s.data.toList).mergeSort λx y=>decide (x<=y)) cP (Nat.zero_le _) Y (by rw[I];exact T) h2 h3;rw[I,Ez] at ho;exact nk hw (grownBy_sorted _) ho<|.inl Z
theorem Ju:fV Tryz.prog 9 (.string ⟨#[]⟩) 1 16:=by unfold fV;kernel_rfl
theorem Hs (s:ByteArray):Instr.fill (λi=>some (i*1,1)) (Array.map (λx=>(Value.string ⟨#[]⟩).cells[x%(Value.string ⟨#[]⟩).cells.size]!) (Array.range (1*1))) ((List.map (λx=>x.fst) [((0:Nat),Operand.tmp 21)]).zip [bY s])=some #[bY s]:=by
 have e1:Array.range (1*1)=#[0]:=rfl;rw[e1];simp[Instr.fill,Value.cells]
theorem AZ {d:Nat} {σ:FK.Dsk} (hd:σ.down=false) (hn:σ.now.length<=1000000):dZ G 260 [aX d] [ar d σ] λv m=>∃ns A c,ns.Perm (σ.now.map (·.1))/\v=.tuple #[.slice A ns.length c,.nilIface]/\m=[row 9 1 (.slice A ns.length c) ns.length ((FK.gN ns).map bY),ar d σ]:=by
 obtain⟨dur,now,pend,left,full,down⟩:=σ;simp only at hd hn;subst hd;refine bz Tryz.func260 Z λE fr hE=>ae ?_;refine cN .head λq=>bl ?_;refine al (l':=mR d q ⟨dur,now,pend,left,full,false⟩ fr) aN ?_;refine cN dj λM=>bl ?_;refine al (l':=HP.pure (Names q.P M now)::cA bY q.mn (ek M)::blk d 88 (gR q ⟨dur,now,pend,left,full,false⟩)::bI q.md q.P dur::fd q.P::row 113 3 q.pv pend.length (ix pend)::fr) aN ?_;refine ec .head λhN=>?_;have mt:M.length=now.length:=by rw[<-List.length_map (f:=(·.1)),hN.keys,List.length_map]
 refine sS<|sA Z<|sB Z<|sQ<|sS<|dS 5 Z Z<|aE Z Z Z Z<|sN<|ak Z<|ah<|sT<|sS ?_
 refine sB Z<|sQ<|sS<|dS 1 Z Z<|aE Z Z Z Z<|sO (l6 (b:=q.mn) (m:=ek M) Z Z Z .head λY=>(sN (aj ?_)))
 refine aL (X:=List (ByteArray×Nat)×Option (ByteArray×Value)×List ByteArray×Value) (λx=>[(15,.pointer (some ⟨Y,0,none⟩)),(4,x.2.2.2),(0,aX d)]) (λx=>dC bY Y q.mn (ek M) (ek x.1) x.2.1::row 9 1 x.2.2.2 x.2.2.1.length (x.2.2.1.map bY)::blk d 88 (gR q ⟨dur,now,pend,left,full,false⟩)::bI q.md q.P dur::fd q.P::row 113 3 q.pv pend.length (ix pend)::fr) (λx=>(M.map (·.1)).Perm (x.2.2.1++x.1.map (·.1))) (λx=>x.1.length) (M,none,[],.slice none 0 0) (List.Perm.refl _) cf (by show Ent _ (dC bY Y q.mn (ek M) (ek M) none::row 9 1 (.slice none 0 0) 0 []::blk d 88 (gR q ⟨dur,now,pend,left,full,false⟩)::bI q.md q.P dur::fd q.P::row 113 3 q.pv pend.length (ix pend)::fr);exact(Ent.row0 (e:=9) (size:=1)).trans ap) ?_;rintro⟨I,d7,ns,y⟩ K;replace K:(M.map (·.1)).Perm (ns++I.map (·.1)):=K;have d6:=K.length_eq;rw[List.length_append,List.length_map,List.length_map] at d6;refine al (l':=dC bY Y q.mn (ek M) (ek I) d7::row 9 1 y ns.length (ns.map bY)::blk d 88 (gR q ⟨dur,now,pend,left,full,false⟩)::bI q.md q.P dur::fd q.P::row 113 3 q.pv pend.length (ix pend)::fr) aN ?_;refine sQ ?_
 by_cases HL:I=[]
 ·
  subst HL;refine sG ?_;refine sO<|jt Z Z .head (λ_=>?_) (λj q O=>by simp at O)
  refine bG Z Z<|sN<|sQ<|ak Z<|aK<|av<|au<|ao<|sT<|sQ ?_
  rw[List.map_nil,List.append_nil] at K;refine aI bM ?_;rintro A c rfl - - - - -
  refine sG<|sM Z ?_
  refine bV Z (AC (c:=c) ai) gfE1 ?_;refine ae<|sN<|bg Z<|sA Z<|sB Z<|an ?_
  refine db [row 9 1 (.slice A ns.length c) ns.length ((FK.gN ns).map bY),ar d ⟨dur,now,pend,left,full,false⟩] rfl Z Z ⟨ns,A,c,by rw[<-hN.keys];exact K.symm,rfl,rfl⟩ ?_;show Ent _ (row 9 1 (.slice A ns.length c) ns.length ((FK.gN ns).map bY)::ar d ⟨dur,now,pend,left,full,false⟩::fr);refine Ent.cons<|Ent.trans ?_<|cO q ⟨dur,now,pend,left,full,false⟩
  refine Ent.trans (Ent.ranged.trans (cW hN)) ?_;show Ent _ (_::bI q.md q.P dur::bI q.mn q.P now::fd q.P::_::fr);exact ap
 ·
  refine sG ?_;refine sO<|jt Z Z .head (λh=>absurd (List.map_eq_nil_iff.1 h) HL) λj q' O=>?_
  obtain⟨x,hx,rfl⟩:∃x,I[j]?=some x/\(x.1,aX x.2)=q':=by
   rw[List.getElem?_map] at O;cases hl:I[j]? with
   | none=>rw[hl] at O;cases O
   | some x=>rw[hl] at O;injection O with O;exact⟨x,rfl,O⟩
  have d8:=(gfGet.1 hx).1;have d9:=kM hx;have f7:(M.map (·.1)).Perm ((ns++[x.1])++(I.eraseIdx j).map (·.1)):=by
   rw[List.append_assoc];exact K.trans<|List.Perm.append_left ns<|d9.map (·.1)
  rw[<-ik];refine bG Z Z<|sN<|sQ<|aO Z<|ah<|sT<|aj<|sS<|cE (lJ (p:=(x.1,aX x.2)) Z) (kX .head)<|bG Z Z<|sB Z<|sG<|sM Z<|sM Z ?_
  refine sO (dB (m:=1) (z:=.string ⟨#[]⟩) (size:=1) (ps:=[(0,.tmp 21)]) (vs:=[bY x.1]) (cs:=#[bY x.1]) Z Z Z Z ai ai Z (Hs _) λf9=>?_);refine eu rfl (cU rfl rfl Ju rfl ai rfl rfl (HasVal.sel (v:=y)) (news:=[bY x.1]) rfl (λh=>by cases h) (iu (λj u h=>by simpa using h)) fx (by unfold maxLen;omega) ai λT f8=>?_);refine sA Z<|aq<|am<|aC (I.eraseIdx j,some (x.1,aX x.2),ns++[x.1],T) f7 (by show(I.eraseIdx j).length<I.length;rw[List.length_eraseIdx_of_lt d8];omega) cf ?_
  show Ent _ (dC bY Y q.mn (ek M) (ek (I.eraseIdx j)) (some (x.1,aX x.2))::row 9 1 T (ns++[x.1]).length ((ns++[x.1]).map bY)::blk d 88 (gR q ⟨dur,now,pend,left,full,false⟩)::bI q.md q.P dur::fd q.P::row 113 3 q.pv pend.length (ix pend)::fr);rw[List.length_append,List.map_append];show Ent _ (dC bY Y q.mn (ek M) (ek (I.eraseIdx j)) (some (x.1,aX x.2))::row 9 1 T (ns.length+1) (ns.map bY++[bY x.1])::blk d 88 (gR q ⟨dur,now,pend,left,full,false⟩)::bI q.md q.P dur::fd q.P::row 113 3 q.pv pend.length (ix pend)::fr);exact ap
abbrev rC (b c:Nat) (s:ByteArray) (I:Nat×Nat):HP:=ob b (.cells (bytesRow s c) 5 I)
theorem uQ {b c:Nat} {s:ByteArray} {K:Nat×Nat}:Reads (rC b c s K) (some ⟨b,0,none⟩) s.data.toList where
 form _:=⟨b,0,rfl⟩
 cell w F hp b' o he j x hx:=by
  injection he with he;injection he with e1 e2;subst e1;subst e2;have I:s.data[j]?=some x:=by simpa using hx
  have O:j<s.data.size:=by
   obtain⟨h,_⟩:=Array.getElem?_eq_some_iff.1 I;exact h
  simp[World.cell?,hp.2,bytesRow,Array.getElem?_append,I];intro h;have:s.size=s.data.size:=rfl;omega
theorem uR {d:Nat} {σ:FK.Dsk} {name s:ByteArray} (hd:σ.down=false) (I:FK.dw σ.now name=some s):dZ G 261 [aX d,bY name] [ar d σ] λv m=>∃b c Y,s.size<=c/\v=.tuple #[.slice (some ⟨b,0,none⟩) s.size c,.nilIface]/\m=[rC b c s Y,ar d σ]:=by
 obtain⟨dur,now,pend,left,full,down⟩:=σ;simp only at hd I;subst hd;refine bz Tryz.func261 Z λE fr hE=>ae ?_;refine cN .head λq=>bl ?_;refine al (l':=mR d q ⟨dur,now,pend,left,full,false⟩ fr) aN ?_;refine cN dj λM=>bl ?_;refine al (l':=HP.pure (Names q.P M now)::cA bY q.mn (ek M)::blk d 88 (gR q ⟨dur,now,pend,left,full,false⟩)::bI q.md q.P dur::fd q.P::row 113 3 q.pv pend.length (ix pend)::fr) aN ?_;refine ec .head λhN=>?_;obtain⟨bs,hM,hP⟩:∃b,FK.dw M name=some b/\(b,s)∈q.P:=by
  rcases hN.get name with h|⟨b,s',h1,h2,h3⟩
  · rw[h.2] at I;cases I
  · rw[h2] at I;injection I with I;subst I;exact⟨b,h1,h3⟩
 refine sS<|sA Z<|sB Z<|sQ<|sS<|dS 5 Z Z<|aE Z Z Z Z<|sN<|ak Z<|ah<|sT<|sS ?_
 refine dS 1 Z Z<|aE Z Z Z Z<|sM Z<|cE (lS (m:=ek M) (a:=name) (v:=aX bs) Z kC Z Z (by rw[lD,hM];rfl)) (iN .head)<|sM Z<|bG Z Z<|bG Z Z<|sA Z<|sB Z<|sQ<|bg Z<|sP (dp Z Z)<|sN ?_
 refine ak Z<|ah<|sT<|bg Z<|dA Z<|cE (aF (v:=bY s) Z) (sf hP gC)<|sO (GP Z Z Z Z Z λK O Y T=>(sA Z (sB Z (an (db [rC K O s Y,ar d ⟨dur,now,pend,left,full,false⟩] rfl Z Z ⟨K,O,Y,T,rfl,rfl⟩ ?_)))))
 refine Ent.cons<|Ent.trans ?_<|cO q ⟨dur,now,pend,left,full,false⟩
 refine Ent.trans (cW hN) ?_;show Ent _ (_::bI q.md q.P dur::bI q.mn q.P now::fd q.P::_::fr);exact ap
end Go.Y

namespace Go.Y
open Go.Proofs Go.RowKit Go.SL
variable {G:Env->Prop}
theorem Ht (b:Nat) (x:Operand):Instr.fill (λi=>some (i*1,1)) (Array.map (λx=>(Value.pointer none).cells[x%(Value.pointer none).cells.size]!) (Array.range (1*1))) ((List.map (λx=>x.fst) [((0:Nat),x)]).zip [aX b])=some #[aX b]:=by
 have e1:Array.range (1*1)=#[0]:=rfl;rw[e1];simp[Instr.fill,Value.cells]
theorem tmRow {E:Env} {l:List FK.Tmr} {m r:List HP} {t:FK.Tmr} (s:Sel (i8 l) m r) (K:t∈l):∀w,Holds E w m->jb t.blk 0 (iq t.key) w:=λw hw j v I=>by
 refine pB s K ?_ w hw;rw[Nat.zero_add]
 match j,I with
 | 0,I|1,I|2,I=>exact I
abbrev allL (w mp I:Nat) (S:FK.WS) (sl:Nat->Value) (left:List FK.Tmr) (E:Option (FK.Pl×Value)) (bs:List Nat) (v:Value) (fr:List HP):List HP:=dC iW I mp (fO S.tms) (fO left) E::ee v bs::Dc w S sl mp::j9 sl S.bs::i8 S.tms::fr
theorem Jr {l:List FK.Tmr} {i:Nat} {t:FK.Tmr} (h:l[i]?=some t):∃r,(l.map FK.kd).take i++(t.key,t.due)::r=l.map FK.kd:=by
 obtain⟨E,I⟩:=gfGet.1 h;refine⟨(l.map FK.kd).drop (i+1),?_⟩;have hd:=List.take_append_drop i (l.map FK.kd);rw[List.drop_eq_getElem_cons (by rw[List.length_map];exact E),List.getElem_map,I] at hd;exact hd
theorem Ie {S:FK.WS} {w:Nat} {F:FuncId} {cap:Array Value} {U:List FK.KD->HP} (h:FK.Inv S []) (f7:S.tms.length<=100000)
 (hF:dX Tryz.prog F=true)
 (O:∀done k a,done.length<=100000->(∃r,done++(k,a)::r=S.tms.map FK.kd)->Does Tryz.prog G F (#[]++[iW k,.int .u64 (a:Nat)].toArray++cap) [U done] λv m=>v=.tuple #[]/\m=[U (done++[(k,a)])]) :
 dZ G 76 [aX w,.func (.func F) #[] cap] [cb w S,U []] λv m=>v=.tuple #[]/\m=[cb w S,U (S.tms.map FK.kd)]:=by
 refine bz Tryz.func76 Z λE fr hE=>az (dY .head λsl mp=>(sS (sB Z (sQ (sS (sM Z (dA Z (bX 717 Z (cE (aF Z) (ag (iY _ _ _ _ _)) (sO (l6 (b:=mp) (m:=fO S.tms) Z Z Z gC λT=>(sN (aj ?_)))))))))))));refine aL (X:=List FK.Tmr×Option (FK.Pl×Value)×List Nat×Value) (λx=>[(13,.pointer (some ⟨T,0,none⟩)),(4,x.2.2.2),(1,.func (.func F) #[] cap),(0,aX w)]) (λx=>allL w mp T S sl x.1 x.2.1 x.2.2.1 x.2.2.2 (U []::fr)) (λx=>(S.tms.map FK.Tmr.blk).Perm (x.2.2.1++x.1.map FK.Tmr.blk)) (λx=>x.1.length) (S.tms,none,[],.slice none 0 0) (List.Perm.refl _) cf (by show Ent _ (dC iW T mp (fO S.tms) (fO S.tms) none::row 236 1 (.slice none 0 0) 0 []::Dc w S sl mp::j9 sl S.bs::i8 S.tms::U []::fr);exact(Ent.row0 (e:=236) (size:=1)).trans ap) ?_;rintro⟨left,f9,bs,y⟩ I;replace I:(S.tms.map FK.Tmr.blk).Perm (bs++left.map FK.Tmr.blk):=I;have d6:=I.length_eq;rw[List.length_append,List.length_map,List.length_map] at d6;refine al (l':=allL w mp T S sl left f9 bs y (U []::fr)) aN ?_;refine sQ ?_
 by_cases HL:left=[]
 ·
  subst HL;refine sG ?_;refine sO<|jt Z Z .head (λ_=>?_) (λj q K=>by simp[fO] at K)
  refine bG Z Z<|sN<|sQ<|ak Z<|aK<|av<|au<|ao<|sT<|sQ ?_
  rw[List.map_nil,List.append_nil] at I;have t7:=I.length_eq;rw[List.length_map] at t7;refine aI bM ?_;rintro A c rfl mt t6 - - -
  refine sG<|sM Z ?_
  refine bV Z (ub h.seqs I.symm h.blks f7) (aY bM gC) ?_;refine az<|sN<|bg Z<|sP (bh Z Z)<|sM Z<|sN<|aj ?_
  refine aL (X:=Nat) (λi=>[(26,.int .i64 i),(25,.int .i64 bs.length),(24,.slice A bs.length c),(1,.func (.func F) #[] cap)]) (λi=>row 236 1 (.slice A bs.length c) bs.length ((S.tms.map FK.Tmr.blk).map aX)::cb w S::U ((S.tms.map FK.kd).take i)::fr) (λi=>i<=bs.length) (λi=>bs.length-i) 0 (Nat.zero_le _) cf (Ent.cons (gfE1.trans (by show Ent (dC iW T mp (fO S.tms) (fO []) _::i8 S.tms::Dc w S sl mp::j9 sl S.bs::U []::fr) (cb w S::U []::fr);exact(Ent.ranged.trans ap).trans (cV (S:=S) (sl:=sl) (mp:=mp))))) ?_;intro i hi;replace hi:i<=bs.length:=hi;refine sS<|sP (bB Z Z Z)<|sN<|sQ ?_
  refine aA Z (λf8=>?_) λf8=>?_
  ·
   have t8:i<S.tms.length:=ai;obtain⟨t,ht⟩:∃t,S.tms[i]?=some t:=⟨S.tms[i],by simp[t8]⟩;have d7:=du ht;obtain⟨g,rfl⟩:∃g,A=some ⟨g,0,none⟩:=by
    cases A with
    | none=>have:=(mt rfl).1;omega
    | some ad=>obtain⟨g,rfl⟩:=t6 ad rfl;exact⟨g,rfl⟩
   refine ah<|sT<|sQ<|aj<|sS<|sP (bp (z:=1) Z Z Z Z ai)<|cE (aF (v:=aX t.blk) Z) (fg .head (by simp[ht]))<|sB Z (dY bM λsl mp=>(sZ Z (eI Z Z (cJ Z Z (bF Z (cv Z) (bF Z (bL 0 Z) (bZ Z (bR (vs:=iq t.key) Z) (tmRow dj d7) (cJ Z Z (bF Z (cv Z) ?_)))))))))
   refine dr 7 Z (bL 3 Z)<|bZ Z (aF (v:=.int .u64 t.due) Z) (pB dj d7 Z) ?_
   refine cK 9 Z<|ct Z Z hF Z hE (O ((S.tms.map FK.kd).take i) t.key t.due (by rw[List.length_take];omega) (Jr ht)) gfE5 ?_
   rintro v m ⟨rfl,rfl⟩;refine ae<|dK [false,false] ab<|dE<|am<|sT<|sG<|sP (aT (r:=((i+1:Nat):Int)) Z Z (iI ai))<|sM Z<|aq ?_
   have wf:(S.tms.map FK.kd).take (i+1)=(S.tms.map FK.kd).take i++[(t.key,t.due)]:=by rw[List.take_add_one,List.getElem?_map,ht];rfl
   refine aC (i+1) ai ai cf ?_;show Ent _ (_::_::U ((S.tms.map FK.kd).take (i+1))::fr);rw[wf];refine Ent.trans (Ent.trans (b:=Dc w S sl mp::j9 sl S.bs::i8 S.tms::cA iW mp (fO S.tms)::row 236 1 (.slice (some ⟨g,0,none⟩) bs.length c) bs.length ((S.tms.map FK.Tmr.blk).map aX)::U ((S.tms.map FK.kd).take i++[(t.key,t.due)])::fr) ap cV) ap
  ·
   refine aK<|av<|au<|ao ?_
   have d8:(S.tms.map FK.kd).take i=S.tms.map FK.kd:=List.take_of_length_le (by rw[List.length_map];omega);exact de [_,_] rfl ⟨rfl,rfl⟩ (by rw[d8];exact Ent.drop)
 ·
  refine sG ?_;refine sO<|jt Z Z .head (λh=>absurd (List.map_eq_nil_iff.1 h) HL) λj q' K=>?_
  obtain⟨x,hx,rfl⟩:∃x,left[j]?=some x/\(x.key,aX x.blk)=q':=by
   unfold fO at K;rw[List.getElem?_map] at K;cases hl:left[j]? with
   | none=>rw[hl] at K;cases K
   | some x=>rw[hl] at K;injection K with K;exact⟨x,rfl,K⟩
  have BT:=(gfGet.1 hx).1;have Fd:=kM hx;have In:(S.tms.map FK.Tmr.blk).Perm ((bs++[x.blk])++(left.eraseIdx j).map FK.Tmr.blk):=by
   rw[List.append_assoc];exact I.trans<|List.Perm.append_left bs<|Fd.map FK.Tmr.blk
  have d9:(fO left).eraseIdx j=fO (left.eraseIdx j):=(ik _ _ _).symm;rw[d9];refine bG Z Z<|sN<|sQ<|aO Z<|ah<|sT<|aj<|sS<|cE (lJ (p:=(x.key,aX x.blk)) Z) (kX .head)<|bG Z Z<|sB Z<|sG<|sM Z<|sM Z ?_
  refine sO (dB (m:=1) (z:=.pointer none) (size:=1) (ps:=[(0,.tmp 19)]) (vs:=[aX x.blk]) (cs:=#[aX x.blk]) Z Z Z Z ai ai Z (Ht _ _) λLC=>?_);refine eu rfl (cU rfl rfl CH rfl ai rfl rfl (HasVal.sel (v:=y)) (news:=[aX x.blk]) rfl (λh=>by cases h) (iu (λj u h=>by simpa using h)) fx (by unfold maxLen;omega) ai λY LB=>?_);refine sA Z<|aq<|am<|aC (left.eraseIdx j,some (x.key,aX x.blk),bs++[x.blk],Y) In (by show(left.eraseIdx j).length<left.length;rw[List.length_eraseIdx_of_lt BT];omega) cf ?_
  show Ent _ (dC iW T mp (fO S.tms) (fO (left.eraseIdx j)) (some (x.key,aX x.blk))::row 236 1 Y (bs++[x.blk]).length ((bs++[x.blk]).map aX)::Dc w S sl mp::j9 sl S.bs::i8 S.tms::U []::fr);rw[List.length_append,List.map_append];show Ent _ (dC iW T mp (fO S.tms) (fO (left.eraseIdx j)) (some (x.key,aX x.blk))::row 236 1 Y (bs.length+1) (bs.map aX++[aX x.blk])::Dc w S sl mp::j9 sl S.bs::i8 S.tms::U []::fr);exact ap
end Go.Y

namespace Go.Y
open Go.Proofs Go.RowKit Go.SL
variable {G:Env->Prop}
theorem FE {l:List FR.Tmd} (h:l.length=1):∃x,l=[x]:=by
 match l,h with
 | [x],_=>exact⟨x,rfl⟩
abbrev qO (g c n a m b:Nat):List (Nat×Value):=[(0,sV g c n),(1,.int .i64 a),(2,.int .i64 m),(3,.int .i64 b),(4,lX)]
theorem Gd {N:Nat} (ih:Fh G N):Fh G (N+1):=by
 intro g c n a m b P U V Q l hN I LZ L3 hn hb;have L4:=I.len;have LP:=I.hP;have LQ:=I.hL;have L5:=I.hR;refine bz Tryz.func158 Z λE fr hE=>ae<|sQ<|bg Z<|cG Z (cH (r:=((m-a:Nat):Int)) Z Z eg)<|sP (bC Z Z Z)<|sN ?_
 refine aA Z (λLJ=>?_) λLJ=>?_
 ·
  obtain⟨x,rfl⟩:=FE (l:=U) ai;obtain rfl:m=a+1:=ai;have hx:l[a]?=some x:=by obtain⟨y,e1,e2⟩:=I.left (cm a) ai;simp at e2;subst e2;exact e1
  refine bg Z<|sB Z<|bg Z<|sB Z<|sQ<|aj ?_
  refine aL (X:=Nat×Nat) (λx=>(11,.int .i64 x.2)::(10,.int .i64 x.1)::qO g c n a (a+1) b) (λ_=>gQ g c n l::fr) (λy=>FR.Put1 P V Q l x a b y.1 y.2) (λx=>x.2-x.1) (a+1,b) (FR.Put1.init ai) cf aN ?_;rintro⟨i,j⟩ hI;replace hI:FR.Put1 P V Q l x a b i j:=hI;have i1:=hI.i1;have i2:=hI.i2;have i3:=hI.i3;refine eY (ts':=(11,.int .i64 j)::(10,.int .i64 i)::qO g c n a (a+1) b) Z<|sQ<|bg Z<|cG Z (bB Z Z Z)<|sN ?_
  refine aA Z (λLK=>?_) λLK=>?_
  ·
   have LR:i<j:=ai;obtain⟨h,hh⟩:∃h,h=(i+j)/2:=⟨_,rfl⟩;obtain⟨y,K,_⟩:=I.right (i:=h) ai ai;refine ah<|sT<|aj<|bg Z<|cG Z (aT (r:=((i+j:Nat):Int)) Z Z eg)<|sP (bJ Z Z Z Z) ?_
   refine sP (fU (r:=(h:Int)) Z Z ai (by rw[hh];exact B4 i j ai ai)) ?_;refine sP (bJ (r:=(h:Int)) Z Z Z (iI ai))<|sB Z<|sQ<|sZ Z<|eI Z Z<|cJ Z Z<|cJ Z Z<|bF Z (bp (z:=3) Z Z Z Z ai)<|bZ Z (bR (vs:=dz y) Z) (iz .head K)<|cJ Z Z<|cJ Z Z<|bF Z (bp (z:=3) Z Z Z Z ai)<|bZ Z (bR (vs:=dz x) Z) (iz .head hx) ?_
   refine cK 9 Z<|ct Z Z Z Z hE (nR y x) aN ?_
   rintro v m ⟨rfl,rfl⟩;refine aB<|dK [false,false] ab<|dr 10 Z (bB (r:=decide (y.due<x.due)) Z Z ru)<|dE<|sT ?_
   refine aA Z (λLB=>?_) λLB=>?_
   ·
    refine sG<|cG Z (aT (r:=((h+1:Nat):Int)) Z Z eg)<|sA Z<|aq<|am ?_
    exact aC (h+1,j) (hI.up I ai ai K LB) (by show j-(h+1)<j-i;omega) cf aN
   ·
    refine sG<|sM Z<|sA Z<|aq<|am ?_
    exact aC (i,h) (hI.down I ai ai K LB) (by show h-i<j-i;omega) cf aN
  ·
   obtain rfl:i=j:=ai;obtain⟨A,B,rfl,hA,hS⟩:=hI.fin I;obtain rfl:l=P++(x::(A++(B++Q))):=by rw[I.is];simp
   refine aK<|av<|au<|ao<|sT<|sQ<|bg Z<|sB Z<|aj ?_
   refine aL (X:=Nat) (λk=>(13,.int .i64 (a+k:Nat))::(10,.int .i64 i)::qO g c n a (a+1) b) (λk=>gQ g c n (P++(A.take k++x::(A.drop k++(B++Q))))::fr) (λk=>k<=A.length) (λk=>A.length-k) 0 (Nat.zero_le _) cf aN ?_;intro k hk;replace hk:k<=A.length:=hk;refine sQ<|bg Z<|cG Z (cH (r:=((i-1:Nat):Int)) Z Z eg)<|sP (bB Z Z Z)<|sN ?_
   refine aA Z (λLL=>?_) λLL=>?_
   ·
    have mt:k<A.length:=ai;obtain⟨y,K⟩:∃y,A[k]?=some y:=⟨A[k],by simp[mt]⟩;obtain⟨k1,k2,k3⟩:=Lq (P:=P) (Q:=B++Q) (x:=x) (p:=a+k) K ai;have LS:(P++(A.take k++x::(A.drop k++(B++Q)))).length=n:=by rw[<-hn];simp;omega
    refine ah<|sT<|sQ<|aj<|sZ Z<|eI Z Z<|cJ Z Z<|cJ Z Z<|cJ Z Z<|bF Z (aT (r:=((a+k+1:Nat):Int)) Z Z eg)<|cJ Z Z<|cJ Z Z<|bF Z (aT (r:=((a+k+1:Nat):Int)) Z Z eg)<|bF Z (bp (z:=3) Z Z Z Z ai)<|bZ Z (bR (vs:=dz y) Z) (iz .head k2)<|cJ Z Z<|cJ Z Z<|bF Z (bp (z:=3) Z Z Z Z ai)<|bZ Z (bR (vs:=dz x) Z) (iz .head k1)<|bF Z (bp (z:=3) Z Z Z Z ai) ?_
    refine cK 15 Z<|eU .head (k:=3) Z Z Z Z kY ai ?_
    rw[mT ai];refine dK [false,false] ab<|dr 16 Z (bp (z:=3) Z Z Z Z ai) ?_
    refine cK 17 Z<|eU .head (k:=3) Z Z Z Z kY ai ?_
    rw[mT (by rw[List.length_set];omega),k3];refine dK [] ab<|dE<|am<|sT<|sG<|cG Z (aT (r:=((a+(k+1):Nat):Int)) Z Z eg)<|sA Z<|aq ?_
    exact aC (k+1) mt ai cf aN
   ·
    obtain rfl:k=A.length:=ai;refine aK<|av<|au<|ao<|sT<|an<|aH ?_
    exact de [_] rfl ⟨rfl,_,hS,rfl⟩ (by rw[List.take_length,List.drop_length];simp only[List.nil_append,List.append_assoc,List.cons_append];exact aN)
 ·
  refine ah<|sT<|sQ<|bg Z<|cG Z (cH (r:=((b-m:Nat):Int)) Z Z eg)<|sP (bC Z Z Z)<|sN ?_
  refine aA Z (λLM=>?_) λLM=>?_
  ·
   obtain⟨x,rfl⟩:=FE (l:=V) ai;obtain rfl:b=m+1:=ai;have hx:l[m]?=some x:=by obtain⟨y,e1,e2⟩:=I.right (cm m) ai;simp at e2;subst e2;exact e1
   refine bg Z<|sB Z<|bg Z<|sB Z<|sQ<|aj ?_
   refine aL (X:=Nat×Nat) (λx=>(15,.int .i64 x.2)::(14,.int .i64 x.1)::qO g c n a m (m+1)) (λ_=>gQ g c n l::fr) (λy=>FR.Put2 P U Q l x a m y.1 y.2) (λx=>x.2-x.1) (a,m) (FR.Put2.init ai) cf aN ?_;rintro⟨i,j⟩ hI;replace hI:FR.Put2 P U Q l x a m i j:=hI;have i1:=hI.i1;have i2:=hI.i2;have i3:=hI.i3;refine eY (ts':=(15,.int .i64 j)::(14,.int .i64 i)::qO g c n a m (m+1)) Z<|sQ<|bg Z<|cG Z (bB Z Z Z)<|sN ?_
   refine aA Z (λLN=>?_) λLN=>?_
   ·
    have LR:i<j:=ai;obtain⟨h,hh⟩:∃h,h=(i+j)/2:=⟨_,rfl⟩;obtain⟨y,K,_⟩:=I.left (i:=h) ai ai;refine ah<|sT<|aj<|bg Z<|cG Z (aT (r:=((i+j:Nat):Int)) Z Z eg)<|sP (bJ Z Z Z Z) ?_
    refine sP (fU (r:=(h:Int)) Z Z ai (by rw[hh];exact B4 i j ai ai)) ?_;refine sP (bJ (r:=(h:Int)) Z Z Z (iI ai))<|sB Z<|sQ<|sZ Z<|eI Z Z<|cJ Z Z<|cJ Z Z<|bF Z (bp (z:=3) Z Z Z Z ai)<|bZ Z (bR (vs:=dz x) Z) (iz .head hx)<|cJ Z Z<|cJ Z Z<|bF Z (bp (z:=3) Z Z Z Z ai)<|bZ Z (bR (vs:=dz y) Z) (iz .head K) ?_
    refine cK 9 Z<|ct Z Z Z Z hE (nR x y) aN ?_
    rintro v m ⟨rfl,rfl⟩;refine aB<|dK [false,false] ab<|dr 10 Z (bB (r:=decide (x.due<y.due)) Z Z ru)<|bF Z (dp (r:=decide (¬x.due<y.due)) Z (decide_not).symm)<|dE<|sT ?_
    refine aA Z (λd8=>?_) λd8=>?_
    ·
     refine sG<|cG Z (aT (r:=((h+1:Nat):Int)) Z Z eg)<|sA Z<|aq<|am ?_
     exact aC (h+1,j) (hI.up I ai ai K d8) (by show j-(h+1)<j-i;omega) cf aN
    ·
     refine sG<|sM Z<|sA Z<|aq<|am ?_
     exact aC (i,h) (hI.down I ai ai K (Decidable.not_not.1 d8)) (by show h-i<j-i;omega) cf aN
   ·
    obtain rfl:i=j:=ai;obtain⟨A,B,rfl,hA,hS⟩:=hI.fin I;rw[List.length_append] at LQ;obtain rfl:l=(P++A)++(B++x::Q):=by rw[I.is];simp
    refine aK<|av<|au<|ao<|sT<|sQ<|bg Z<|sB Z<|aj ?_
    refine aL (X:=Nat) (λk=>(17,.int .i64 (i+k:Nat))::(14,.int .i64 i)::qO g c n a m (m+1)) (λk=>gQ g c n ((P++A)++(B.take k++x::(B.drop k++Q)))::fr) (λk=>k<=B.length) (λk=>k) B.length (cm _) ⟨by rw[show i+B.length=m by omega];rfl,rfl,rfl,rfl,rfl,rfl,rfl,trivial⟩ (by rw[List.take_length,List.drop_length];exact aN) ?_;intro k hk;replace hk:k<=B.length:=hk;refine sQ<|bg Z<|cG Z (eS Z Z Z)<|sN ?_
    refine aA Z (λLE=>?_) λLE=>?_
    ·
     obtain⟨k,rfl⟩:∃k',k=k'+1:=⟨k-1,ai⟩;have mt:k<B.length:=ai;obtain⟨y,K⟩:∃y,B[k]?=some y:=⟨B[k],by simp[mt]⟩;obtain⟨k1,k2,k3⟩:=Ig (P:=P++A) (Q:=Q) (x:=x) (p:=i+k) (q:=i+(k+1)) K (by simp;omega) rfl;have LS:((P++A)++(B.take (k+1)++x::(B.drop (k+1)++Q))).length=n:=by rw[<-hn];simp;omega
     refine ah<|sT<|sQ<|aj<|sZ Z<|eI Z Z<|cJ Z Z<|cJ Z Z<|cJ Z Z<|bF Z (cH (r:=((i+k:Nat):Int)) Z Z eg)<|cJ Z Z<|cJ Z Z<|bF Z (cH (r:=((i+k:Nat):Int)) Z Z eg)<|bF Z (bp (z:=3) Z Z Z Z ai)<|bZ Z (bR (vs:=dz y) Z) (iz .head k1)<|cJ Z Z<|cJ Z Z<|bF Z (bp (z:=3) Z Z Z Z ai)<|bZ Z (bR (vs:=dz x) Z) (iz .head k2)<|bF Z (bp (z:=3) Z Z Z Z ai) ?_
     refine cK 15 Z<|eU .head (k:=3) Z Z Z Z kY ai ?_
     rw[mT ai];refine dK [false,false] ab<|dr 16 Z (bp (z:=3) Z Z Z Z ai) ?_
     refine cK 17 Z<|eU .head (k:=3) Z Z Z Z kY ai ?_
     rw[mT (by rw[List.length_set];omega),k3];refine dK [] ab<|dE<|am<|sT<|sG<|cG Z (cH (r:=((i+k:Nat):Int)) Z Z eg)<|sA Z<|aq ?_
     exact aC k ai ai cf aN
    ·
     obtain rfl:k=0:=ai;refine aK<|av<|au<|ao<|sT<|an<|aH ?_
     exact de [_] rfl ⟨rfl,_,hS,rfl⟩ (by simp only[List.take_zero,List.drop_zero,List.nil_append,List.append_assoc,List.cons_append];exact aN)
  ·
   refine ah<|sT<|sQ ?_
   obtain⟨kw,LH⟩:∃kw,kw=(a+b)/2:=⟨_,rfl⟩;refine sG<|sM Z<|cG Z (aT (r:=((a+b:Nat):Int)) Z Z eg)<|sP (bJ Z Z Z Z) ?_
   refine sP (fU (r:=(kw:Int)) Z Z ai (by rw[LH];exact B4 a b ai ai)) ?_;refine sP (bJ (r:=(kw:Int)) Z Z Z (iI ai))<|sB Z<|bg Z<|cG Z (aT (r:=((kw+m:Nat):Int)) Z Z eg)<|sB Z<|sS<|sA Z<|sB Z ?_
   refine sQ<|cT (X:=Nat×Nat) (λx=>(21,.int .i64 x.2)::(20,.int .i64 x.1)::(19,.int .i64 (kw+m:Nat))::(18,.int .i64 kw)::qO g c n a m b) (λ_=>gQ g c n l::fr) (λx=>FR.Cut l a m b (kw+m) x.1 x.2) ?_ ?_
   ·
    refine bg Z<|cG Z (eS Z Z Z)<|sN ?_
    refine aA Z (λLF=>?_) λLF=>?_
    ·
     refine bg Z<|cG Z (cH (r:=((kw+m-b:Nat):Int)) Z Z eg)<|sB Z<|sG<|sM Z<|sA Z<|aq ?_
     exact bd (kw+m-b,kw) (FR.Cut.init ai ai ai ai ai (.inr ai) (.inr ai)) cf aN
    ·
     refine bg Z<|sB Z<|sG<|sM Z<|sA Z<|aq ?_
     exact bd (a,m) (FR.Cut.init ai ai ai ai ai (.inl Z) (.inl Z)) cf aN
   rintro⟨s0,r0⟩ LC;replace LC:FR.Cut l a m b (kw+m) s0 r0:=LC;refine eY (ts':=(21,.int .i64 r0)::(20,.int .i64 s0)::(19,.int .i64 (kw+m:Nat))::(18,.int .i64 kw)::qO g c n a m b) Z<|bg Z<|sP (cH (r:=((kw+m-1:Nat):Int)) Z Z eg)<|sB Z<|sQ<|aj ?_
   refine aL (X:=Nat×Nat) (λx=>(22,.int .i64 (kw+m-1:Nat))::(21,.int .i64 x.2)::(20,.int .i64 x.1)::(19,.int .i64 (kw+m:Nat))::(18,.int .i64 kw)::qO g c n a m b) (λ_=>gQ g c n l::fr) (λx=>FR.Cut l a m b (kw+m) x.1 x.2) (λx=>x.2-x.1) (s0,r0) LC cf aN ?_;rintro⟨s,r⟩ hC;replace hC:FR.Cut l a m b (kw+m) s r:=hC;refine eY (ts':=(22,.int .i64 (kw+m-1:Nat))::(21,.int .i64 r)::(20,.int .i64 s)::(19,.int .i64 (kw+m:Nat))::(18,.int .i64 kw)::qO g c n a m b) Z ?_;have s1:=hC.s1;have s2:=hC.s2;have s3:=hC.s3;have s4:=hC.s4;have s5:=hC.s5;refine sQ<|bg Z<|cG Z (bB Z Z Z)<|sN ?_
   refine aA Z (λLG=>?_) λLG=>?_
   ·
    have L6:s<r:=ai;obtain⟨h,hh⟩:∃h,h=(s+r)/2:=⟨_,rfl⟩;obtain⟨x,y,hx,K,_,_⟩:=hC.pair I (h:=h) ai ai;refine ah<|sT<|aj<|bg Z<|cG Z (aT (r:=((s+r:Nat):Int)) Z Z eg)<|sP (bJ Z Z Z Z) ?_
    refine sP (fU (r:=(h:Int)) Z Z ai (by rw[hh];exact B4 s r ai ai)) ?_;refine sP (bJ (r:=(h:Int)) Z Z Z (iI ai))<|sB Z<|sQ<|sZ Z<|eI Z Z<|cJ Z Z<|cJ Z Z<|cJ Z Z<|bF Z (cH (r:=((kw+m-1-h:Nat):Int)) Z Z eg)<|bF Z (bp (z:=3) Z Z Z Z ai)<|bZ Z (bR (vs:=dz y) Z) (iz .head K)<|cJ Z Z<|cJ Z Z<|bF Z (bp (z:=3) Z Z Z Z ai)<|bZ Z (bR (vs:=dz x) Z) (iz .head hx) ?_
    refine cK 11 Z<|ct Z Z Z Z hE (nR y x) aN ?_
    rintro v m ⟨rfl,rfl⟩;refine aB<|dK [false,false] ab<|dr 12 Z (bB (r:=decide (y.due<x.due)) Z Z ru)<|bF Z (dp (r:=decide (¬y.due<x.due)) Z (decide_not).symm)<|dE<|sT ?_
    refine aA Z (λd9=>?_) λd9=>?_
    ·
     refine sG<|cG Z (aT (r:=((h+1:Nat):Int)) Z Z eg)<|sA Z<|aq<|am ?_
     exact aC (h+1,r) (hC.up I ai ai hx K d9) (by show r-(h+1)<r-s;omega) cf aN
    ·
     refine sG<|sM Z<|sA Z<|aq<|am ?_
     exact aC (s,h) (hC.down I ai ai hx K (Decidable.not_not.1 d9)) (by show h-s<r-s;omega) cf aN
   ·
    obtain rfl:s=r:=ai;obtain⟨e,he⟩:∃e,e=kw+m-s:=⟨_,rfl⟩;obtain⟨L1,L2,R1,R2,hH⟩:=hC.fin I;rw[<-he] at hH;obtain⟨eL,eR,l1,l2,l3,l4,hJ⟩:=hH;have el:l=P++(L1++(L2++(R1++(R2++Q)))):=by rw[I.is,eL,eR];simp
    have L7:a+L1.length+R1.length=kw:=ai;have sL:=I.sL;have sR:=I.sR;have bf:=I.bf;rw[eL,List.pairwise_append] at sL;rw[eR,List.pairwise_append] at sR;obtain⟨l',d7⟩:∃l',l'=P++(L1++(R1++(L2++(R2++Q)))):=⟨_,rfl⟩;have In:l'.length=n:=by rw[<-hn,el,d7];simp only[List.length_append];omega
    have M1:FR.Mrg P L1 R1 (L2++(R2++Q)) l' a s kw:=⟨d7,LP,l1,ai,sL.1,sR.1,λx hx y K=>bf x (by rw[eL];exact List.mem_append_left _ hx) y (by rw[eR];exact List.mem_append_left _ K)⟩;refine aK<|av<|au<|ao<|sT<|bg Z<|cG Z (cH (r:=(e:Int)) Z Z eg)<|sB Z ?_
    refine sQ<|cT (X:=Unit) (λ_=>(24,.int .i64 e)::(20,.int .i64 s)::(18,.int .i64 kw)::qO g c n a m b) (λ_=>gQ g c n l'::fr) (λ_=>True) ?_ ?_
    ·
     refine bg Z<|sM Z (fC Z (bB Z Z Z) (λ_ _=>trivial) λf7 t6=>(sM Z ?_))
     refine dW f7 (by rfl) ?_;refine fK Z Z (λ_=>rfl) (bn Z) (λ_ _=>trivial) ?_;refine dW f7 (by rfl) ?_;refine fK Z Z (λ_=>rfl) (bn Z) (λ_ _=>trivial) ?_;refine dW f7 (by rfl) ?_;refine fK Z Z (λ_=>rfl) (bB Z Z Z) (λ_ _=>trivial) ?_;refine fC Z (kQ Z Z Z) (λ_ _=>trivial) λLW t7=>sN ?_;refine dQ Z (λO=>?_) λO=>?_
     ·
      rw[t7,t6] at O;have h1:s<m/\m<e:=by simpa using O
      refine sG<|sM Z<|sM Z<|sM Z<|sM Z<|sM Z ?_
      refine bV Z (yE (a:=s) (m:=m) (b:=e) (fin:=l') ⟨P++L1,L2,R1,R2++Q,by rw[el];simp,by simp;omega,ai,ai,by rw[d7];simp⟩ h1.1 h1.2 hn hb) aN ?_;exact ae<|aq<|bd () trivial cf aN
     ·
      rw[t7,t6] at O;have LT:l=l':=by
       have h1:¬(s<m/\m<e):=by simpa using O
       rw[el,d7];rcases Nat.lt_or_ge s m with h|h
       · obtain rfl:R1=[]:=List.eq_nil_of_length_eq_zero ai
         simp
       · obtain rfl:L2=[]:=List.eq_nil_of_length_eq_zero ai
         simp
      refine ah ?_;exact bd () trivial cf (by rw[LT];exact aN)
    intro _ _;refine sQ<|cT (X:=List FR.Tmd) (λ_=>(24,.int .i64 e)::(20,.int .i64 s)::(18,.int .i64 kw)::qO g c n a m b) (λY=>gQ g c n (P++(Y++(L2++(R2++Q))))::fr) (λY=>FR.Srt (L1++R1) Y) ?_ ?_
    ·
     refine bg Z<|sM Z (fC Z (bB Z Z Z) (λ_ _=>trivial) λf8 t8=>(sM Z ?_))
     refine dW f8 (by rfl) ?_;refine fK Z Z (λ_=>rfl) (bn Z) (λ_ _=>trivial) ?_;refine dW f8 (by rfl) ?_;refine fK Z Z (λ_=>rfl) (bn Z) (λ_ _=>trivial) ?_;refine dW f8 (by rfl) ?_;refine fK Z Z (λ_=>rfl) (bB Z Z Z) (λ_ _=>trivial) ?_;refine fC Z (kQ Z Z Z) (λ_ _=>trivial) λLX wf=>sN ?_;refine dQ Z (λT=>?_) λT=>?_
     ·
      rw[wf,t8] at T;have h1:a<s/\s<kw:=by simpa using T
      refine sG<|sM Z<|sM Z<|sM Z<|sM Z<|sM Z ?_
      refine ch Z (ih ai M1 h1.1 h1.2 In hb) aN ?_;rintro v m ⟨rfl,Y,hY,rfl⟩;exact ae<|aq<|bd Y hY cf aN
     ·
      rw[wf,t8] at T;have h1:¬(a<s/\s<kw):=by simpa using T
      refine ah ?_;refine bd (L1++R1) (FR.Srt.refl ?_) cf (by rw[d7];simp only[List.append_assoc];exact aN);rcases Nat.lt_or_ge a s with h|h
      · obtain rfl:R1=[]:=List.eq_nil_of_length_eq_zero ai
        simpa using sL.1
      · obtain rfl:L1=[]:=List.eq_nil_of_length_eq_zero ai
        simpa using sR.1
    intro Y1 LD;have LU:=LD.len;rw[List.length_append] at LU;have M2:FR.Mrg (P++Y1) L2 R2 Q (P++(Y1++(L2++(R2++Q)))) kw e b:=⟨by simp,by simp;omega,ai,ai,sL.2.1,sR.2.1,λx hx y K=>bf x (by rw[eL];exact List.mem_append_right _ hx) y (by rw[eR];exact List.mem_append_right _ K)⟩;have LV:(P++(Y1++(L2++(R2++Q)))).length=n:=by rw[<-In,d7];simp only[List.length_append];omega
    refine bg Z<|sM Z (fC Z (bB Z Z Z) (λ_ _=>trivial) λf9 BT=>(sM Z ?_))
    refine dW f9 (by rfl) ?_;refine fK Z Z (λ_=>rfl) (bn Z) (λ_ _=>trivial) ?_;refine dW f9 (by rfl) ?_;refine fK Z Z (λ_=>rfl) (bn Z) (λ_ _=>trivial) ?_;refine dW f9 (by rfl) ?_;refine fK Z Z (λ_=>rfl) (bB Z Z Z) (λ_ _=>trivial) ?_;refine fC Z (kQ Z Z Z) (λ_ _=>trivial) λLY Fd=>sN ?_;refine dQ Z (λd6=>?_) λd6=>?_
    ·
     rw[Fd,BT] at d6;have h1:kw<e/\e<b:=by simpa using d6
     refine sG<|sM Z<|sM Z<|sM Z<|sM Z<|sM Z ?_
     refine ch Z (ih ai M2 h1.1 h1.2 LV hb) aN ?_;rintro v m ⟨rfl,Y2,LO,rfl⟩;refine ae<|aq ?_
     exact de [_] rfl ⟨rfl,Y1++Y2,hJ Y1 Y2 LD LO,rfl⟩ (by simp only[List.append_assoc];exact aN)
    ·
     rw[Fd,BT] at d6;have h1:¬(kw<e/\e<b):=by simpa using d6
     refine ah ?_;refine de [_] rfl ⟨rfl,Y1++(L2++R2),hJ Y1 (L2++R2) LD (FR.Srt.refl ?_),rfl⟩ (by simp only[List.append_assoc];exact aN);rcases Nat.lt_or_ge kw e with h|h
     · obtain rfl:R2=[]:=List.eq_nil_of_length_eq_zero ai
       simpa using sL.2.1
     · obtain rfl:L2=[]:=List.eq_nil_of_length_eq_zero ai
       simpa using sR.2.1
theorem lu:∀N,Fh G N
 | 0=>λh _ E I=>by omega
 | N+1=>Gd (lu N)
end Go.Y

namespace Go.Y
open Go.Proofs Go.RowKit Go.SL
variable {G:Env->Prop}
abbrev Ki (g c n:Nat):List (Nat×Value):=[(0,sV g c n),(1,.int .i64 n),(2,lX)]
theorem yz {g c n:Nat} {X:List FR.Tmd} (hX:X.length=n) (hb:n<=100000) (hs:FR.Seqs X) :
 dZ G 131 [sV g c n,.int .i64 n,lX] [gQ g c n X] λv m=>v=.tuple #[]/\∃Y,FR.Srt X Y/\m=[gQ g c n Y]:=by
 refine bz Tryz.func131 Z λE fr hE=>ae<|sS<|sB Z<|bg Z<|sA Z<|sB Z<|sQ<|aj ?_
 refine aL (X:=Nat×List FR.Tmd×List FR.Tmd) (λx=>(8,.int .i64 (x.1+20:Nat))::(7,.int .i64 x.1)::(6,.int .i64 20)::Ki g c n) (λx=>gQ g c n x.2.1::fr) (λx=>x.2.1.length=n/\FR.BlkTo 20 X x.2.1 x.1 x.2.2 x.2.2) (λx=>n-x.1) (0,X,X) ⟨hX,FR.BlkTo.init 20 X X⟩ cf aN ?_;rintro⟨a,l,U⟩ ⟨K,hB⟩;replace K:l.length=n:=K;replace hB:FR.BlkTo 20 X l a U U:=hB;have t7:=hB.len;refine eY (ts':=(8,.int .i64 (a+20:Nat))::(7,.int .i64 a)::(6,.int .i64 20)::Ki g c n) Z<|al (l':=gQ g c n l::fr) aN ?_
 refine sQ<|bg Z<|cG Z (rM Z Z Z)<|sN ?_
 refine aA Z (λd8=>?_) λd8=>?_
 ·
  have t8:a+20<=n:=ai;obtain⟨P,I,Q,e1,e2,e3,e4,e5⟩:=hB.ins hs ai;subst e1;refine ah<|sT<|aj<|bg Z<|sM Z<|sM Z<|sM Z ?_
  refine ch Z (qx (a:=a) (b:=a+20) e2 e3 K hb e4) aN ?_;rintro v m ⟨rfl,Y,T,rfl⟩;refine ae ?_;have O:=T.len;refine sN<|bg Z<|sB Z<|sG<|sM Z<|cG Z (aT (r:=((a+20+20:Nat):Int)) Z Z eg)<|sA Z<|aq<|am ?_
  exact aC (a+20,P++(Y++Q),Q) ⟨by show(P++(Y++Q)).length=n;rw[<-K];simp[O],e5 Y T⟩ (by show n-(a+20)<n-a;omega) cf aN
 ·
  have wf:n<a+20:=ai;obtain⟨P,I,e1,e2,e3,e4,e5⟩:=hB.insLast hs ai;subst e1;refine aK<|av<|au<|ao<|sT<|bg Z<|sM Z<|sM Z<|sM Z ?_
  refine ch Z (qx (a:=a) (b:=n) e2 (e3.trans K) K hb e4) aN ?_;rintro v m ⟨rfl,Y,T,rfl⟩;refine ae ?_;have O:=T.len;refine sN<|aj ?_
  refine aL (X:=Nat×List FR.Tmd) (λx=>(6,.int .i64 x.1)::Ki g c n) (λx=>gQ g c n x.2::fr) (λx=>x.2.length=n/\20<=x.1/\x.1<=200000/\FR.Blk x.1 X x.2) (λx=>n-x.1) (20,P++(Y++[])) ⟨by rw[<-K];simp[O],cm _,ai,e5 Y T⟩ cf aN ?_;rintro⟨z,l⟩ ⟨K,hz,d7,hB⟩;replace K:l.length=n:=K;replace hz:20<=z:=hz;replace d7:z<=200000:=d7;replace hB:FR.Blk z X l:=hB;refine eY (ts':=(6,.int .i64 z)::Ki g c n) Z<|al (l':=gQ g c n l::fr) aN ?_
  refine sQ<|bg Z<|cG Z (bB Z Z Z)<|sN ?_
  refine aA Z (λd9=>?_) λd9=>?_
  ·
   have BT:z<n:=ai;refine ah<|sT<|aj<|bg Z<|sP (l5 (r:=((2*z:Nat):Int)) Z Z eg)<|sA Z<|sB Z<|sQ<|aj ?_
   refine aL (X:=Nat×List FR.Tmd×List FR.Tmd×List FR.Tmd) (λx=>(8,.int .i64 (x.1+2*z:Nat))::(7,.int .i64 x.1)::(6,.int .i64 z)::Ki g c n) (λx=>gQ g c n x.2.1::fr) (λx=>x.2.1.length=n/\FR.BlkTo (2*z) X x.2.1 x.1 x.2.2.1 x.2.2.2/\FR.Blk z x.2.2.1 x.2.2.2) (λx=>n-x.1) (0,l,X,l) ⟨K,FR.BlkTo.init _ X l,hB⟩ ⟨by rw[Nat.zero_add];rfl,rfl,rfl,rfl,rfl,rfl,trivial⟩ aN ?_;rintro⟨a,l,U,V⟩ ⟨K,hT,hK⟩;replace K:l.length=n:=K;replace hT:FR.BlkTo (2*z) X l a U V:=hT;replace hK:FR.Blk z U V:=hK;have t7:=hT.len;refine eY (ts':=(8,.int .i64 (a+2*z:Nat))::(7,.int .i64 a)::(6,.int .i64 z)::Ki g c n) Z<|al (l':=gQ g c n l::fr) aN ?_
   refine sQ<|bg Z<|cG Z (rM Z Z Z)<|sN ?_
   refine aA Z (λf7=>?_) λf7=>?_
   ·
    have t8:a+2*z<=n:=ai;obtain⟨P,Lf,R,Q,U',hM,f9,hN⟩:=hT.pair hK hs ai;refine ah<|sT<|aj<|bg Z<|sM Z<|sM Z<|cG Z (aT (r:=((a+z:Nat):Int)) Z Z eg)<|sM Z<|sM Z ?_
    refine ch Z (lu _ (cm _) hM ai ai K hb) aN ?_;rintro v m ⟨rfl,Y,T,rfl⟩;refine ae ?_;have O:=T.len;have d6:l.length=(P++((Lf++R)++Q)).length:=by rw[hM.is];simp
    refine sN<|bg Z<|sB Z<|sG<|sM Z<|cG Z (l5 (r:=((2*z:Nat):Int)) Z Z eg)<|sP (aT (r:=((a+2*z+2*z:Nat):Int)) Z Z eg)<|sA Z<|aq<|am ?_
    exact aC (a+2*z,P++(Y++Q),U',Q) ⟨by show(P++(Y++Q)).length=n;rw[<-K,d6];simp only[List.length_append] at O ⊢;omega,hN Y T,f9⟩ (by show n-(a+2*z)<n-a;omega) cf aN
   ·
    have wf:n<a+2*z:=ai;refine aK<|av<|au<|ao<|sT ?_
    refine sQ<|cT (X:=List FR.Tmd) (λ_=>(6,.int .i64 z)::Ki g c n) (λY=>gQ g c n Y::fr) (λY=>Y.length=n/\FR.Blk (2*z) X Y) ?_ ?_
    ·
     refine bg Z<|cG Z (aT (r:=((a+z:Nat):Int)) Z Z eg)<|sB Z<|bg Z<|cG Z (bB Z Z Z)<|sN ?_
     refine aA Z (λf8=>?_) λf8=>?_
     ·
      have h1:a+z<n:=ai;obtain⟨P,Lf,R,hM,hN⟩:=hT.pairLast hK hs ai ai;rw[K] at hM;have d6:l.length=(P++((Lf++R)++[])).length:=by rw[hM.is];simp
      refine sG<|sM Z<|sM Z<|sM Z<|sM Z<|sM Z ?_
      refine ch Z (lu _ (cm _) hM ai ai K hb) aN ?_;rintro v m ⟨rfl,Y,T,rfl⟩;refine ae ?_;have O:=T.len;refine aq ?_;exact bd (P++(Y++[])) ⟨by rw[<-K,d6];simp only[List.length_append] at O ⊢;omega,hN Y T⟩ cf aN
     ·
      have h1:n<=a+z:=ai;refine ah ?_;exact bd l ⟨K,hT.rest hK ai⟩ cf aN
    rintro Y ⟨mt,t6⟩;refine sG<|cG Z (l5 (r:=((2*z:Nat):Int)) Z Z eg)<|sA Z<|aq<|am ?_
    exact aC (2*z,Y) ⟨mt,ai,ai,t6⟩ (by show n-2*z<n-z;omega) cf aN
  ·
   have Fd:n<=z:=ai;refine aK<|av<|au<|ao ?_
   exact de [_] rfl ⟨rfl,l,hB.all ai,rfl⟩ aN
theorem DB {g c n:Nat} {X:List FR.Tmd} (I:X.length=n) (K:n<=100000) (O:FR.Seqs X) :
 dZ G 78 [sV g c n,lX] [gQ g c n X] λv m=>v=.tuple #[]/\∃Y,FR.Srt X Y/\m=[gQ g c n Y]:=by
 refine bz Tryz.func78 Z λE fr hE=>ae<|sG<|sM Z<|cG Z (bh Z Z)<|sM Z ?_
 refine ch Z (yz I K O) aN ?_;rintro v m ⟨rfl,Y,T,rfl⟩;exact ae<|aq<|de [_] rfl ⟨rfl,Y,T,rfl⟩ aN
end Go.Y
