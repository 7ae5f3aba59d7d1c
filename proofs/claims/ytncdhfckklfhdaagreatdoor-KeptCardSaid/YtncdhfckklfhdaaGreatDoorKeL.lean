/- The document's engine: Submit. -/
import Derived.Test.YtncdhfckklfhdaaGreatDoorKeK
import Derived.Test.YtncdhfckklfhdaaGreatDoorKeF
import Derived.Test.YtncdhfckklfhdaaGreatDoorKeB
import Derived.Test.YtncdhfckklfhdaaGreatDoorKeI
import Derived.Test.YtncdhfckklfhdaaGreatDoorKeJ
import Derived.Test.YtncdhfckklfhdaaGreatDoorKeC
import Derived.Test.YtncdhfckklfhdaaGreatDoorKeG
import Derived.Test.YtncdhfckklfhdaaGreatDoorKeH
import Derived.Test.YtncdhfckklfhdaaGreatDoorKeE
import Derived.ChangeKeysEq
set_option linter.defProp false
set_option maxHeartbeats 4000000
set_option maxRecDepth 20000
variable{l:List (List UInt8)}{A:Option Go.Addr}{b bs:List UInt8}{G:Go.SL.Env->Prop}{S U:FK.En}{σ:FK.Dsk}{M:FR.En}{N c d e g k n:Nat}{ns:List Go.Y.ND}{a:Go.Y.RfA}{p:Go.Y.EA}{E:Go.SL.Env}{s:ByteArray}{jv:Go.Value}{J:FK.Jn}{fs:FK.ph}{F:Int}
namespace FR
structure CutOk(M M0:En):Prop where
 lr:M0.NL=M.NL
 time:M0.time=M.time
 timers:M0.timers=M.timers
 NP:M0.NP=M.NP
 runs:M0.runs.Sublist M.runs
def Cutd.ok{I:En}(h:Cutd M I):CutOk M I:=by
 rcases h with⟨_,rfl⟩|⟨_,j,_,rfl⟩
 ·exact⟨rfl,rfl,rfl,rfl,List.Sublist.refl _⟩
 ·exact⟨rfl,rfl,rfl,rfl,List.eraseIdx_sublist _ _⟩
def MF:Option Nat->Int
 |none=>-1
 |some j=>j
end FR
namespace Go.Y
open Go.Proofs Tryz
open Go Go.RowKit Go.SL
section
variable{l r:List HP}[H:HasRef l e a ns M r]
include H
theorem EU{w:World}(hw:Holds E w l):M.runs.length<=a.rc:=by
 obtain⟨F,h⟩:=tR (H:=H) hw;rcases h.1.2 with⟨K,I⟩|⟨g,cap,J,I,_,_,O,_⟩
 ·omega
 ·injection I with _ _ I
  omega
theorem K0{j:Nat}(O:a.rg=some n):∀w,Holds E w l->nA (some ⟨n,0,none⟩) (iF a (M.runs.take j)) w:=λw hw T I i v K=>by
 obtain⟨F,h⟩:=tR (H:=H) hw;rw[td O]at h;injection I with I;subst I;refine h.1.cells Z i v ?_;have e1:iF a M.runs=iF a (M.runs.take j)++iF a (M.runs.drop j):=by
  show M.runs.flatMap _=_;rw[<-List.flatMap_append,List.take_append_drop]
 rw[e1,List.getElem?_append_left (gfGet.1 K).1];exact K
theorem K5{j:Nat}(hg:a.rg=some n)(hj:j<=M.runs.length):∀w,Holds E w l->nA (if a.rc=j then some ⟨n,0,none⟩ else(some ⟨n,0,none⟩:Option Addr).map (·.add (j*8))) (iF a (M.runs.drop j)) w:=λw hw ad I i v T=>by
 have Y:=EU (H:=H) hw;obtain⟨F,h⟩:=tR (H:=H) hw;rw[td hg]at h;have hi:=(gfGet.1 T).1;have K:(iF a (M.runs.drop j)).length=(M.runs.length-j)*8:=by rw[cV (k:=8) λ_=>rfl,List.length_drop]
 rw[K]at hi;rw[if_neg am]at I;injection I with I;subst I;have e1:iF a M.runs=iF a (M.runs.take j)++iF a (M.runs.drop j):=by
  show M.runs.flatMap _=_;rw[<-List.flatMap_append,List.take_append_drop]
 have O:(iF a (M.runs.take j)).length=j*8:=by rw[cV (k:=8) λ_=>rfl,List.length_take];omega
 have:=h.1.cells (g:=n) rfl (j*8+i) v (by
  rw[e1,List.getElem?_append_right am,O,Nat.add_sub_cancel_left];exact T)
 rw[add_plain]at this;show w.cell? (((⟨n,0,none⟩:Addr).add (j*8)).add i)=some v;rw[add_plain,add_plain];simpa[Nat.add_assoc]using this
end
def zN{l:List FR.Rn}:∀u∈iF a l,u.oneCell'=true:=λv J=>by
 obtain⟨x,_,I⟩:=List.mem_flatMap.1 J;simp only[List.mem_cons,List.not_mem_nil,or_false]at I;rcases I with rfl|rfl|rfl|rfl|rfl|rfl|rfl|rfl<;>rfl
def cut8:Value.slice (if c=0 then some (⟨g,0,none⟩:Addr) else(some (⟨g,0,none⟩:Addr)).map (·.add (0*8))) (n-0) (c-0)=dQ g n c:=by
 rw[Option.map_some,add_plain];simp
abbrev FH:FR.St:=⟨1,0,0,0,0,0,0⟩
abbrev xz(id J I:Nat)(K:Int)(nv v:Value):List Value:=[aU id,aA K,nv,aA 1,aU J,aA I,v,aA 0]
theorem LB(x:Operand)(vs:List Value)(h:vs.length=7):Instr.fill (λi=>some (i*7,7)) (Array.map (λx=>(Value.agg #[aA 0,aA 0,cd 0,cd 0,cd 0,aA 0,aA 0]).cells[x%(Value.agg #[aA 0,aA 0,cd 0,cd 0,cd 0,aA 0,aA 0]).cells.size]!) (Array.range (1*7))) ((List.map (λx=>x.fst) [((0:Nat),x)]).zip [.agg vs.toArray])=some vs.toArray:=by
 have e1:Array.range (1*7)=#[0,1,2,3,4,5,6]:=rfl;rw[e1]
 match vs,h with
 | [v0,v1,v2,v3,v4,v5,v6],_=>simp[Instr.fill,Value.cells]
def L5(e:Nat)(a:RfA)(ns:List ND)(M:FR.En)(bs:List UInt8)(p:HP)(v:Value)(m:List HP):Prop:=
 (∃x y,FK.nl bs=.error (x,y)/\v=.tuple #[aU 0,aA x,aA y]/\m=[aZ e a ns M,bx ns,p])\/
 (∃f,FK.nl bs=.ok f/\M.runs.length=6/\FR.Old M none/\v=.tuple #[aU 0,aA 5,aA (-1)]/\m=[aZ e a ns M,bx ns,p])\/
 (∃f I J nd,FK.nl bs=.ok f/\FR.Cutd M I/\v=.tuple #[aU (M.NL+1),aA 0,aA (-1)]/\m=[aZ e J (nd::ns) (I.submit f),bx (nd::ns),p])
def dec_fit{f:FK.Flow}(h:FK.nl bs=.ok f):FK.Fit f:=by
 unfold FK.nl at h
 split at h
 ·cases h
 ·split at h
  ·cases h
  ·split at h
   ·rename_i hc
    injection h with h;subst h;exact FK.qa hc
   ·cases h
def yu{p:HP}(hp:Reads p A bs)(hl:bs.length<=1099511627776)(hF:FR.Fine M)(_:(M.runs.map (·.id)).Nodup)(NZ:∀u∈M.runs,u.id<=M.NL)(OK:M.NL<9223372036854775807)(h6:M.runs.length<=6)(hq:M.NP.length<=400):dS 33 [aY e,.slice A bs.length c] [aZ e a ns M,bx ns,p] (L5 e a ns M bs p):=by
 refine bz func33 Z λE fr hE=>cF<|sS<|sA Z<|sA Z<|sB Z<|sQ ?_
 by_cases hd:∃f,FK.nl bs=.ok f
 ·obtain⟨f,hd⟩:=hd;have d8:=dec_fit hd;have OO:=d8.head.2.1;have Or:=d8.head.2.2;refine sG<|sM Z<|bQ Z (vf hp hl) gfE2 ?_
  rintro v m hv;obtain⟨A',I,OM,rfl,rfl⟩:=hv.ok hd;refine aE<|sM Z<|bG Z Z<|bG Z Z<|bG Z Z<|sO (cO Z λb7=>sO<|bk Z Z Z Z Z eG (by show 0+2<=2;omega) ?_)
  refine aB b7 #[aA f.deadline,.slice A' f.NO.length I] rfl<|sA Z<|sB Z<|sQ<|bp Z<|sP (cy Z Z Z)<|sN<|ag Z<|aa<|sT<|sQ<|cu (X:=RfA×FR.En) (λ_=>[(7,aY b7),(0,aY e)]) (λx=>blk b7 46 #[aA f.deadline,.slice A' f.NO.length I]::aZ e x.1 ns x.2::nodesOwn (.slice A' f.NO.length I) f.NO::p::bx ns::fr) (λx=>FR.Cutd M x.2) ?_ ?_
  ·refine sS<|cE 2 Z Z<|bF (au Z) (ck Z)<|sP (bh Z Z)<|sP (bc Z Z Z)<|sN<|aC Z (λLE=>?_) λLE=>?_
   ·have t6:M.runs.length=6:=by have:(M.runs.length:Int)=6:=LE;omega
    refine sS<|sB Z<|sQ<|sS<|sB Z<|ai<|aO (X:=Nat×Option Nat) (λx=>[(11,aA x.1),(10,aA (FR.MF x.2)),(7,aY b7),(0,aY e)]) (λ_=>blk b7 46 #[aA f.deadline,.slice A' f.NO.length I]::nodesOwn (.slice A' f.NO.length I) f.NO::p::aZ e a ns M::bx ns::fr) (λx=>x.1<=M.runs.length/\FR.OldTo M x.1 x.2) (λx=>M.runs.length-x.1) (0,none) ⟨Nat.zero_le _,⟨λj h=>(by cases h),λ_ k u h=>am⟩⟩ bW aQ ?_
    rintro⟨i,o⟩ ⟨hi,ho⟩;replace hi:i<=M.runs.length:=hi;replace ho:FR.OldTo M i o:=ho;refine sQ<|bp Z<|cE 2 Z Z<|bF (au Z) (ck Z)<|sP (bh Z Z)<|sP (bq Z Z Z)<|sN<|aC Z (λLT=>?_) λLT=>?_
    ·have Y:i<M.runs.length:=by have:(i:Int)<(M.runs.length:Int):=LT;omega
     obtain⟨u,J⟩:∃u,M.runs[i]?=some u:=⟨M.runs[i],by simp[Y]⟩;refine bA (λw hw=>iJ J hw) λ⟨gr,K⟩=>aa<|sT<|sQ<|cu (X:=Nat×Option Nat) (λx=>[(11,aA i),(10,aA (FR.MF x.2)),(7,aY b7),(0,aY e)]) (λ_=>blk b7 46 #[aA f.deadline,.slice A' f.NO.length I]::nodesOwn (.slice A' f.NO.length I) f.NO::p::aZ e a ns M::bx ns::fr) (λx=>FR.OldTo M (i+1) x.2) ?_ ?_
     ·refine ai<|sQ ?_
      by_cases hE:0<u.ended
      ·by_cases hN:o=none
       ·subst hN;refine sZ Z<|ea Z Z<|dy 2 Z Z Z<|bN Z (au Z) (dY K)<|cC Z Z<|bB Z (aV Z Z Z Z Y)<|bB Z (bd 7 Z)<|bN Z (au Z) (cR J K Z)<|bB Z (iT Z Z am)<|cC Z Z<|dT 10 Z (bg Z)<|dT 11 Z (bq Z Z Z)<|dT 12 Z (bg Z)<|dZ 13 Z Z<|dZ 14 Z Z<|dZ 15 Z Z<|dZ 16 Z Z<|dZ 17 Z Z<|dZ 18 Z Z<|dZ 19 Z Z<|dZ 20 Z Z<|dZ 21 Z Z<|dZ 22 Z Z<|dZ 23 Z Z<|dZ 24 Z Z<|dZ 25 Z Z<|dZ 26 Z Z<|dZ 27 Z Z<|dZ 28 Z Z<|dZ 29 Z Z<|dT 30 Z (aF Z Z Z)<|bB Z (aF Z Z Z)<|dE<|sT<|aK Z<|sG<|sM Z<|sA Z<|ap<|al<|aT (i,some i) (ho.take J hE (.inl Z)) bW aQ
       ·obtain⟨j,rfl⟩:∃j,o=some j:=Option.ne_none_iff_exists'.1 hN;obtain⟨ON,ru,hj,Ol,Om⟩:=ho.yes j rfl;have t7:=(gfGet.1 hj).1
        by_cases hL:u.ended<ru.ended
        ·refine sZ Z<|ea Z Z<|dy 2 Z Z Z<|bN Z (au Z) (dY K)<|cC Z Z<|bB Z (aV Z Z Z Z Y)<|bB Z (bd 7 Z)<|bN Z (au Z) (cR J K Z)<|bB Z (iT Z Z am)<|cC Z Z<|dT 10 Z (bg Z)<|dT 11 Z (cK Z Z (by show ¬((j:Nat):Int)<0;omega))<|dT 12 Z (bg Z)<|dT 13 Z (bg Z)<|dT 14 Z (cI Z)<|dT 15 Z (bd 2 Z)<|oW 16 Z (au Z) (dY K)<|dT 17 Z (bg Z)<|dT 18 Z (aV Z Z Z Z Y)<|dT 19 Z (bd 7 Z)<|oW 20 Z (au Z) (cR J K Z)<|dT 21 Z (bg Z)<|dT 22 Z (cI Z)<|dT 23 Z (bd 2 Z)<|oW 24 Z (au Z) (dY K)<|dT 25 Z (bg Z)<|dT 26 Z (aV Z Z Z Z t7)<|dT 27 Z (bd 7 Z)<|oW 28 Z (au Z) (cR hj K Z)<|dT 29 Z (g8 Z Z am)<|dT 30 Z (aF Z Z Z)<|bB Z (aF Z Z Z)<|dE<|sT<|aK Z<|sG<|sM Z<|sA Z<|ap<|al<|aT (i,some i) (ho.take J hE (.inr ⟨j,ru,rfl,hj,hL⟩)) bW aQ
        ·refine sZ Z<|ea Z Z<|dy 2 Z Z Z<|bN Z (au Z) (dY K)<|cC Z Z<|bB Z (aV Z Z Z Z Y)<|bB Z (bd 7 Z)<|bN Z (au Z) (cR J K Z)<|bB Z (iT Z Z am)<|cC Z Z<|dT 10 Z (bg Z)<|dT 11 Z (cK Z Z (by show ¬((j:Nat):Int)<0;omega))<|dT 12 Z (bg Z)<|dT 13 Z (bg Z)<|dT 14 Z (cI Z)<|dT 15 Z (bd 2 Z)<|oW 16 Z (au Z) (dY K)<|dT 17 Z (bg Z)<|dT 18 Z (aV Z Z Z Z Y)<|dT 19 Z (bd 7 Z)<|oW 20 Z (au Z) (cR J K Z)<|dT 21 Z (bg Z)<|dT 22 Z (cI Z)<|dT 23 Z (bd 2 Z)<|oW 24 Z (au Z) (dY K)<|dT 25 Z (bg Z)<|dT 26 Z (aV Z Z Z Z t7)<|dT 27 Z (bd 7 Z)<|oW 28 Z (au Z) (cR hj K Z)<|dT 29 Z (cK Z Z am)<|dT 30 Z (aF Z Z Z)<|bB Z (aF Z Z Z)<|dE<|sT<|ag Z<|aa<|al<|aT (i,some j) (ho.skip J (.inr ⟨j,ru,rfl,hj,am⟩)) bW aQ
      ·refine sZ Z<|ea Z Z<|dy 2 Z Z Z<|bN Z (au Z) (dY K)<|cC Z Z<|bB Z (aV Z Z Z Z Y)<|bB Z (bd 7 Z)<|bN Z (au Z) (cR J K Z)<|bB Z (mN Z Z am)<|cC Z Z<|dZ 10 Z Z<|dZ 11 Z Z<|dZ 12 Z Z<|dZ 13 Z Z<|dZ 14 Z Z<|dZ 15 Z Z<|dZ 16 Z Z<|dZ 17 Z Z<|dZ 18 Z Z<|dZ 19 Z Z<|dZ 20 Z Z<|dZ 21 Z Z<|dZ 22 Z Z<|dZ 23 Z Z<|dZ 24 Z Z<|dZ 25 Z Z<|dZ 26 Z Z<|dZ 27 Z Z<|dZ 28 Z Z<|dZ 29 Z Z<|dZ 30 Z Z<|bB Z (aF Z Z Z)<|dE<|sT<|ag Z<|aa<|al<|aT (i,o) (ho.skip J (.inl am)) bW aQ
     rintro⟨_,o2⟩ NW;replace NW:FR.OldTo M (i+1) o2:=NW;refine sG<|bY Z (dM Z Z)<|sA Z<|ap ?_
     exact aH (i+1,o2) ⟨Y,NW⟩ (by show M.runs.length-(i+1)<M.runs.length-i;omega) bW aQ
    ·have Ot:i=M.runs.length:=by have:¬(i:Int)<(M.runs.length:Int):=LT;omega
     rw[Ot]at ho;have mt:=ho.old;refine aM<|aw<|az<|aq<|sT<|sQ<|sQ ?_
     by_cases hN:o=none
     ·subst hN;exact sG<|bY Z (bq (r:=true) Z Z Z)<|sN<|aK Z<|sS<|sA Z<|sA Z<|sB Z<|an<|aD<|pd<|eV [aZ e a ns M,bx ns,p] rfl Z Z Z (.inr (.inl ⟨f,hd,t6,mt,rfl,rfl⟩))<|Ent.drop.trans<|Ent.drop.trans ((bo bJ bJ))
     ·obtain⟨j,rfl⟩:∃j,o=some j:=Option.ne_none_iff_exists'.1 hN;obtain⟨ru,hj,Ol,Om⟩:=mt.some j rfl;have t7:=(gfGet.1 hj).1;refine bA (p:=∃g,a.rg=some g) (λw hw=>iJ hj hw) λ⟨gr,K⟩=>?_;refine bA (p:=M.runs.length<=a.rc) (λw hw=>EU hw) λN8=>?_;refine sG<|bY Z (cK Z Z (by show ¬((j:Nat):Int)<0;omega))<|sN<|ag Z<|aa<|sT<|sS<|cE 2 Z Z<|bF (au (v:=dQ gr M.runs.length a.rc) Z) (dY K)<|bY Z (KB (v':=dQ gr j a.rc) (ez (z:=8) (a:=0) (b:=j) Z Z Z Z ⟨_,rfl⟩ (Nat.zero_le _) am) cut8) ?_
      refine ao (Ent.row0 (e:=77) (size:=8)) ?_;refine dL rfl (ce (k:=0) (xs:=[]) rfl rfl xN rfl am rfl rfl .head (news:=iF a (M.runs.take j)) (by rw[cV (k:=8) λ_=>rfl,List.length_take];omega) fX (K0 K) zN gk am λN9 OE=>?_);refine sB Z<|sG<|sM Z<|sM Z<|cE 2 Z Z<|bF (au (v:=dQ gr M.runs.length a.rc) Z) (dY K)<|sM Z ?_
      refine sP (bH (r:=((j+1:Nat):Int)) Z Z (by rw[show(FR.MF (some j))=(j:Int) from Z,iP am];omega)) ?_;refine sP (ez (z:=8) (a:=j+1) (b:=M.runs.length) Z Z Z ⟨_,rfl⟩ rfl am N8) ?_;refine dL rfl (ce rfl rfl xN rfl am rfl rfl (HasVal.sel (v:=N9)) (news:=iF a (M.runs.drop (j+1))) (by rw[cV (k:=8) λ_=>rfl,List.length_drop]) (λh=>by split at h<;>cases h) (K5 K am) zN gk am λOL OF=>?_);refine cZ Z<|bm 2 Z ?_
      have Ou:([]++iF a (M.runs.take j))++iF a (M.runs.drop (j+1))=iF a (M.runs.eraseIdx j):=by
       rw[List.nil_append,List.eraseIdx_eq_take_drop_succ];show _=(M.runs.take j++M.runs.drop (j+1)).flatMap _;rw[List.flatMap_append]
      rw[Ou];refine sO (Lh hj (by rw[List.length_eraseIdx_of_lt t7];omega) .head Z Z Z gP λo3 c3=>?_);exact ap<|aT (a.rn o3 c3,M.cut j) (.inr ⟨t6,j,mt,rfl⟩) bW gfE1
   ·have t6:M.runs.length≠6:=by have:¬(M.runs.length:Int)=6:=LE;omega
    exact aa<|aT (a,M) (.inl ⟨t6,rfl⟩) bW<|Ent.cons gfE2
  rintro⟨a0,O⟩ hC;replace hC:FR.Cutd M O:=hC;refine ao (l':=blk b7 46 #[aA f.deadline,.slice A' f.NO.length I]::aZ e a0 ns O::nodesOwn (.slice A' f.NO.length I) f.NO::p::bx ns::fr) aQ ?_;have hO:=hC.ok;refine sQ ?_;have wf:O.NL=M.NL:=hO.lr;have NX:∀v∈O.runs,v.id<=M.NL:=λv hv=>NZ v (hO.runs.subset hv);have Ov:O.runs.length<=M.runs.length:=hO.runs.length_le;have Ow:O.NP=M.NP:=hO.NP;have BT:O.time=M.time:=hO.time;have Fd:O.timers=M.timers:=hO.timers;have NY:=hF.time;have N0:=hF.timers;have Ox:=d8.head.1;unfold FK.span at Ox;refine sG<|cE 4 Z Z<|bF (au (v:=aU O.NL) Z) (ck Z)<|sP (bH (r:=((M.NL+1:Nat):Int)) Z Z (by rw[wf,li];omega))<|cZ Z<|bm 4 Z ?_
  refine sO<|tO (a:=a0) (M:=O) (M':={O with NL:=M.NL+1}) Z Z Z am Z Z Z Z ?_
  refine sN<|sQ ?_
  obtain⟨M1,T⟩:∃M1:FR.En,M1={O with NL:=M.NL+1}:=⟨_,rfl⟩;rw[<-T];refine sZ Z<|ea Z Z<|dy 4 Z Z Z<|bN Z (au (v:=aU (M.NL+1)) Z) (ck (a:=a0) (M:=M1) (show some (aU M1.NL)=_ by rw[T]))<|bN Z (bR (vs:=[aA f.deadline,.slice A' f.NO.length I]) Z) (bl Z)<|bB Z (bI (cs:=(xz (M.NL+1) 0 0 f.deadline (.slice A' f.NO.length I) cB).toArray) Z Z Z Z Z)<|xx Z (cO (z:=.agg #[cd 0,aA 0,cB,aA 0,cd 0,aA 0,cB,aA 0]) Z λd6=>(dK [true,true] (aj (bl Z) (aj (ck (a:=a0) (M:=M1) (show some (aU M1.NL)=_ by rw[T])) ak)) ?_))
  refine dI 7 Z<|bk (vs:=xz (M.NL+1) 0 0 f.deadline (.slice A' f.NO.length I) cB) Z (m:=8) Z Z Z Z eG (by show 0+8<=8;omega) ?_
  refine dK [false,false] ak<|dE<|sT<|sQ<|aB d6 (xz (M.NL+1) 0 0 f.deadline (.slice A' f.NO.length I) cB).toArray Z ?_
  have N1:M1.time=M.time:=by rw[T];exact BT
  have In:M1.timers=M.timers:=by rw[T];exact Fd
  refine sZ Z<|ea Z Z<|dy 0 Z Z Z<|bN Z (au (v:=aU M.time) Z) (ck (a:=a0) (M:=M1) (show some (aU M1.time)=_ by rw[N1]))<|bB Z (bd 0 Z)<|bN Z (au (v:=aA f.deadline) Z) (ah Z) ?_
  refine dI 6 Z<|dP Z (ku M.time f.deadline NY am am) aQ ?_
  rintro v m ⟨rfl,rfl⟩;refine aW<|dK [false,false] ak<|dx 7 Z (bd 4 Z) ?_
  refine dI 8 Z<|cq Z Z Z Z Z fW ?_
  refine dK [] ak<|dE<|sT<|sQ<|aB d6 (xz (M.NL+1) (M.later f.deadline.toNat) 0 f.deadline (.slice A' f.NO.length I) cB).toArray Z<|sG<|sM Z ?_
  refine bV Z (kr (M:=M1) (by rw[In];omega)) gfE1 ?_;refine ae ?_;obtain⟨M2,f7⟩:∃M2:FR.En,M2={M1 with timers:=M1.timers+1}:=⟨_,rfl⟩;rw[<-f7,In];refine bm 5 Z ?_;refine bD Z Z Z Z fW ?_;refine sN<|sQ<|sQ<|aB d6 (xz (M.NL+1) (M.later f.deadline.toNat) (M.timers+1) f.deadline (.slice A' f.NO.length I) cB).toArray Z<|sG<|sB Z<|ai ?_
  refine aO (X:=Nat×Value) (λx=>[(14,aA x.1),(13,aY d6),(7,aY b7),(0,aY e)]) (λx=>blk d6 77 (xz (M.NL+1) (M.later f.deadline.toNat) (M.timers+1) f.deadline (.slice A' f.NO.length I) x.2).toArray::row 125 7 x.2 x.1 (Cm (List.replicate x.1 FH))::aZ e a0 ns M2::blk b7 46 #[aA f.deadline,.slice A' f.NO.length I]::nodesOwn (.slice A' f.NO.length I) f.NO::p::bx ns::fr) (λx=>x.1<=f.NO.length) (λx=>f.NO.length-x.1) (0,cB) (Nat.zero_le _) bW (Ent.cons Ent.row0) ?_;rintro⟨k,v⟩ hk;replace hk:k<=f.NO.length:=hk;refine ao (l':=blk d6 77 (xz (M.NL+1) (M.later f.deadline.toNat) (M.timers+1) f.deadline (.slice A' f.NO.length I) v).toArray::row 125 7 v k (Cm (List.replicate k FH))::aZ e a0 ns M2::blk b7 46 #[aA f.deadline,.slice A' f.NO.length I]::nodesOwn (.slice A' f.NO.length I) f.NO::p::bx ns::fr) aQ ?_;refine sQ<|bp Z<|bm 1 Z<|bF (au (v:=.slice A' f.NO.length I) Z) (ah Z)<|sP (bh Z Z)<|sP (bq Z Z Z)<|sN ?_
  refine aC Z (λd9=>?_) λd9=>?_
  ·have Oy:k<f.NO.length:=by have:(k:Int)<(f.NO.length:Int):=d9;omega
   refine aa<|sT<|sQ<|ai<|sG<|bm 6 Z<|bF (au (v:=v) Z) (ah Z)<|sP (bI (cs:=(sU FH).toArray) Z Z Z Z Z) ?_
   refine sO (dw (m:=1) (z:=.agg #[aA 0,aA 0,cd 0,cd 0,cd 0,aA 0,aA 0]) (size:=7) (ps:=[(0,.tmp 127)]) (vs:=[.agg (sU FH).toArray]) (cs:=(sU FH).toArray) Z Z Z Z am am Z (LB _ _ Z) λOG=>?_);refine dL rfl (ce rfl rfl Ix rfl am rfl rfl (HasVal.sel (v:=v)) (news:=sU FH) rfl fX iy eG gk am λOH Oa=>?_);refine aN .head λA9 c9 NT _ _ _ _ _=>?_;subst NT;refine bm 6 Z ?_;refine bD Z Z Z Z fW ?_;refine ap<|al<|sT<|aB d6 (xz (M.NL+1) (M.later f.deadline.toNat) (M.timers+1) f.deadline (.slice A' f.NO.length I) (.slice A9 (k+1) c9)).toArray Z<|sG<|bY Z (dM Z Z)<|sA Z<|ap ?_
   have N2:Cm (List.replicate k FH)++sU FH=Cm (List.replicate (k+1) FH):=by rw[List.replicate_succ'];show _=(List.replicate k FH++[FH]).flatMap sU;rw[List.flatMap_append];simp
   exact aH (k+1,.slice A9 (k+1) c9) Oy (by show f.NO.length-(k+1)<f.NO.length-k;omega) bW (by rw[N2];exact aG)
  ·have Oz:k=f.NO.length:=by have:¬(k:Int)<(f.NO.length:Int):=d9;omega
   rw[Oz];refine aN bJ λA9 c9 NT Ob Oc _ _ _=>?_;obtain⟨g9,rfl⟩:∃g,A9=some ⟨g,0,none⟩:=by
    cases A9 with
    |none=>have:=(Ob rfl).1;omega
    |some ad=>obtain⟨g,rfl⟩:=Oc ad rfl;exact⟨g,rfl⟩
   subst NT;refine nk kK λvs Od=>(aN .head λA1 c1 NU Oe Of _ _ _=>?_);injection NU with NU _ Oq;subst NU;subst Oq;obtain⟨gn,rfl⟩:∃g,A'=some ⟨g,0,none⟩:=by
    cases A' with
    |none=>have:=(Oe rfl).1;omega
    |some ad=>obtain⟨g,rfl⟩:=Of ad rfl;exact⟨g,rfl⟩
   refine ao (Kq Od) ?_;obtain⟨nd,f8⟩:∃nd:ND,nd=⟨gn,I,vs,f.NO⟩:=⟨_,rfl⟩;obtain⟨pr,NV⟩:∃pr:RP,pr=⟨nd,g9,c9⟩:=⟨_,rfl⟩;obtain⟨u,J⟩:∃u:FR.Rn,u=⟨M.NL+1,f,1,M.later f.deadline.toNat,M.timers+1,List.replicate f.NO.length FH,0⟩:=⟨_,rfl⟩;have t8:u.NN.length=f.NO.length:=by rw[J];simp
   have OA:xz (M.NL+1) (M.later f.deadline.toNat) (M.timers+1) f.deadline (dQ gn f.NO.length I) (dQ g9 f.NO.length c9)=iD pr u:=by
    rw[NV,f8];show _=[Value.int .u64 u.id,aA u.fl.deadline,_,aA u.state,cd u.till,aA u.tillAt,dQ g9 u.NN.length c9,aA u.ended];rw[t8,J]
    rfl
   have N3:row 125 7 (dQ g9 f.NO.length c9) f.NO.length (Cm (List.replicate f.NO.length FH))=row 125 7 (jV pr u) u.NN.length (Cm u.NN):=by
    rw[NV];show _=row _ 7 (dQ g9 u.NN.length c9) _ _;rw[t8,J]
   rw[OA,N3,<-f8];have N4:∀v∈M2.runs,v.id≠u.id:=λv hv=>by
    have h1:v∈O.runs:=by rw[f7,T]at hv;exact hv
    have:=NX v h1;rw[J];show v.id≠M.NL+1;omega
   refine aM<|aw<|az<|aq<|sT<|sQ<|sZ Z<|ea Z Z<|cC Z Z<|dy 2 Z Z Z<|bN Z (au (v:=kv a0 M2) Z) (ck Z)<|bN Z (bR (vs:=iD pr u) Z) (bl Z) ?_
   refine dI 6 Z (dw (m:=1) (z:=zRun) (size:=8) (ps:=[(0,.tmp 136)]) (vs:=[.agg (iD pr u).toArray]) (cs:=(iD pr u).toArray) Z Z Z Z am am Z (Fo _ _ Z) λOI=>?_);refine dK [false,true] (aj (ck Z) ak) ?_;refine bA (p:=kM a0 ns M2) (λw hw=>ng hw) λOg=>?_;refine ao (jw (a:=a0) (M:=M2)) ?_;have N5:M2.runs.length=O.runs.length:=by rw[f7,T]
   refine dR 7 rfl rfl (ce rfl rfl xN rfl am rfl rfl bJ (news:=iD pr u) rfl fX iy eG gk am λOJ Oh=>?_);refine dK [false] ak (aN .head λA8 c8 Oi _ Oj _ _ _=>?_);obtain⟨o8,rfl⟩:=po Oj;subst Oi;refine dx 8 Z (cI Z)<|bB Z (bd 2 Z) ?_
   refine dI 10 Z<|cq (b:=e) (cs:=sm a0 M2) Z Z Z Z Z di ?_
   refine dK [] ak<|dE<|sT<|sQ ?_
   have N6:pr.nd=nd:=by rw[NV]
   have d7:=λr=>Eu (e:=e) (c:=c8) (o:=o8) (p:=pr) (r:=r) Og (by rw[N6,f8,J]) N4;rw[N6]at d7;obtain⟨a2,On⟩:∃a2:RfA,a2=⟨o8,c8,a0.qg,a0.qc,λid=>if id=u.id then pr else a0.ra id⟩:=⟨_,rfl⟩;obtain⟨M3,f9⟩:∃M3:FR.En,M3={M2 with runs:=M2.runs++[u]}:=⟨_,rfl⟩;rw[<-On,<-f9]at d7;have N7:M3=O.begin f:=by
    rw[f9,f7,T,J];unfold FR.En.begin FR.En.later;simp only[wf,BT,Fd]
   have OB:M3.runs.length=O.runs.length+1:=by rw[f9,<-N5];simp
   have OC:M3.runs[O.runs.length]?=some u:=by rw[f9,<-N5];simp
   have OD:M3.NP=M.NP:=by rw[f9,f7,T];exact Ow
   refine ao ((Ent.cons (Ent.cons (Ent.cons (Ent.cons gfE3)))).trans (d7 _)) ?_;refine ao (Ent.cons (Ent.drop.trans ((Ent.cons gfE3).trans y9))) ?_;refine sG<|sM Z<|cE 2 Z Z<|bF (au (v:=kv a2 M3) Z) (ck Z)<|sP (bh Z Z)<|sP (dd (r:=(O.runs.length:Int)) Z Z (by rw[OB,iP am];omega)) ?_
   refine bQ Z (uZ OC (by rw[t8,J]) (by rw[J];exact yd d8) (by rw[J];exact Or) (by rw[OD];omega)) aQ ?_;rintro v m ⟨rfl,g5,c5,rfl⟩;refine aE<|sN<|sS<|bm 0 Z<|bF (au (v:=aU (M.NL+1)) Z) (ah (show some (aU u.id)=_ by rw[J]))<|sA Z<|sA Z<|sB Z<|an ?_
   exact eV [aZ e (a2.q g5 c5) (nd::ns) (M3.wakeN O.runs.length u.NN.length),bx (nd::ns),p] rfl Z Z Z (.inr (.inr ⟨f,O,_,nd,hd,hC,rfl,by rw[t8,N7];rfl⟩))<|Ent.cons<|Ent.cons<|Ent.drop.trans Ent.drop
 ·obtain⟨ex,ey,hd⟩:∃x y,FK.nl bs=.error (x,y):=by
   cases h:FK.nl bs with
   |ok f=>exact absurd ⟨f,h⟩ hd
   |error x=>exact⟨x.1,x.2,rfl⟩
  refine sG<|sM Z ?_
  refine bQ Z (vf hp hl) gfE2 ?_;rintro v m hv;obtain⟨Oo,rfl,rfl⟩:=hv.bad hd;refine ae<|sM Z<|bG Z Z<|bG Z Z<|bG Z Z<|sO (cO (z:=.agg #[aA 0,cB]) Z λb7=>?_)
  refine sO<|bk (vs:=[aA 0,cB]) Z (m:=2) Z Z Z Z eG (by show 0+2<=2;omega) ?_
  refine sA Z<|sB Z<|sQ<|bp Z<|sP (yc Z Z Oo)<|sN<|aK Z<|bp Z<|sM Z<|sA Z<|sA Z<|sA Z<|ap ?_
  exact sT<|an<|aD<|eV [aZ e a ns M,bx ns,p] rfl Z Z Z (.inl ⟨ex,ey,hd,rfl,rfl⟩)<|Ent.drop.trans ((bo bJ bJ))
abbrev eD(t:FR.Tmd):List Value:=[cd t.run,aA t.node,cd t.due,aA t.seq]
abbrev zTmd:Value:=.agg #[cd 0,aA 0,cd 0,aA 0]
theorem ow:fm prog 131 zTmd 4 32:=by unfold fm;kernel_rfl
def pZ(x:Operand)(vs:List Value)(h:vs.length=4):Instr.fill (λi=>some (i*4,4)) (Array.map (λx=>zTmd.cells[x%zTmd.cells.size]!) (Array.range (1*4))) ((List.map (λx=>x.fst) [((0:Nat),x)]).zip [.agg vs.toArray])=some vs.toArray:=by
 have e1:Array.range (1*4)=#[0,1,2,3]:=rfl;rw[e1]
 match vs,h with
 | [v0,v1,v2,v3],_=>simp[Instr.fill,Value.cells]
abbrev pi(v:Value)(l:List FR.Tmd):HP:=row 131 4 v l.length (l.flatMap eD)
section
variable{l:List FR.Tmd}{r:List HP}{b:Nat}{t:FR.Tmd}{e:TypeId}
def tRow_snoc{v:Value}:Ent (row 131 4 v (l.length+1) (l.flatMap eD++eD t)::r) (pi v (l++[t])::r):=by
 have e1:(l++[t]).length=l.length+1:=by simp
 have e2:(l++[t]).flatMap eD=l.flatMap eD++eD t:=by rw[List.flatMap_append];simp
 unfold pi;rw[e1,e2];exact aQ
def cut4:Value.slice (if c=0 then some (⟨g,0,none⟩:Addr) else(some (⟨g,0,none⟩:Addr)).map (·.add (0*4))) (n-0) (c-0)=dQ g n c:=by
 rw[Option.map_some,add_plain];simp
def srcRow{l:List HP}{o:Nat}{size m:Nat}{xs news:List Value}[s:HasRow g l e size m m c xs r](h:∀j u,news[j]?=some u->xs[o+j]?=some u):∀w,Holds E w l->nA (some ⟨g,o,none⟩) news w:=λw hw K I j v J=>by
 injection I with I;subst I;have:=rowAt (g:=g) (o:=o) h w hw j v J;rw[add_plain];exact this
def E3:∀u∈l.flatMap eD,u.oneCell'=true:=λv I=>by
 obtain⟨x,_,E⟩:=List.mem_flatMap.1 I;simp only[List.mem_cons,List.not_mem_nil,or_false]at E;rcases E with rfl|rfl|rfl|rfl<;>rfl
def IN:∀(j:Nat) (u:Value),((l.take b).flatMap eD)[j]?=some u->(l.flatMap eD)[0+j]?=some u:=λj u h=>by
 have e1:l.flatMap eD=(l.take b).flatMap eD++(l.drop b).flatMap eD:=by rw[<-List.flatMap_append,List.take_append_drop]
 rw[Nat.zero_add,e1,List.getElem?_append_left (gfGet.1 h).1];exact h
def IP(I:b<=l.length):∀(j:Nat) (u:Value),((l.drop b).flatMap eD)[j]?=some u->(l.flatMap eD)[b*4+j]?=some u:=λj u h=>by
 have e1:l.flatMap eD=(l.take b).flatMap eD++(l.drop b).flatMap eD:=by rw[<-List.flatMap_append,List.take_append_drop]
 have E:((l.take b).flatMap eD).length=b*4:=by rw[cV (k:=4) λ_=>rfl,List.length_take];omega
 rw[e1,List.getElem?_append_right am,E,Nat.add_sub_cancel_left];exact h
def KR{l:List HP}{lt:List FR.Tmd}[s:HasRow g l e 4 lt.length lt.length c (lt.flatMap eD) r](K:b<=lt.length)(hc:lt.length<=c):∀w,Holds E w l->nA (if c=b then some ⟨g,0,none⟩ else(some ⟨g,0,none⟩:Option Addr).map (·.add (b*4))) ((lt.drop b).flatMap eD) w:=λw hw O I j v J=>by
 have hi:=(gfGet.1 J).1;rw[cV (k:=4) λ_=>rfl,List.length_drop]at hi;rw[if_neg am]at I;injection I with I;subst I;have:=rowAt (g:=g) (o:=b*4) (IP K) w hw j v J;show w.cell? (((⟨g,0,none⟩:Addr).add (b*4)).add j)=some v;rw[add_plain,add_plain];simpa using this
def KL:∀(j:Nat) (u:Value),(dW t)[j]?=some u->(eD t)[j]?=some u:=λj u h=>by
 rcases j with _|_|_|j
 ·exact h
 ·exact h
 ·exact h
 ·cases h
def yt{e:Nat}(h:FR.Fine M):dz G 24 [aY e] [aZ e a ns M] λv m=>m=[aZ e a ns M,row 129 3 v M.tms.length (M.tms.flatMap dW)]:=by
 have Oj:=fv h;have Oz:=h.runs;refine bz func24 Z λE fr hE=>ae<|sS<|sB Z<|sS<|sB Z ?_
 refine sQ<|cu (X:=Value) (λv=>[(3,v),(0,aY e)]) (λv=>pi v M.tml::aZ e a ns M::fr) (λ_=>M.tml.length<=30000) ?_ ?_
 ·refine sS<|sB Z<|ai ?_
  refine aO (X:=Nat×Value) (λx=>[(4,aA x.1),(3,x.2),(0,aY e)]) (λx=>pi x.2 (M.tmlN x.1)::aZ e a ns M::fr) (λx=>x.1<=M.runs.length/\(M.tmlN x.1).length<=x.1*300) (λx=>M.runs.length-x.1) (0,cB) ⟨Nat.zero_le _,cx _⟩ bW Ent.row0 ?_;rintro⟨i,v3⟩ ⟨hi,I⟩;replace hi:i<=M.runs.length:=hi;replace I:(M.tmlN i).length<=i*300:=I;refine ao (l':=pi v3 (M.tmlN i)::aZ e a ns M::fr) aQ ?_;refine sQ<|bp Z<|cE 2 Z Z<|bF (au (v:=kv a M) Z) (ck Z)<|sP (bh Z Z)<|sP (bq Z Z Z)<|sN ?_
  refine aC Z (λt8=>?_) λt8=>?_
  ·have f7:i<M.runs.length:=by have:(i:Int)<(M.runs.length:Int):=t8;omega
   obtain⟨u,hu⟩:∃u,M.runs[i]?=some u:=⟨M.runs[i],by simp[f7]⟩;have OA:=Oj u (cg hu);have NT:=FR.FV hu;refine bA (p:=∃g,a.rg=some g) (λw hw=>iJ hu hw) λ⟨gr,hg⟩=>?_;refine aa<|sT<|sQ<|ai<|sS<|cE 2 Z Z<|bF (au (v:=dQ gr M.runs.length a.rc) Z) (dY hg)<|bY Z (aV (z:=8) Z Z Z Z f7)<|bF (bR (vs:=iD (a.ra u.id) u) Z) (lW hu hg)<|sO (cO (z:=.agg #[cd 0,aA 0,cB,aA 0,cd 0,aA 0,cB,aA 0]) Z λb5=>?_)
   refine sO<|bk (vs:=iD (a.ra u.id) u) Z (m:=8) Z Z Z Z eG (by show 0+8<=8;omega) ?_
   refine aB b5 (iD (a.ra u.id) u).toArray Z<|sN<|sQ<|sS<|bm 3 Z<|bF (au (v:=aA u.state) Z) (ah Z)<|sP (cy Z Z Z)<|sN ?_
   refine aC Z (λwf=>?_) λwf=>?_
   ·have d9:u.state≠1:=wf;refine aM<|aw<|aq<|sT<|sG<|bY Z (dM Z Z)<|sA Z<|ap ?_
    have N4:u.acts i=[]:=if_neg d9;have e1:M.tmlN (i+1)=M.tmlN i:=by rw[NT,N4];simp
    exact aH (i+1,v3) ⟨f7,by show(M.tmlN (i+1)).length<=_;rw[e1];omega⟩ (by show M.runs.length-(i+1)<M.runs.length-i;omega) bW (by show Ent _ (pi v3 (M.tmlN (i+1))::_);rw[e1];exact Ent.drop)
   ·have d9:u.state=1:=Decidable.not_not.1 wf;obtain⟨hd,N0⟩:∃hd:FR.Ac,hd=⟨i,-1,false,u.till,u.tillAt⟩:=⟨_,rfl⟩;obtain⟨La,Oh⟩:∃La,La=M.tmlN i:=⟨_,rfl⟩;rw[<-Oh]at I NT ⊢;obtain⟨C,hC⟩:∃C:Nat->List FR.Tmd,C=λk=>La++(hd::FR.ll i u.NN k).map (FR.Ac.tmd u.id):=⟨_,rfl⟩;have N5:C 0=La++[hd.tmd u.id]:=by rw[hC];rfl
    refine aa<|sT<|bp Z<|bm 0 Z<|bF (au (v:=aU u.id) Z) (ah Z)<|bm 4 Z<|bF (au (v:=aU u.till) Z) (ah Z)<|sP (bI (cs:=#[aU u.id,aA (-1),aU u.till]) Z Z Z Z Z)<|bm 5 Z<|bF (au (v:=aA (u.tillAt:Int)) Z) (ah Z)<|sP (bI (cs:=(eD (hd.tmd u.id)).toArray) Z Z Z Z (by rw[N0];rfl)) ?_
    refine sO (dw (m:=1) (z:=zTmd) (size:=4) (ps:=[(0,.tmp 39)]) (vs:=[.agg (eD (hd.tmd u.id)).toArray]) (cs:=(eD (hd.tmd u.id)).toArray) Z Z Z Z am am Z (pZ _ _ Z) λOx=>?_);refine dL rfl (ce rfl rfl ow rfl am rfl rfl (HasVal.sel (v:=v3)) (news:=eD (hd.tmd u.id)) rfl fX iy eG gk am λN8 Ot=>?_);refine sB Z<|sQ<|ao tRow_snoc ?_
    rw[<-N5];refine sG<|sB Z<|ai ?_
    refine aO (X:=Nat×Value) (λx=>[(6,aA x.1),(5,aY b5),(4,aA i),(3,x.2),(0,aY e)]) (λx=>pi x.2 (C x.1)::blk b5 77 (iD (a.ra u.id) u).toArray::aZ e a ns M::fr) (λx=>x.1<=u.NN.length/\(C x.1).length<=La.length+1+2*x.1) (λx=>u.NN.length-x.1) (0,N8) ⟨Nat.zero_le _,by rw[N5];simp⟩ bW aG ?_;rintro⟨k,v⟩ ⟨hk,N2⟩;replace hk:k<=u.NN.length:=hk;replace N2:(C k).length<=La.length+1+2*k:=N2;refine ao (l':=pi v (C k)::blk b5 77 (iD (a.ra u.id) u).toArray::aZ e a ns M::fr) aQ ?_;refine sQ<|bp Z<|bm 6 Z<|bF (au (v:=jV (a.ra u.id) u) Z) (ah Z)<|sP (bh Z Z)<|sP (bq Z Z Z)<|sN ?_
    refine aC Z (λBT=>?_) λBT=>?_
    ·have NU:k<u.NN.length:=by have:(k:Int)<(u.NN.length:Int):=BT;omega
     obtain⟨s,hs⟩:∃s,u.NN[k]?=some s:=⟨u.NN[k],by simp[NU]⟩;obtain⟨Y,LE⟩:∃Y:FR.Ac,Y=⟨i,(k:Int),false,s.fin,s.finAt⟩:=⟨_,rfl⟩;obtain⟨a2,N1⟩:∃a2:FR.Ac,a2=⟨i,(k:Int),true,s.sign,s.signAt⟩:=⟨_,rfl⟩;have Ol:s.acts i k=(if s.state=3\/s.state=4 then[Y] else[])++if s.state=3/\0<s.sign then[a2] else[]:=by rw[LE,N1];rfl
     obtain⟨D1,d8⟩:∃D1,D1=C k++if s.state=3\/s.state=4 then[Y.tmd u.id] else[]:=⟨_,rfl⟩
     have T:C (k+1)=D1++if s.state=3/\0<s.sign then[a2.tmd u.id] else[]:=by
      rw[d8,hC];simp only[FR.vz hs,Ol,List.map_append,List.map_cons,List.append_assoc,List.cons_append]
      congr 3
      congr 1
      ·split<;>rfl
      ·split<;>rfl
     have Ow:D1.length<=(C k).length+1:=by rw[d8,List.length_append];split<;>simp
     have N6:(C (k+1)).length<=La.length+1+2*(k+1):=by rw[T,List.length_append];have:(if s.state=3/\0<s.sign then[a2.tmd u.id] else[]).length<=1:=(by split<;>simp);omega
     refine aa<|sT ?_
     refine sQ<|cu (X:=Value) (λv=>[(6,aA k),(5,aY b5),(4,aA i),(3,v),(0,aY e)]) (λv=>pi v (C (k+1))::blk b5 77 (iD (a.ra u.id) u).toArray::aZ e a ns M::fr) (λ_=>True) ?_ ?_
     ·refine ai<|sS<|bm 6 Z<|bF (au (v:=jV (a.ra u.id) u) Z) (ah Z)<|bY Z (aV (z:=7) Z Z Z Z NU)<|bF (bR (vs:=sU s) Z) (s9 hu Z hs)<|sO (cO (z:=.agg #[aA 0,aA 0,cd 0,cd 0,cd 0,aA 0,aA 0]) Z λb7=>?_)
      refine sO<|bk (vs:=sU s) Z (m:=7) Z Z Z Z eG (by show 0+7<=7;omega) ?_
      refine aB b7 (sU s).toArray Z<|sN ?_
      refine sQ<|cu (X:=Value) (λv=>[(7,aY b7),(6,aA k),(5,aY b5),(4,aA i),(3,v),(0,aY e)]) (λv=>pi v D1::blk b7 125 (sU s).toArray::blk b5 77 (iD (a.ra u.id) u).toArray::aZ e a ns M::fr) (λ_=>True) ?_ ?_
      ·refine sQ ?_
       by_cases hA:s.state=3
       ·refine sG<|bm 0 Z<|bF (au (v:=aA s.state) Z) (ah Z)<|sP (dg Z Z hA)<|sM Z<|aR Z<|aR Z<|aR Z<|sP (aF Z Z Z)<|sN<|aK Z<|sG<|sM Z<|bm 0 Z<|bF (au (v:=aU u.id) Z) (ah Z)<|sM Z<|bm 3 Z<|bF (au (v:=aU s.fin) Z) (ah Z)<|sP (bI (cs:=#[aU u.id,aA (k:Int),aU s.fin]) Z Z Z Z Z) ?_
        refine bm 5 Z<|bF (au (v:=aA (s.finAt:Int)) Z) (ah Z)<|sP (bI (cs:=(eD (Y.tmd u.id)).toArray) Z Z Z Z (by rw[LE];rfl)) ?_
        refine sO (dw (m:=1) (z:=zTmd) (size:=4) (ps:=[(0,.tmp 71)]) (vs:=[.agg (eD (Y.tmd u.id)).toArray]) (cs:=(eD (Y.tmd u.id)).toArray) Z Z Z Z am am Z (pZ _ _ Z) λN9=>?_);refine dL rfl (ce rfl rfl ow rfl am rfl rfl (HasVal.sel (v:=v)) (news:=eD (Y.tmd u.id)) rfl fX iy eG gk am λFd NX=>?_);refine sA Z<|ap ?_
        have e1:D1=C k++[Y.tmd u.id]:=by rw[d8,if_pos (.inl hA)]
        exact aT Fd trivial bW<|tRow_snoc.trans (by rw[e1];exact Ent.cons Ent.drop)
       ·by_cases hB:s.state=4
        ·refine sG<|bm 0 Z<|bF (au (v:=aA s.state) Z) (ah Z)<|sP (eE Z Z hA)<|sM Z<|bO (bd 0 Z)<|fM (au (v:=aA s.state) Z) (ah Z)<|bO (dg Z Z hB)<|sP (aF Z Z Z)<|sN<|aK Z<|sG<|sM Z<|bm 0 Z<|bF (au (v:=aU u.id) Z) (ah Z)<|sM Z<|bm 3 Z<|bF (au (v:=aU s.fin) Z) (ah Z)<|sP (bI (cs:=#[aU u.id,aA (k:Int),aU s.fin]) Z Z Z Z Z) ?_
         refine bm 5 Z<|bF (au (v:=aA (s.finAt:Int)) Z) (ah Z)<|sP (bI (cs:=(eD (Y.tmd u.id)).toArray) Z Z Z Z (by rw[LE];rfl)) ?_
         refine sO (dw (m:=1) (z:=zTmd) (size:=4) (ps:=[(0,.tmp 71)]) (vs:=[.agg (eD (Y.tmd u.id)).toArray]) (cs:=(eD (Y.tmd u.id)).toArray) Z Z Z Z am am Z (pZ _ _ Z) λN9=>?_);refine dL rfl (ce rfl rfl ow rfl am rfl rfl (HasVal.sel (v:=v)) (news:=eD (Y.tmd u.id)) rfl fX iy eG gk am λFd NX=>?_);refine sA Z<|ap ?_
         have e1:D1=C k++[Y.tmd u.id]:=by rw[d8,if_pos (.inr hB)]
         exact aT Fd trivial bW<|tRow_snoc.trans (by rw[e1];exact Ent.cons Ent.drop)
        ·refine sG<|bm 0 Z<|bF (au (v:=aA s.state) Z) (ah Z)<|sP (eE Z Z hA)<|sM Z<|bO (bd 0 Z)<|fM (au (v:=aA s.state) Z) (ah Z)<|bO (eE Z Z hB)<|sP (aF Z Z Z)<|sN<|ag Z<|aa ?_
         have e1:D1=C k:=by rw[d8,if_neg (by rintro(h|h);exact hA h;exact hB h),List.append_nil]
         exact aT v trivial bW (by rw[e1];exact gfE1)
      intro v1 _;refine sQ ?_
      by_cases hA:s.state=3
      ·by_cases hB:0<s.sign
       ·refine sG<|bm 0 Z<|bF (au (v:=aA s.state) Z) (ah Z)<|sP (dg Z Z hA)<|sM Z<|bO (bd 4 Z)<|fM (au (v:=aU s.sign) Z) (ah Z)<|bO (iT Z Z am)<|sP (aF Z Z Z)<|sN<|aK Z<|sG<|sM Z<|bm 0 Z<|bF (au (v:=aU u.id) Z) (ah Z)<|sM Z<|bm 4 Z<|bF (au (v:=aU s.sign) Z) (ah Z)<|sP (bI (cs:=#[aU u.id,aA (k:Int),aU s.sign]) Z Z Z Z Z) ?_
        refine bm 6 Z<|bF (au (v:=aA (s.signAt:Int)) Z) (ah Z)<|sP (bI (cs:=(eD (a2.tmd u.id)).toArray) Z Z Z Z (by rw[N1];rfl)) ?_
        refine sO (dw (m:=1) (z:=zTmd) (size:=4) (ps:=[(0,.tmp 91)]) (vs:=[.agg (eD (a2.tmd u.id)).toArray]) (cs:=(eD (a2.tmd u.id)).toArray) Z Z Z Z am am Z (pZ _ _ Z) λOy=>?_);refine dL rfl (ce rfl rfl ow rfl am rfl rfl (HasVal.sel (v:=v1)) (news:=eD (a2.tmd u.id)) rfl fX iy eG gk am λOa Ou=>?_);refine sA Z<|ap<|al ?_
        rw[if_pos ⟨hA,hB⟩]at T;exact aT Oa trivial bW<|tRow_snoc.trans (by rw[T];exact Ent.cons (Ent.drop.trans Ent.drop))
       ·refine sG<|bm 0 Z<|bF (au (v:=aA s.state) Z) (ah Z)<|sP (dg Z Z hA)<|sM Z<|bO (bd 4 Z)<|fM (au (v:=aU s.sign) Z) (ah Z)<|bO (mN Z Z am)<|sP (aF Z Z Z)<|sN<|ag Z<|aa<|al ?_
        rw[if_neg (λh=>hB h.2),List.append_nil]at T;exact aT v1 trivial bW (by rw[T];exact Ent.cons Ent.drop)
      ·refine sG<|bm 0 Z<|bF (au (v:=aA s.state) Z) (ah Z)<|sP (eE Z Z hA)<|sM Z<|aR Z<|aR Z<|aR Z<|sP (aF Z Z Z)<|sN<|ag Z<|aa<|al ?_
       rw[if_neg (λh=>hA h.1),List.append_nil]at T;exact aT v1 trivial bW (by rw[T];exact Ent.cons Ent.drop)
     intro vn _;refine sG<|bY Z (dM Z Z)<|sA Z<|ap ?_
     exact aH (k+1,vn) ⟨NU,N6⟩ (by show u.NN.length-(k+1)<u.NN.length-k;omega) bW aQ
    ·have Om:k=u.NN.length:=by have:¬(k:Int)<(u.NN.length:Int):=BT;omega
     refine aM<|aw<|az<|aq<|al<|sT<|sG<|bY Z (dM Z Z)<|sA Z<|ap ?_
     have e1:M.tmlN (i+1)=C k:=by
      have e2:u.acts i=hd::FR.ll i u.NN u.NN.length:=by rw[N0];exact if_pos d9
      rw[NT,e2,hC,Om]
     exact aH (i+1,v) ⟨f7,by show(M.tmlN (i+1)).length<=(i+1)*300;rw[e1];omega⟩ (by show M.runs.length-(i+1)<M.runs.length-i;omega) bW (by show Ent _ (pi v (M.tmlN (i+1))::_);rw[e1];exact Ent.cons Ent.drop)
  ·have NV:i=M.runs.length:=by have:¬(i:Int)<(M.runs.length:Int):=t8;omega
   refine aM<|aw<|az<|aq ?_
   rw[NV]at I ⊢;exact aT v3 (by show M.tml.length<=30000;have e1:M.tml.length=(M.tmlN M.runs.length).length:=rfl;omega) bW aQ
 intro v0 LT;refine sS<|sB Z<|sQ<|ai ?_
 refine aO (X:=Value×List FR.Tmd×Value×List FR.Tmd) (λx=>[(8,x.2.2.1),(3,x.1),(0,aY e)]) (λx=>pi x.1 x.2.1::row 129 3 x.2.2.1 x.2.2.2.length (x.2.2.2.flatMap dW)::aZ e a ns M::fr) (λx=>x.2.2.2++FR.sel x.2.1 x.2.1.length=M.tms/\x.2.1.length+x.2.2.2.length<=30000) (λx=>x.2.1.length) (v0,M.tml,cB,[]) ⟨rfl,LT⟩ bW (Ent.cons Ent.row0) ?_;rintro⟨v3,lt,v8,out⟩ ⟨d6,t6⟩;replace d6:out++FR.sel lt lt.length=M.tms:=d6;replace t6:lt.length+out.length<=30000:=t6;refine ao (l':=pi v3 lt::row 129 3 v8 out.length (out.flatMap dW)::aZ e a ns M::fr) aQ ?_;refine aN .head λA3 c3 Ob Oc Od NY _ _=>?_;subst Ob;refine sQ<|bp Z<|sP (bh Z Z)<|sP (dX Z Z Z)<|sN ?_
 refine aC Z (λIn=>?_) λIn=>?_
 ·have t7:0<lt.length:=by have:(0:Int)<(lt.length:Int):=In;omega
  obtain⟨g3,rfl⟩:∃g,A3=some ⟨g,0,none⟩:=by
   cases A3 with
   |none=>have:=(Oc rfl).1;omega
   |some ad=>obtain⟨g,rfl⟩:=Od ad rfl;exact⟨g,rfl⟩
  refine aa<|sT<|ai<|sS<|sB Z<|sQ<|sS<|sB Z<|ai ?_
  refine aO (X:=Nat×Nat) (λx=>[(10,aA x.1),(9,aA x.2),(8,v8),(3,dQ g3 lt.length c3),(0,aY e)]) (λ_=>pi (dQ g3 lt.length c3) lt::row 129 3 v8 out.length (out.flatMap dW)::aZ e a ns M::fr) (λx=>x.1<=lt.length/\x.2=FR.eQ lt x.1/\x.2<lt.length) (λx=>lt.length-x.1) (1,0) ⟨t7,(FR.Er lt).symm,t7⟩ bW aQ ?_;rintro⟨i,b⟩ ⟨hi,hb,J⟩;replace hi:i<=lt.length:=hi;replace hb:b=FR.eQ lt i:=hb;replace J:b<lt.length:=J;obtain⟨tb,K⟩:∃tb,lt[b]?=some tb:=⟨lt[b],by simp[J]⟩;refine sQ<|bp Z<|bY Z (bh Z Z)<|sP (bq Z Z Z)<|sN ?_
  refine aC Z (λd7=>?_) λd7=>?_
  ·have I:i<lt.length:=by have:(i:Int)<(lt.length:Int):=d7;omega
   obtain⟨ti,O⟩:∃ti,lt[i]?=some ti:=⟨lt[i],by simp[I]⟩;have f8:=FR.sg O (by rw[<-hb];exact K);refine aa<|sT ?_
   refine sQ<|cu (X:=Nat) (λx=>[(10,aA i),(9,aA x),(8,v8),(3,dQ g3 lt.length c3),(0,aY e)]) (λ_=>pi (dQ g3 lt.length c3) lt::row 129 3 v8 out.length (out.flatMap dW)::aZ e a ns M::fr) (λx=>x=FR.eQ lt (i+1)/\x<lt.length) ?_ ?_
   ·refine ai<|sQ ?_
    by_cases h1:ti.due<tb.due
    ·refine sZ Z<|ea Z Z<|cC Z Z<|bB Z (aV (z:=4) (i:=i) Z Z Z Z I)<|bB Z (bd 0 Z)<|bB Z (bd 2 Z) ?_
     refine jW 5 Z (au (v:=aU ti.due) Z) (gI (eI (k:=4) (f:=eD) (λ_=>rfl) O 2 _ Z)) ?_;refine dx 6 Z (bg Z)<|cC Z Z<|bB Z (aV (z:=4) (i:=b) Z Z Z Z J)<|bB Z (bd 0 Z)<|bB Z (bd 2 Z) ?_
     refine jW 11 Z (au (v:=aU tb.due) Z) (gI (eI (k:=4) (f:=eD) (λ_=>rfl) K 2 _ Z)) ?_;refine dx 12 Z (g8 Z Z am)<|cC Z Z<|dZ 14 Z Z<|dZ 15 Z Z<|dZ 16 Z Z<|dZ 17 Z Z<|dZ 18 Z Z<|dZ 19 Z Z<|dZ 20 Z Z<|dZ 21 Z Z<|dZ 22 Z Z<|dZ 23 Z Z<|dZ 24 Z Z<|dZ 25 Z Z<|dZ 26 Z Z<|dZ 27 Z Z<|dZ 28 Z Z<|dZ 29 Z Z<|dZ 30 Z Z<|dZ 31 Z Z ?_
     refine dZ 32 Z Z<|dZ 33 Z Z<|dZ 34 Z Z<|dZ 35 Z Z<|dZ 36 Z Z<|dZ 37 Z Z<|dZ 38 Z Z<|dZ 39 Z Z<|bB Z (aF Z Z Z)<|dE<|sT<|aK Z<|sG<|sM Z<|sA Z<|ap<|al ?_
     exact aT i ⟨by rw[f8,if_pos (.inl h1)],I⟩ bW aQ
    ·by_cases h2:ti.due=tb.due
     ·by_cases h3:ti.seq<tb.seq
      ·refine sZ Z<|ea Z Z<|cC Z Z<|bB Z (aV (z:=4) (i:=i) Z Z Z Z I)<|bB Z (bd 0 Z)<|bB Z (bd 2 Z) ?_
       refine jW 5 Z (au (v:=aU ti.due) Z) (gI (eI (k:=4) (f:=eD) (λ_=>rfl) O 2 _ Z)) ?_;refine dx 6 Z (bg Z)<|cC Z Z<|bB Z (aV (z:=4) (i:=b) Z Z Z Z J)<|bB Z (bd 0 Z)<|bB Z (bd 2 Z) ?_
       refine jW 11 Z (au (v:=aU tb.due) Z) (gI (eI (k:=4) (f:=eD) (λ_=>rfl) K 2 _ Z)) ?_;refine dx 12 Z (cK Z Z am)<|cC Z Z<|dT 14 Z (bg Z)<|dT 15 Z (bg Z)<|dT 16 Z (aV (z:=4) (i:=i) Z Z Z Z I)<|dT 17 Z (bd 0 Z)<|dT 18 Z (bd 2 Z) ?_
       refine oW 19 Z (au (v:=aU ti.due) Z) (gI (eI (k:=4) (f:=eD) (λ_=>rfl) O 2 _ Z)) ?_;refine dT 20 Z (bg Z)<|dT 21 Z (bg Z)<|dT 22 Z (aV (z:=4) (i:=b) Z Z Z Z J)<|dT 23 Z (bd 0 Z)<|dT 24 Z (bd 2 Z) ?_
       refine oW 25 Z (au (v:=aU tb.due) Z) (gI (eI (k:=4) (f:=eD) (λ_=>rfl) K 2 _ Z)) ?_;refine dT 26 Z (dg Z Z am)<|dT 27 Z (bg Z)<|dT 28 Z (bg Z)<|dT 29 Z (bg Z)<|dT 30 Z (aV (z:=4) (i:=i) Z Z Z Z I)<|dT 31 Z (bd 3 Z) ?_
       refine oW 32 Z (au (v:=aA (ti.seq:Int)) Z) (gI (eI (k:=4) (f:=eD) (λ_=>rfl) O 3 _ Z)) ?_;refine dT 33 Z (bg Z)<|dT 34 Z (bg Z)<|dT 35 Z (aV (z:=4) (i:=b) Z Z Z Z J)<|dT 36 Z (bd 3 Z) ?_
       refine oW 37 Z (au (v:=aA (tb.seq:Int)) Z) (gI (eI (k:=4) (f:=eD) (λ_=>rfl) K 3 _ Z)) ?_;refine dT 38 Z (g8 Z Z am)<|dT 39 Z (aF Z Z Z)<|bB Z (aF Z Z Z)<|dE<|sT<|aK Z<|sG<|sM Z<|sA Z<|ap<|al ?_
       exact aT i ⟨by rw[f8,if_pos (.inr ⟨h2,h3⟩)],I⟩ bW aQ
      ·refine sZ Z<|ea Z Z<|cC Z Z<|bB Z (aV (z:=4) (i:=i) Z Z Z Z I)<|bB Z (bd 0 Z)<|bB Z (bd 2 Z) ?_
       refine jW 5 Z (au (v:=aU ti.due) Z) (gI (eI (k:=4) (f:=eD) (λ_=>rfl) O 2 _ Z)) ?_;refine dx 6 Z (bg Z)<|cC Z Z<|bB Z (aV (z:=4) (i:=b) Z Z Z Z J)<|bB Z (bd 0 Z)<|bB Z (bd 2 Z) ?_
       refine jW 11 Z (au (v:=aU tb.due) Z) (gI (eI (k:=4) (f:=eD) (λ_=>rfl) K 2 _ Z)) ?_;refine dx 12 Z (cK Z Z am)<|cC Z Z<|dT 14 Z (bg Z)<|dT 15 Z (bg Z)<|dT 16 Z (aV (z:=4) (i:=i) Z Z Z Z I)<|dT 17 Z (bd 0 Z)<|dT 18 Z (bd 2 Z) ?_
       refine oW 19 Z (au (v:=aU ti.due) Z) (gI (eI (k:=4) (f:=eD) (λ_=>rfl) O 2 _ Z)) ?_;refine dT 20 Z (bg Z)<|dT 21 Z (bg Z)<|dT 22 Z (aV (z:=4) (i:=b) Z Z Z Z J)<|dT 23 Z (bd 0 Z)<|dT 24 Z (bd 2 Z) ?_
       refine oW 25 Z (au (v:=aU tb.due) Z) (gI (eI (k:=4) (f:=eD) (λ_=>rfl) K 2 _ Z)) ?_;refine dT 26 Z (dg Z Z am)<|dT 27 Z (bg Z)<|dT 28 Z (bg Z)<|dT 29 Z (bg Z)<|dT 30 Z (aV (z:=4) (i:=i) Z Z Z Z I)<|dT 31 Z (bd 3 Z) ?_
       refine oW 32 Z (au (v:=aA (ti.seq:Int)) Z) (gI (eI (k:=4) (f:=eD) (λ_=>rfl) O 3 _ Z)) ?_;refine dT 33 Z (bg Z)<|dT 34 Z (bg Z)<|dT 35 Z (aV (z:=4) (i:=b) Z Z Z Z J)<|dT 36 Z (bd 3 Z) ?_
       refine oW 37 Z (au (v:=aA (tb.seq:Int)) Z) (gI (eI (k:=4) (f:=eD) (λ_=>rfl) K 3 _ Z)) ?_;refine dT 38 Z (cK Z Z am)<|dT 39 Z (aF Z Z Z)<|bB Z (aF Z Z Z)<|dE<|sT<|ag Z<|aa<|al ?_
       exact aT b ⟨by rw[f8,if_neg (by rintro(h|h);exact h1 h;exact h3 h.2)];exact hb,J⟩ bW aQ
     ·refine sZ Z<|ea Z Z<|cC Z Z<|bB Z (aV (z:=4) (i:=i) Z Z Z Z I)<|bB Z (bd 0 Z)<|bB Z (bd 2 Z) ?_
      refine jW 5 Z (au (v:=aU ti.due) Z) (gI (eI (k:=4) (f:=eD) (λ_=>rfl) O 2 _ Z)) ?_;refine dx 6 Z (bg Z)<|cC Z Z<|bB Z (aV (z:=4) (i:=b) Z Z Z Z J)<|bB Z (bd 0 Z)<|bB Z (bd 2 Z) ?_
      refine jW 11 Z (au (v:=aU tb.due) Z) (gI (eI (k:=4) (f:=eD) (λ_=>rfl) K 2 _ Z)) ?_;refine dx 12 Z (cK Z Z am)<|cC Z Z<|dT 14 Z (bg Z)<|dT 15 Z (bg Z)<|dT 16 Z (aV (z:=4) (i:=i) Z Z Z Z I)<|dT 17 Z (bd 0 Z)<|dT 18 Z (bd 2 Z) ?_
      refine oW 19 Z (au (v:=aU ti.due) Z) (gI (eI (k:=4) (f:=eD) (λ_=>rfl) O 2 _ Z)) ?_;refine dT 20 Z (bg Z)<|dT 21 Z (bg Z)<|dT 22 Z (aV (z:=4) (i:=b) Z Z Z Z J)<|dT 23 Z (bd 0 Z)<|dT 24 Z (bd 2 Z) ?_
      refine oW 25 Z (au (v:=aU tb.due) Z) (gI (eI (k:=4) (f:=eD) (λ_=>rfl) K 2 _ Z)) ?_;refine dT 26 Z (eE Z Z am)<|dT 27 Z (bg Z)<|dZ 28 Z Z<|dZ 29 Z Z<|dZ 30 Z Z<|dZ 31 Z Z<|dZ 32 Z Z<|dZ 33 Z Z<|dZ 34 Z Z<|dZ 35 Z Z<|dZ 36 Z Z<|dZ 37 Z Z<|dZ 38 Z Z<|dT 39 Z (aF Z Z Z)<|bB Z (aF Z Z Z)<|dE<|sT<|ag Z<|aa<|al ?_
      exact aT b ⟨by rw[f8,if_neg (by rintro(h|h);exact h1 h;exact h2 h.1)];exact hb,J⟩ bW aQ
   rintro b2 ⟨Oi,N3⟩;refine sG<|bY Z (dM Z Z)<|sA Z<|ap ?_
   exact aH (i+1,b2) ⟨I,Oi,N3⟩ (by show lt.length-(i+1)<lt.length-i;omega) bW aQ
  ·have NV:i=lt.length:=by have:¬(i:Int)<(lt.length:Int):=d7;omega
   rw[NV]at hb;refine aM<|aw<|az<|aq<|sT<|bp Z<|sM Z<|bY Z (aV (z:=4) (i:=b) Z Z Z Z J)<|bm 0 Z ?_
   refine bF (bR (vs:=dW tb) Z) (rowAt λj u hj=>eI (k:=4) (f:=eD) (λ_=>rfl) K j u (KL j u hj)) ?_;refine sO (dw (m:=1) (z:=zTmr) (size:=3) (ps:=[(0,.tmp 150)]) (vs:=[.agg (dW tb).toArray]) (cs:=(dW tb).toArray) Z Z Z Z am am Z (Ae _ _ Z) λOv=>?_);refine dL rfl (ce rfl rfl Fh rfl am rfl rfl (HasVal.sel (v:=v8)) (news:=dW tb) rfl fX iy eG gk am λf9 Oe=>?_);refine sB Z<|bp Z<|bY Z (KB (v':=dQ g3 b c3) (ez (z:=4) (a:=0) (b:=b) Z Z Z Z ⟨_,rfl⟩ (Nat.zero_le _) am) cut4) ?_
   refine ao (Ent.row0 (e:=131) (size:=4)) ?_;refine dL rfl (ce (k:=0) (xs:=[]) rfl rfl ow rfl am rfl rfl .head (news:=(lt.take b).flatMap eD) (by rw[cV (k:=4) λ_=>rfl,List.length_take];omega) fX (srcRow IN) E3 gk am λNZ Of=>?_);refine sB Z<|sG<|sM Z<|sM Z<|bY Z (dM Z Z)<|sP (ez (z:=4) (a:=b+1) (b:=lt.length) Z Z Z ⟨_,rfl⟩ rfl am NY) ?_
   refine dL rfl (ce rfl rfl ow rfl am rfl rfl (HasVal.sel (v:=NZ)) (news:=(lt.drop (b+1)).flatMap eD) (by rw[cV (k:=4) λ_=>rfl,List.length_drop]) (λh=>by split at h<;>cases h) (KR am NY) E3 gk am λmt Og=>?_);refine sA Z<|ap<|al ?_
   have On:(lt.eraseIdx b).length=0+b+(lt.length-(b+1)):=by rw[List.length_eraseIdx_of_lt J];omega
   have Oo:(lt.eraseIdx b).flatMap eD=([]++(lt.take b).flatMap eD)++(lt.drop (b+1)).flatMap eD:=by rw[List.eraseIdx_eq_take_drop_succ,List.flatMap_append,List.nil_append]
   have Oq:(out++[tb]).length=out.length+1:=by simp
   have Or:(out++[tb]).flatMap dW=out.flatMap dW++dW tb:=by rw[List.flatMap_append];simp
   have N7:=FR.zA (l:=lt) (by rw[<-hb];exact K);rw[<-hb]at N7;refine aH (mt,lt.eraseIdx b,f9,out++[tb]) ⟨?_,?_⟩ (by show(lt.eraseIdx b).length<lt.length;omega) bW ?_
   ·show(out++[tb])++FR.sel (lt.eraseIdx b) (lt.eraseIdx b).length=M.tms
    rw[<-d6,N7,List.append_assoc]
    rfl
   ·show(lt.eraseIdx b).length+(out++[tb]).length<=30000
    omega
   ·show Ent _ (row 131 4 mt (lt.eraseIdx b).length ((lt.eraseIdx b).flatMap eD)::row 129 3 f9 (out++[tb]).length ((out++[tb]).flatMap dW)::aZ e a ns M::fr)
    rw[On,Oo,Oq,Or];exact aG
 ·have NW:lt.length=0:=by have:¬(0:Int)<(lt.length:Int):=In;omega
  have ho:out=M.tms:=by rw[<-d6,NW];simp[FR.sel]
  refine aM<|aw<|az<|aq<|sT<|bp Z<|sB Z<|an ?_
  exact ar [aZ e a ns M,row 129 3 v8 M.tms.length (M.tms.flatMap dW)] rfl Z Z (by rw[<-ho];exact Ent.drop.trans gfE1)
end
abbrev Cr(h:Nat)(mv I:Value)(J E:Bool):Array Value:=#[aY h,mv,I,.bool J,.bool E]
abbrev cH(w h:Nat)(mv I:Value)(J E:Bool):HP:=blk w 42 (Cr h mv I J E)
abbrev Mw(u:FR.Rn):List Int:=u.NN.map (·.state)
abbrev Mu(u:FR.Rn):List Int:=u.NN.map (·.NM)
abbrev lV(M:FR.En):List (Nat×Int×Int×Nat):=M.NP.map λp=>(p.1,p.2,M.tryOf p,0)
def Dw(h:FR.Pair N S M):qV S S.NP=(lV M).flatMap jc/\(lV M).length=S.NP.length:=by
 have key:S.NP.map (λq=>(q.run,q.node,S.tryOf q,0))=lV M:=by
  unfold lV;rw[h.sim.NP,List.map_map];refine List.map_congr_left λp J=>?_;obtain⟨i,k,u,s,E,e1,e2,I,_⟩:=h.NQ J;have K:=h.sim.toAb.get E;have O:=FR.kN h.nd E;obtain⟨pr,pn⟩:=p;subst e1;subst e2;have T:S.tryOf (FR.zd (u.id,(k:Int)))=s.NM+1:=by
   unfold FK.En.tryOf FR.zd;simp only[K,Int.toNat_natCast,FR.gg I]
   rfl
  have Y:M.tryOf (u.id,(k:Int))=s.NM+1:=by
   unfold FR.En.tryOf;simp only[O,Int.toNat_natCast,I]
  show((u.id,(k:Int),S.tryOf (FR.zd (u.id,(k:Int))),0):Nat×Int×Int×Nat)=(u.id,(k:Int),M.tryOf (u.id,(k:Int)),0);rw[T,Y]
 refine⟨?_,by rw[<-key,List.length_map]⟩;rw[<-key];unfold qV;rw[List.flatMap_map]
theorem KY{B:Option Addr}{m:Nat}{a b:List (Nat×Int×Int×Nat)}(I:a.length=n)(J:b.length=m):dz G 28 [.slice A n c,.slice B m N] [row 95 4 (.slice A n c) n (a.flatMap jc),row 95 4 (.slice B m N) m (b.flatMap jc)] λv x=>∃r,v=.bool r/\(r=true<->a.map id=b.map id)/\x=[row 95 4 (.slice A n c) n (a.flatMap jc),row 95 4 (.slice B m N) m (b.flatMap jc)]:=by
 subst I;subst J;exact AW
def mW{w h f j:Nat}{O:Value}{T I:Bool}(hP:FR.Pair N S M)(hN:N<=1000000000000):dS 10 [aY w,aY n] (cr h f e j d p S J σ++[cH w h jv O T I,aZ n a ns M]) λv m=>v=.bool true/\m=cr h f e j d p S J σ++[cH w h jv O T I,aZ n a ns M]:=by
 have hF:=hP.fine hN;have h6:=hP.six;have N5:=hP.len;have BT:=hP.sim.now;have N0:=hP.sim.seed;have Fd:M.NP.length=S.NP.length:=by rw[hP.sim.NP,List.length_map]
 have N1:∀p∈M.NP,∃(i k:Nat) (u:FR.Rn) (s:FR.St),M.runs[i]?=some u/\u.id=p.1/\p.2=(k:Int)/\u.NN[k]?=some s/\0<=s.NM/\s.NM<9223372036854775807:=λp hp=>by
  obtain⟨i,k,u,s,hu,e1,e2,hs,_⟩:=hP.NQ hp;have:=hF.NM u (cg hu) s (cg hs);exact⟨i,k,u,s,hu,e1,e2,hs,this.1,am⟩
 refine bz func10 Z λE fr hE=>D4<|sS<|sB Z<|sS<|cE 0 Z Z<|bF (au (v:=aY h) Z) (ah Z)<|bV Z BL aQ<|du<|sM Z<|bG Z Z<|bG Z Z<|sA Z<|sB Z<|sQ<|bp Z<|cE 0 Z Z<|bF (au (v:=aU M.time) Z) (ck Z)<|sP (cy (r:=false) Z Z (by rw[BT];simp))<|sM Z<|cN Z<|cN Z<|bO (cI Z)<|bO (bd 1 Z)<|fM (au (v:=aU M.seed) Z) (ck Z)<|bO (cy (r:=false) Z Z (by rw[N0];simp))<|sP (aF Z Z Z)<|sN<|ag Z<|aa<|sT<|sS<|cE 0 Z Z<|bF (au (v:=aY h) Z) (ah Z)<|bQ Z (DT am) aQ ?_
 rintro v m ⟨ks,y,hI,rfl,rfl⟩;refine jS<|sM Z<|bG Z Z<|bG Z Z<|sA Z<|sA Z ?_
 obtain rfl:ks=M.runs.map (·.id):=FK.qP (f:=id) (hI.1.trans (by rw[hP.sim.toAb.keys])) (List.pairwise_map.2 hP.ke.lt) hI.2;refine aN .head ?_;intro A c hy NT NU _ _ _;subst hy;refine sN<|sQ<|bp Z<|sP (cA (r:=false) Z Z)<|sM Z<|cN Z<|bO (bh Z Z)<|cN Z<|bO (cI Z)<|bO (bd 2 Z)<|fM (au (v:=kv a M) Z) (ck Z)<|bO (bh Z Z)<|bO (cy (r:=false) Z Z di)<|sP (aF Z Z Z)<|sN<|ag Z<|aa<|sT<|sQ<|sS<|sB Z<|ai<|aO (X:=Nat) (λi=>[(9,aA i),(7,.slice A (M.runs.map (·.id)).length c),(0,aY w),(1,aY n)]) (λ_=>kJ (.slice A (M.runs.map (·.id)).length c) (M.runs.map (·.id))::(cr h f e j d p S J σ++(cH w h jv O T I::aZ n a ns M::fr))) (λi=>i<=M.runs.length) (λi=>M.runs.length-i) 0 (Nat.zero_le _) bW aQ ?_
 intro i hi;replace hi:i<=M.runs.length:=hi;refine ao (l':=kJ (.slice A (M.runs.map (·.id)).length c) (M.runs.map (·.id))::bE h d f::dO f e j::aP e p S::aS j d J::aI d σ::cH w h jv O T I::aZ n a ns M::fr) aQ<|sQ<|bp Z<|bY Z (bh Z Z)<|sP (bq Z Z Z)<|sN<|aC Z (λf8=>?_) λf8=>?_
 ·have d7:i<M.runs.length:=by simpa using f8
  obtain⟨u,hu⟩:∃u,M.runs[i]?=some u:=⟨M.runs[i],by simp[d7]⟩;have hR:=hP.sim.toAb.get hu;have N2:=fv hF u (cg hu);obtain⟨g,rfl⟩:∃g,A=some ⟨g,0,none⟩:=by
   cases A with
   |none=>have:=(NT rfl).1;rw[List.length_map]at this;omega
   |some ad=>obtain⟨g,rfl⟩:=NU ad rfl;exact⟨g,rfl⟩
  refine bA (p:=∃g,a.rg=some g) (λw hw=>iJ hu hw) λ⟨gr,hg⟩=>aa<|sT<|sQ<|ai<|sQ<|cu (X:=Nat×Value×Value) (λx=>[(10,aY x.1),(11,aA 0),(9,aA i),(7,dQ g (M.runs.map (·.id)).length c),(0,aY w),(1,aY n)]) (λx=>blk x.1 72 (cv u.id u.state x.2.1 x.2.2).toArray::bL x.2.1 (u.ab.NN.map (·.state))::bL x.2.2 (u.ab.NN.map (·.NM))::kJ (dQ g (M.runs.map (·.id)).length c) (M.runs.map (·.id))::bE h d f::dO f e j::aP e p S::aS j d J::aI d σ::cH w h jv O T I::aZ n a ns M::fr) (λ_=>True) ?_ ?_
  ·refine sZ Z<|ea Z Z<|dy 0 Z Z Z<|bN Z (au (v:=aY h) Z) (ah Z)<|cC Z Z<|cC Z Z<|dx 6 Z (aV (z:=1) Z Z Z Z (by rw[List.length_map];exact d7))<|jW 7 Z (au (v:=aU u.id) Z) (ii .head (by simp[hu]))<|i7 8 12 Z Z Z Z eS (dP Z (qm hP.ok hR) (eJ (l:=cr h f e j d p S J σ)) ?_) (cO (z:=.agg #[cd 0,aA 0,cB,cB]) Z λd6=>?_)
   ·rintro v m ⟨A2,c2,A3,c3,rfl,rfl⟩;refine dK [false,false] ak<|dx 9 Z (bg Z)<|bB Z (bZ Z Z)<|bB Z (bZ Z Z)<|xx Z (cO (z:=.agg #[cd 0,aA 0,cB,cB]) Z λd6=>(dK [] ak (dI 13 Z<|bk Z (m:=4) (vs:=cv u.id u.state (.slice A2 u.ab.NN.length c2) (.slice A3 u.ab.NN.length c3)) Z Z Z Z eG (by show 0+4<=4;omega) ?_)))
    refine dK [] ak<|dx 14 Z (aX Z)<|dE<|aB d6 (cv u.id u.state (.slice A2 u.ab.NN.length c2) (.slice A3 u.ab.NN.length c3)).toArray Z<|aT (d6,(.slice A2 u.ab.NN.length c2),(.slice A3 u.ab.NN.length c3)) trivial bW (by show Ent (_::bL (.slice A2 u.ab.NN.length c2) (u.ab.NN.map (·.state))::bL (.slice A3 u.ab.NN.length c3) (u.ab.NN.map (·.NM))::bE h d f::dO f e j::aP e p S::aS j d J::aI d σ::kJ (dQ g (M.runs.map (·.id)).length c) (M.runs.map (·.id))::cH w h jv O T I::aZ n a ns M::fr) (_::bL (.slice A2 u.ab.NN.length c2) (u.ab.NN.map (·.state))::bL (.slice A3 u.ab.NN.length c3) (u.ab.NN.map (·.NM))::kJ (dQ g (M.runs.map (·.id)).length c) (M.runs.map (·.id))::bE h d f::dO f e j::aP e p S::aS j d J::aI d σ::cH w h jv O T I::aZ n a ns M::fr);exact aG)
   ·refine aB d6 (cv 0 0 eC eC).toArray Z<|dK [true,true] (aj (ii bJ (by simp[hu])) (aj (ah Z) ak)) ?_
    refine dI 8 Z<|dP Z (qm hP.ok hR) ((Ent.cons (eJ (l:=cr h f e j d p S J σ))).trans (eJ (l:=cr h f e j d p S J σ))) ?_
    rintro v m ⟨A2,c2,A3,c3,rfl,rfl⟩;refine ao (l':=blk d6 72 (cv 0 0 eC eC).toArray::bL (.slice A2 u.ab.NN.length c2) (u.ab.NN.map (·.state))::bL (.slice A3 u.ab.NN.length c3) (u.ab.NN.map (·.NM))::kJ (dQ g (M.runs.map (·.id)).length c) (M.runs.map (·.id))::bE h d f::dO f e j::aP e p S::aS j d J::aI d σ::cH w h jv O T I::aZ n a ns M::fr) (by show Ent (_::_::bE h d f::dO f e j::aP e p S::aS j d J::aI d σ::blk d6 _ _::kJ (dQ g (M.runs.map (·.id)).length c) (M.runs.map (·.id))::cH w h jv O T I::aZ n a ns M::fr) _;exact aG)<|dK [false,false] ak<|dx 9 Z (bg Z)<|bB Z (bZ Z Z)<|bB Z (bZ Z Z)<|dI 13 Z<|bk Z (m:=4) (vs:=cv u.id u.state (.slice A2 u.ab.NN.length c2) (.slice A3 u.ab.NN.length c3)) Z Z Z Z eG (by show 0+4<=4;omega) ?_
    exact dK [] ak<|dx 14 Z (aX Z)<|dE<|aB d6 (cv u.id u.state (.slice A2 u.ab.NN.length c2) (.slice A3 u.ab.NN.length c3)).toArray Z<|aT (d6,(.slice A2 u.ab.NN.length c2),(.slice A3 u.ab.NN.length c3)) trivial bW aQ
  rintro⟨d6,x2,x3⟩ _;refine ao (l':=blk d6 72 (cv u.id u.state x2 x3).toArray::bL x2 (u.ab.NN.map (·.state))::bL x3 (u.ab.NN.map (·.NM))::kJ (dQ g (M.runs.map (·.id)).length c) (M.runs.map (·.id))::bE h d f::dO f e j::aP e p S::aS j d J::aI d σ::cH w h jv O T I::aZ n a ns M::fr) aQ<|bp Z<|cE 2 Z Z<|bF (au (v:=dQ gr M.runs.length a.rc) Z) (dY hg)<|bY Z (aV (z:=8) Z Z Z Z d7)<|bm 0 Z<|bF (au (v:=aU u.id) Z) (cR (j:=0) hu hg Z)<|bQ Z (yw am hP.nd hu N2) (Ent.sel (.tail KA)) ?_
  rintro v m ⟨v2,v3,rfl,rfl⟩;refine cF<|aN bJ ?_
  rintro A4 c4 rfl - - - - -
  refine aN dm ?_;rintro A5 c5 rfl - - - - -
  refine sM Z<|bG Z Z<|bG Z Z<|sO (cO (z:=.agg #[cd 0,aA 0,cB,cB]) Z λLE=>sO<|bk Z (m:=4) (vs:=cv u.id u.state (.slice A4 (Mw u).length c4) (.slice A5 (Mu u).length c5)) Z Z Z Z eG (by show 0+4<=4;omega) ?_)
  refine aB LE (cv u.id u.state (.slice A4 (Mw u).length c4) (.slice A5 (Mu u).length c5)).toArray Z<|sB Z<|sS<|bF (bR (vs:=cv u.id u.state x2 x3) Z) (bl Z)<|bF (bR (vs:=cv u.id u.state (.slice A4 (Mw u).length c4) (.slice A5 (Mu u).length c5)) Z) (bl Z)<|ao (l':=bL x2 (u.ab.NN.map (·.state))::bL x3 (u.ab.NN.map (·.NM))::bL (.slice A4 (Mw u).length c4) (Mw u)::bL (.slice A5 (Mu u).length c5) (Mu u)::kJ (dQ g (M.runs.map (·.id)).length c) (M.runs.map (·.id))::bE h d f::dO f e j::aP e p S::aS j d J::aI d σ::cH w h jv O T I::aZ n a ns M::fr) aG<|bQ Z (AX (p2:=u.ab.NN.map (·.state)) (p3:=u.ab.NN.map (·.NM)) (q2:=Mw u) (q3:=Mu u)) aQ ?_
  rintro v m ⟨r,rfl,hr,rfl⟩;refine bT ?_;obtain rfl:r=true:=hr.2 ⟨rfl,rfl,by simp[FR.Rn.ab,FR.St.ab,Mw],by simp[FR.Rn.ab,FR.St.ab,Mu]⟩;refine ao (l':=kJ (dQ g (M.runs.map (·.id)).length c) (M.runs.map (·.id))::bE h d f::dO f e j::aP e p S::aS j d J::aI d σ::cH w h jv O T I::aZ n a ns M::fr) (Ent.drop.trans (Ent.drop.trans (Ent.drop.trans Ent.drop)))<|sB Z<|sQ<|sZ Z<|ea Z Z<|cC Z Z<|dx 2 Z (aV (z:=1) Z Z Z Z (by rw[List.length_map];exact d7))<|jW 3 Z (au (v:=aU u.id) Z) (ii .head (by simp[hu]))<|cC Z Z<|dy 2 Z Z Z<|bN Z (au (v:=dQ gr M.runs.length a.rc) Z) (dY hg)<|cC Z Z<|bB Z (aV (z:=8) Z Z Z Z d7)<|bB Z (bd 0 Z)<|bN Z (au (v:=aU u.id) Z) (cR (j:=0) hu hg Z)<|bB Z (cy (r:=false) Z Z di)<|cC Z Z<|dT 14 Z (bg Z)<|dT 15 Z (cy Z Z Z)<|bB Z (aF Z Z Z)<|cC Z Z<|dT 18 Z (bg Z)<|dT 19 Z (cy Z Z Z)<|bB Z (aF Z Z Z)<|cC Z Z<|dT 22 Z (bg Z)<|dT 23 Z (cA Z Z)<|bB Z (aF Z Z Z)<|dE<|sT<|ag Z<|aa<|al<|sT<|sG<|bY Z (dM Z Z)<|sA Z<|ap<|aH (i+1) d7 (by show M.runs.length-(i+1)<M.runs.length-i;omega) bW aQ
 ·have In:S.getR (M.NL+1)=none:=hP.none;have N6:M.NL<=N:=hP.sim.lr▸hP.lr;refine aM<|aw<|az<|aq<|sT<|sQ<|cu (X:=Unit) (λ_=>[(16,aA 6),(0,aY w),(1,aY n)]) (λ_=>bE h d f::dO f e j::aP e p S::aS j d J::aI d σ::cH w h jv O T I::aZ n a ns M::fr) (λ_=>True) ?_ ?_
  ·refine sZ Z<|ea Z Z<|dy 0 Z Z Z<|bN Z (au (v:=aY h) Z) (ah Z)<|cC Z Z<|dy 4 Z Z Z<|bN Z (au (v:=aU M.NL) Z) (ck Z)<|bB Z (bH (r:=((M.NL+1:Nat):Int)) Z Z (by rw[li];omega))<|i7 9 13 Z Z Z Z eS (dP Z (qo In) (eJ (l:=cr h f e j d p S J σ)) ?_) (cO (z:=.agg #[cd 0,aA 0,cB,cB]) Z λd8=>?_)
   ·rintro v m ⟨rfl,rfl⟩;refine ao (l':=bE h d f::dO f e j::aP e p S::aS j d J::aI d σ::cH w h jv O T I::aZ n a ns M::fr) (by show Ent (bE h d f::dO f e j::aP e p S::aS j d J::aI d σ::kJ (.slice A (M.runs.map (·.id)).length c) (M.runs.map (·.id))::cH w h jv O T I::aZ n a ns M::fr) _;exact aG)<|dK [true,false] (aj (ck Z) ak)<|dx 10 Z (bg Z)<|bB Z (bZ Z Z)<|bB Z (bZ Z Z)<|xx Z (cO (z:=.agg #[cd 0,aA 0,cB,cB]) Z λd8=>(dK [true] (aj (ck Z) ak) (dI 14 Z<|bk Z (m:=4) (vs:=cv 0 0 eC eC) Z Z Z Z eG (by show 0+4<=4;omega) (dK [false] ak<|dx 15 Z (aX Z)<|dE<|aT () trivial bW Ent.drop))))
   ·refine aB d8 (cv 0 0 eC eC).toArray Z<|dK [true,true] (aj (ck Z) (aj (ah Z) ak)) ?_
    refine dI 9 Z<|dP Z (qo In) ((Ent.cons (eJ (l:=cr h f e j d p S J σ))).trans (eJ (l:=cr h f e j d p S J σ))) ?_
    rintro v m ⟨rfl,rfl⟩;refine ao (l':=blk d8 72 (cv 0 0 eC eC).toArray::bE h d f::dO f e j::aP e p S::aS j d J::aI d σ::cH w h jv O T I::aZ n a ns M::fr) (by show Ent (bE h d f::dO f e j::aP e p S::aS j d J::aI d σ::blk d8 _ _::_::cH w h jv O T I::aZ n a ns M::fr) _;exact aG)<|dK [true,false] (aj (ck Z) ak)<|dx 10 Z (bg Z)<|bB Z (bZ Z Z)<|bB Z (bZ Z Z)<|dI 14 Z<|bk Z (m:=4) (vs:=cv 0 0 eC eC) Z Z Z Z eG (by show 0+4<=4;omega)<|dK [false] ak<|dx 15 Z (aX Z)<|dE<|aT () trivial bW Ent.drop
  intro _ _;refine sS<|cE 0 Z Z<|bF (au (v:=aY h) Z) (ah Z)<|bQ Z (yG (τ:=FR.Hr M) (λ_=>rfl) (by have:=hP.ok.tmsLe;omega) hP.seqs) aQ ?_
  rintro v m ⟨Y,hY,mt,rfl⟩;refine jS ?_;obtain rfl:Y=M.tms:=hP.told hY;have N7:M.tms.length<=150:=by have h1:=hY.len;rw[List.length_map]at h1;have:=hP.ok.tmsLe;omega
  have N3:M.tms=[]->S.tms=[]:=λh0=>by have h1:=hY.len;rw[List.length_map,h0]at h1;exact List.eq_nil_of_length_eq_zero h1.symm
  refine aN .head ?_;rintro d9 t6 rfl - - - - -
  refine sB Z<|bp Z<|bQ Z (yt hF) sw ?_
  rintro v m rfl;refine aE<|aN bJ ?_
  rintro t7 t8 rfl - - - - -
  refine ao (l':=bE h d f::dO f e j::aP e p S::aS j d J::aI d σ::cH w h jv O T I::aZ n a ns M::row 129 3 (.slice d9 M.tms.length t6) M.tms.length (M.tms.flatMap dW)::row 129 3 (.slice t7 M.tms.length t8) M.tms.length (M.tms.flatMap dW)::fr) aG<|sB Z<|sS<|cE 0 Z Z<|bF (au (v:=aY h) Z) (ah Z)<|bQ Z (yH hP.ok) aQ ?_
  rintro v m ⟨wf,rfl⟩;refine jS<|aN .head ?_
  rintro f7 NV rfl - - - - -
  refine sB Z<|bp Z<|bQ Z (yv am hP.nd N1 (by rw[Fd];have:=hP.ok.queueLe;omega)) sw ?_
  rintro v m rfl;refine aE<|aN bJ ?_
  rintro NW NX rfl - - - - -
  obtain⟨LT,f9⟩:=Dw hP;have N4:(M.NP.flatMap λp=>ci p.1 p.2 (M.tryOf p) 0)=(lV M).flatMap jc:=by unfold lV;rw[List.flatMap_map]
  refine ao (l':=row 129 3 (.slice d9 M.tms.length t6) M.tms.length (M.tms.flatMap dW)::row 129 3 (.slice t7 M.tms.length t8) M.tms.length (M.tms.flatMap dW)::row 95 4 (.slice f7 S.NP.length NV) S.NP.length ((lV M).flatMap jc)::row 95 4 (.slice NW M.NP.length NX) M.NP.length ((lV M).flatMap jc)::bE h d f::dO f e j::aP e p S::aS j d J::aI d σ::cH w h jv O T I::aZ n a ns M::fr) (by rw[N4,LT];exact aG)<|sB Z<|bp Z<|sM Z<|bQ Z (C8 (a:=M.tms) (b:=M.tms)) aQ ?_
  rintro v m ⟨q1,rfl,NY,rfl⟩;refine aE<|sB Z<|bp Z<|sM Z<|bQ Z (KY (a:=lV M) (b:=lV M) f9 (f9.trans Fd.symm)) (bo dm dm) ?_
  rintro v m ⟨q2,rfl,NZ,rfl⟩;refine aE ?_;obtain rfl:q1=true:=NY.2 rfl;obtain rfl:q2=true:=NZ.2 rfl;refine sB Z<|sQ ?_
  by_cases HM:M.tms=[]
  ·obtain⟨rfl,-⟩:d9=none/\True:=by have:=mt (N3 HM);unfold eC at this;injection this with h1;exact⟨h1,trivial⟩
   by_cases HQ:S.NP=[]
   ·obtain⟨rfl,-⟩:f7=none/\True:=by have:=wf HQ;unfold eC at this;injection this with h1;exact⟨h1,trivial⟩
    refine sG<|bY Z (bc Z Z Z)<|sM Z<|cN Z<|sP (aF Z Z Z)<|sM Z<|cN Z<|sP (aF Z Z Z)<|sM Z<|cN Z<|bO (bh Z Z)<|bO (dX (r:=false) Z Z (by rw[HM];rfl))<|cN Z<|cN Z<|bO (io Z Z Z)<|bO (aF Z Z Z)<|sP (aF Z Z Z)<|sM Z<|cN Z<|bO (bh Z Z)<|bO (dX (r:=false) Z Z (by rw[HQ];rfl))<|cN Z<|cN Z<|bO (io Z Z Z)<|bO (aF Z Z Z)<|sP (aF Z Z Z)<|sB Z<|an<|ar (cr h f e j d p S J σ++[cH w h jv O T I,aZ n a ns M]) Z Z ec (by show Ent _ (bE h d f::dO f e j::aP e p S::aS j d J::aI d σ::cH w h jv O T I::aZ n a ns M::fr);exact aG)
   ·refine sG<|bY Z (bc Z Z Z)<|sM Z<|cN Z<|sP (aF Z Z Z)<|sM Z<|cN Z<|sP (aF Z Z Z)<|sM Z<|cN Z<|bO (bh Z Z)<|bO (dX (r:=false) Z Z (by rw[HM];rfl))<|cN Z<|cN Z<|bO (io Z Z Z)<|bO (aF Z Z Z)<|sP (aF Z Z Z)<|sM Z<|cN Z<|bO (bh Z Z)<|bO (dX (r:=true) Z Z (by simp[List.length_pos_iff,HQ]))<|cN Z<|aR Z<|aR Z<|bO (aF Z Z Z)<|sP (aF Z Z Z)<|sB Z<|an<|ar (cr h f e j d p S J σ++[cH w h jv O T I,aZ n a ns M]) Z Z ec (by show Ent _ (bE h d f::dO f e j::aP e p S::aS j d J::aI d σ::cH w h jv O T I::aZ n a ns M::fr);exact aG)
  ·by_cases HJ:S.NP=[]
   ·obtain⟨rfl,-⟩:f7=none/\True:=by have:=wf HJ;unfold eC at this;injection this with h1;exact⟨h1,trivial⟩
    refine sG<|bY Z (bc Z Z Z)<|sM Z<|cN Z<|sP (aF Z Z Z)<|sM Z<|cN Z<|sP (aF Z Z Z)<|sM Z<|cN Z<|bO (bh Z Z)<|bO (dX (r:=true) Z Z (by simp[List.length_pos_iff,HM]))<|cN Z<|aR Z<|aR Z<|bO (aF Z Z Z)<|sP (aF Z Z Z)<|sM Z<|cN Z<|bO (bh Z Z)<|bO (dX (r:=false) Z Z (by rw[HJ];rfl))<|cN Z<|cN Z<|bO (io Z Z Z)<|bO (aF Z Z Z)<|sP (aF Z Z Z)<|sB Z<|an<|ar (cr h f e j d p S J σ++[cH w h jv O T I,aZ n a ns M]) Z Z ec (by show Ent _ (bE h d f::dO f e j::aP e p S::aS j d J::aI d σ::cH w h jv O T I::aZ n a ns M::fr);exact aG)
   ·refine sG<|bY Z (bc Z Z Z)<|sM Z<|cN Z<|sP (aF Z Z Z)<|sM Z<|cN Z<|sP (aF Z Z Z)<|sM Z<|cN Z<|bO (bh Z Z)<|bO (dX (r:=true) Z Z (by simp[List.length_pos_iff,HM]))<|cN Z<|aR Z<|aR Z<|bO (aF Z Z Z)<|sP (aF Z Z Z)<|sM Z<|cN Z<|bO (bh Z Z)<|bO (dX (r:=true) Z Z (by simp[List.length_pos_iff,HJ]))<|cN Z<|aR Z<|aR Z<|bO (aF Z Z Z)<|sP (aF Z Z Z)<|sB Z<|an<|ar (cr h f e j d p S J σ++[cH w h jv O T I,aZ n a ns M]) Z Z ec (by show Ent _ (bE h d f::dO f e j::aP e p S::aS j d J::aI d σ::cH w h jv O T I::aZ n a ns M::fr);exact aG)
end Go.Y
namespace FR
open FK (Pl KD)
def vL(M:En)(fl:FK.Flow):(M.submit fl).timers=M.timers+1:=by
 unfold En.submit;rw[iA]
 rfl
def found(h:FK.Ok S){id:Nat}{R:FK.Rn}{s:FK.Sp}(I:S.getR id=some R)(J:R.NN[k]?=some s)(h3:s.state=3):(S.NQ.find? (·.1==s.token)).map (·.2)=some ⟨id,(k:Int),0⟩:=by
 have E:=h.task I J h3;cases hf:S.NQ.find? (·.1==s.token)with
 |none=>exact absurd (List.find?_eq_none.1 hf _ E) di
 |some x=>
  have K:=List.find?_some hf;rw[FK.ik h.tkeys (List.mem_of_find?_eq_some hf) E (by simpa using K)]
  rfl
section
variable{i t:Nat}{u:Rn}{s:St}{nd:FK.Node}
def Wk.get(h:Pair N S M)(hw:Wk M t i k u s):S.getR u.id=some u.ab/\u.ab.NN[k]?=some s.ab/\(S.NQ.find? (·.1==t)).map (·.2)=some ⟨u.id,(k:Int),0⟩:=by
 have E:=h.sim.toAb.get hw.run;have I:=gg hw.step;refine⟨E,I,?_⟩;have:=found h.ok E I hw.st;rw[show s.ab.token=t from(if_pos hw.st).trans hw.tok]at this;exact this
def Wk.only(h:Pair N S M)(hw:Wk M t i k u s):Go.Y.Ht M t i k:=λj l v x I=>by
 have E:=(hw.get h).2.2;rw[(I.get h).2.2]at E;injection E with E;injection E with e1 e2 _;have e3:l=k:=am;refine⟨?_,e3⟩;have J:=(gfGet.1 I.run);have hi:=(gfGet.1 hw.run);exact(List.getElem?_inj (by rw[List.length_map];exact J.1) h.nd).1 (by rw[List.getElem?_map,List.getElem?_map,I.run,hw.run];simp[e1])
def Pair.work(h:Pair N S M)(t:Nat):(∃i k u s nd,Wk M t i k u s/\u.fl.NO[k]?=some nd)\/((∀i k u s,¬Wk M t i k u s)/\S.NQ.any (·.1==t)=false):=by
 by_cases I:∃i k u s,Wk M t i k u s
 ·obtain⟨i,k,u,s,hw⟩:=I
  obtain⟨O,T,_⟩:=hw.get h;obtain⟨n,J,_⟩:=h.ok.node O T;exact .inl ⟨i,k,u,s,n,hw,J⟩
 ·refine .inr ⟨λi k u s hw=>I ⟨i,k,u,s,hw⟩,?_⟩
  rw[Bool.eq_false_iff];intro K;rw[List.any_eq_true]at K;obtain⟨y,Y,e⟩:=K;cases hf:S.NQ.find? (·.1==t)with
  |none=>exact absurd e (by simpa using(List.find?_eq_none.1 hf) y Y)
  |some z=>
   obtain⟨id,l,R,x,n,e1,hR,hs,J,h3,E⟩:=h.ok.find (t:=t) (p:=z.2) (by rw[hf];rfl);obtain⟨i,r,hi,e2,rfl⟩:=h.sim.toAb.back hR;obtain⟨q,hq,rfl⟩:=EJ hs;exact I ⟨i,l,r,q,hi,hq,h3,(if_pos (show q.state=3 from h3)).symm.trans E⟩
def Pair.mono(h:Pair N S M)(I:N<=n):Pair n S M:=⟨h.ok,h.sim,h.ke,by have:=h.sets;omega,by have:=h.ends;omega,by have:=h.lr;omega,by have:=h.lt;omega,by have:=h.tms;omega⟩
def Pair.succ(h:Pair N S M):Pair (N+1) S M:=h.mono (Nat.le_succ _)
def Pair.less{V:En}(h:Pair N S M)(E:FK.Less S U)(I:FK.Ok U)(J:Sim U V)(hk:Ke V)(K:V.timers<=M.timers+1):Pair (N+1) U V:=
 ⟨I,J,hk,by have:=E.sets;have:=h.sets;omega,by have:=E.ends;have:=h.ends;omega,by have:=E.NL;have:=h.lr;omega,by have:=E.NK;have:=h.lt;omega,by have:=h.tms;omega⟩
def Pair.seed(h:Pair N S M){n:Nat}(E:n<18446744073709551616):Pair (N+1) {S with seed:=n} {M with seed:=n}:=
 ⟨h.ok.seeded E,⟨⟨h.sim.now,rfl,h.sim.lr,h.sim.lt,h.sim.ends,h.sim.runs,h.sim.NP,h.sim.nd⟩,h.sim.tm⟩,h.ke,by have:=h.sets;show S.sets<=_;omega,by have:=h.ends;show S.ends<=_;omega,by have:=h.lr;show S.NL<=_;omega,by have:=h.lt;show S.NK<=_;omega,by have:=h.tms;show M.timers<=_;omega⟩
def Pair.tick(h:Pair N S M)(T:N<=1000000000000)(I:c<=4611686018427387904)(J:FK.Ticks c S U):∃n M',Ticks c n M M'/\Pair (N+1) U M':=by
 have K:=h.ok.massLe;have h1:=h.tms;have h2:=h.ends;obtain⟨n,M',E,O,hk,Y⟩:=Sim.ticks J h.ok h.sim h.ke am am;obtain⟨b1,b2,b3,b4⟩:=J.bound h.ok;have h3:=E.timers;exact⟨n,M',E,J.ok I h.ok,O,hk,by have:=h.sets;omega,am,by have:=h.lr;omega,by have:=h.lt;omega,am⟩
def Pair.beat(h:Pair N S M)(hw:Wk M t i k u s)(E:u.fl.NO[k]?=some nd)(w:Int):Pair (N+1) (S.life ⟨u.id,(k:Int),w⟩ nd) (M.beat i k u s nd):=by
 obtain⟨I,J,_⟩:=hw.get h;have K:=h.sim.beat h.ok hw.run hw.step hw.st E w;have hk:Ke (M.beat i k u s nd):=by
  unfold En.beat
  split
  ·exact Eq.mpr (congrArg (List.Pairwise λ(a b:Nat×Nat)=>a.1<b.1/\(0<a.2->a.2≠b.2)) (mM (r':=u.setS k {s with sign:=M.later nd.beat.toNat,signAt:=M.timers+1}) hw.run rfl rfl)) h.ke
  ·exact h.ke
 have e:(S.life ⟨u.id,(k:Int),w⟩ nd).sets<=S.sets+1/\(S.life ⟨u.id,(k:Int),w⟩ nd).ends=S.ends/\(S.life ⟨u.id,(k:Int),w⟩ nd).NL=S.NL/\(S.life ⟨u.id,(k:Int),w⟩ nd).NK=S.NK:=by
  unfold FK.En.life
  split
  ·exact⟨cx _,rfl,rfl,rfl⟩
  ·exact⟨Nat.le_succ _,rfl,rfl,rfl⟩
 have O:(M.beat i k u s nd).timers<=M.timers+1:=by
  unfold En.beat
  split
  ·exact cx _
  ·exact Nat.le_succ _
 exact⟨h.ok.life nd I J hw.st,K,hk,by have:=h.sets;omega,by have:=h.ends;omega,by have:=h.lr;omega,by have:=h.lt;omega,by have:=h.tms;omega⟩
def Pair.fail(h:Pair N S M)(hw:Wk M t i k u s)(T:u.fl.NO[k]?=some nd):Pair (N+1) (S.fail t) (M.fails i k u s nd):=by
 obtain⟨K,O,h3⟩:=hw.get h;have I:=((h.ok.run _ _ K).sp k _ nd O T).running (.inr (.inr (.inl hw.st)));have J:FK.Cw u.ab ⟨u.id,(k:Int),1⟩:=⟨I,.inr ⟨k,s.ab,rfl,O,.inl ⟨rfl,.inl hw.st⟩⟩⟩;have Y:=h.ok.due_less (p:=⟨u.id,(k:Int),1⟩) K J;have e:S.due ⟨u.id,(k:Int),1⟩=S.fail t:=by
  rw[FK.tw h3];rcases FK.jP (p:=⟨u.id,(k:Int),1⟩) K J with⟨e,_⟩|⟨l,x,E,⟨e,h4,_⟩|⟨e,_,e2⟩⟩
  ·injection e with _ e _
   omega
  ·injection e with _ e _
   obtain rfl:l=k:=am;rw[O]at E;injection E with E;subst E;have:s.state=4:=h4;have:=hw.st;omega
  ·have:l=k:=by rcases e with e|e<;>injection e with _ e _<;>omega
   rw[e2,this]
 rw[e]at Y;have hs:=Sim.fails h.ok h.sim.toAb hw.run hw.step hw.st h.sim.tm (List.Sublist.refl _) (λ_ E _=>E) T;rw[<-FK.tw h3]at hs;exact h.less Y (h.ok.fail t) hs (zU h.ok h.sim.toAb h.ke hw.run) (by
  unfold En.fails
  split
  ·exact cx _
  ·rw[l5];exact Nat.le_succ _)
def Pair.complete(h:Pair N S M)(hw:Wk M t i k u s)(hn:u.fl.NO[k]?=some nd):Pair (N+1) (S.complete t) (M.complete i k u s):=by
 obtain⟨I,K,h3⟩:=hw.get h;have hs:=h.sim.complete h.ok hw.run hw.step hw.st h3;have hl:(u.setS k {s with state:=5}).NN.length=(u.setS k {s with state:=5}).fl.NO.length:=by
  have:=(h.ok.run _ _ I).len;simpa[Rn.setS,Rn.ab]using this
 have hp:=Sim.part (s':={s with state:=5}) (st:=5) h.sim.toAb hw.run hw.step h.sim.tm (List.Sublist.refl _) (λ_ hx _=>hx) (by unfold St.ab;simp) fh fh;have T:=h.ok.part I K hn hw.st (.inl rfl);have Y:(M.setR i (u.setS k {s with state:=5})).runs[i]?=some (u.setS k {s with state:=5}):=by
  have:=(gfGet.1 hw.run).1;unfold En.setR;simp[this]
 obtain⟨k1,r',k2,O⟩:=hp.wake Y hl;have O:r'.id=u.id:=O;have hg:(((S.leave u.id k).setR u.id (u.ab.turned k s.ab 5)).wake u.id).getR u.id=some r'.ab:=by
  have:=k1.toAb.get k2;rw[O]at this;exact this
 have E:=T.wake u.id;have e:(S.leave u.id k).sets=S.sets/\(S.leave u.id k).ends=S.ends/\(S.leave u.id k).NL=S.NL/\(S.leave u.id k).NK=S.NK:=by
  rw[FK.fL I K];exact⟨rfl,rfl,rfl,rfl⟩
 obtain⟨_,_,_,w1,_,w2,w3,w4⟩:=FK.oE ((S.leave u.id k).setR u.id (u.ab.turned k s.ab 5)) u.id;have hb:(S.complete t).sets<=S.sets/\(S.complete t).ends<=S.ends+1/\(S.complete t).NL=S.NL/\(S.complete t).NK=S.NK:=by
  rw[FK.oa h3 I K];rcases FK.qf hg with c|⟨st,_,c⟩
  ·rw[c]
   exact⟨Nat.le_of_eq (w1.trans e.1),Nat.le_succ_of_le (Nat.le_of_eq (w2.trans e.2.1)),w3.trans e.2.2.1,w4.trans e.2.2.2⟩
  ·rw[c]
   have J:=E.ended hg st;exact⟨Nat.le_of_eq (J.sets.trans (w1.trans e.1)),Nat.le_of_eq (J.ends.trans (congrArg (·+1) (w2.trans e.2.1))),J.NL.trans (w3.trans e.2.2.1),J.NK.trans (w4.trans e.2.2.2)⟩
 have hk:Ke (M.complete i k u s):=by
  unfold En.complete;refine Ke.settle E ?_ ?_
  ·have e2:(u.setS k {s with state:=5}).NN.length=u.NN.length:=by simp[Rn.setS]
   rw[<-e2];exact k1.toAb
  ·unfold Ke
   rw[qZ,mM (r':=u.setS k {s with state:=5}) hw.run rfl rfl];exact h.ke
 have ht:(M.complete i k u s).timers=M.timers:=by
  unfold En.complete;rw[l5,iA]
  rfl
 exact⟨h.ok.complete t,hs,hk,by have:=h.sets;omega,by have:=h.ends;omega,by have:=h.lr;omega,by have:=h.lt;omega,by have:=h.tms;omega⟩
def Pair.cancel(h:Pair N S M)(hi:M.runs[i]?=some u)(E:u.state=1):Pair (N+1) (S.finish u.id 4) (M.endr i u 4):=by
 have I:=h.sim.toAb.get hi;exact h.less (h.ok.finish_less I E fh) (h.ok.finish I fh) (h.sim.endr' h.ok hi fh) (h.ke.endr hi (h.sim.toAb.endle h.ok) 4)<|Nat.le_succ _
def Pair.hand(h:Pair N S M){q:List (Nat×Int)}(J:M.NP=(u.id,(k:Int))::q)(hi:M.runs[i]?=some u)(K:u.NN[k]?=some s)(O:u.fl.NO[k]?=some nd):S.NP=⟨u.id,(k:Int),0⟩::q.map zd/\Pair (N+1) (S.hand ⟨u.id,(k:Int),0⟩ (q.map zd) u.ab s.ab nd) (M.hand q i k u s nd):=by
 have T:=h.sim.toAb.get hi;have Y:=gg K;have E:S.NP=⟨u.id,(k:Int),0⟩::q.map zd:=by rw[h.sim.NP,J];rfl
 have I:=h.sim.hand h.ok J hi K O;have e:(S.hand ⟨u.id,(k:Int),0⟩ (q.map zd) u.ab s.ab nd).sets<=S.sets+2/\(S.hand ⟨u.id,(k:Int),0⟩ (q.map zd) u.ab s.ab nd).ends=S.ends/\(S.hand ⟨u.id,(k:Int),0⟩ (q.map zd) u.ab s.ab nd).NL=S.NL/\(S.hand ⟨u.id,(k:Int),0⟩ (q.map zd) u.ab s.ab nd).NK=S.NK+1:=by
  rw[FK.yb];unfold FK.En.life
  split
  ·exact⟨cx _,rfl,rfl,rfl⟩
  ·exact⟨Nat.le_succ _,rfl,rfl,rfl⟩
 have et:(M.hand q i k u s nd).timers<=M.timers+2:=by
  unfold En.hand
  split
  ·exact cx _
  ·exact Nat.le_succ _
 have hk:Ke (M.hand q i k u s nd):=Eq.mpr (congrArg (List.Pairwise λ(a b:Nat×Nat)=>a.1<b.1/\(0<a.2->a.2≠b.2)) (mM (r':=u.setS k (M.handS s nd)) hi rfl rfl)) h.ke;exact⟨E,h.ok.hand E T Y O,I,hk,by have:=h.sets;omega,by have:=h.ends;omega,by have:=h.lr;omega,by have:=h.lt;omega,by have:=h.tms;omega⟩
def Pair.submit(h:Pair N S M){S0:FK.En}{E:En}{fl:FK.Flow}(O:FK.Fit fl)(T:S.roomy=true)(I:FK.Cut S S0)(Y:Cutd M E):Pair (N+1) (S0.submit fl) (E.submit fl):=by
 obtain⟨J,h5,e1,e2,e3,e4,e5⟩:=h.ok.cut T I;have h0:Sim S0 E/\Ke E/\E.timers=M.timers/\E.ends=M.ends/\E.NK=M.NK:=by
  rcases Y with⟨K,rfl⟩|⟨K,j,ho,rfl⟩
  ·unfold FK.Cut at I
   rw[if_neg (by rw[h.len];exact K)]at I;subst I;exact⟨h.sim,h.ke,rfl,rfl,rfl⟩
  ·obtain⟨a,b⟩:=h.sim.cut h.ok h.ke ho (h.len.trans K) I
   exact⟨a,b,rfl,rfl,rfl⟩
 obtain⟨s0,k0,t0,d0,l0⟩:=h0;obtain⟨s1,k1⟩:=s0.submit J k0 (fl:=fl);obtain⟨_,_,_,w1,_,w2,w3,w4⟩:=FK.oE ((S0.begin fl).setT ⟨S0.NL+1,-1,0⟩ (S0.later fl.deadline.toNat)) (S0.NL+1);have b1:(S0.submit fl).sets=S0.sets+1:=w1;have b2:(S0.submit fl).ends=S0.ends:=w2;have b3:(S0.submit fl).NL=S0.NL+1:=w3;have b4:(S0.submit fl).NK=S0.NK:=w4;have:=vL E fl;have:=s0.ends;have:=s0.lt;have:=h.sim.ends;have:=h.sim.lt;exact⟨J.submit h5 O,s1,k1,by have:=h.sets;omega,by have:=h.ends;omega,by have:=h.lr;omega,by have:=h.lt;omega,by have:=h.tms;omega⟩
def Pair.full(h:Pair N S M):(M.runs.length=6/\Old M Option.none)->S.roomy=false:=λ⟨K,I⟩=>by
 unfold FK.En.roomy;rw[Bool.or_eq_false_iff];refine⟨?_,qF (by rw[h.len];omega)⟩;rw[List.any_eq_false];intro x E;rw[h.sim.runs]at E;obtain⟨u,J,rfl⟩:=List.mem_map.1 E;have:=I.none rfl u J;have e:u.abI.2.ended=u.ended:=rfl;simp only[decide_eq_true_eq];omega
def Pair.room(h:Pair N S M){E:En}(I:Cutd M E):S.roomy=true:=by
 unfold FK.En.roomy;rw[Bool.or_eq_true];rcases I with⟨O,_⟩|⟨O,j,T,_⟩
 ·exact .inr (xC (by rw[h.len];have:=h.six;omega))
 ·refine .inl ?_
  obtain⟨r,J,K,_⟩:=T.some j rfl;rw[List.any_eq_true];exact⟨r.abI,by rw[h.sim.runs];exact List.mem_map_of_mem (cg J),xC K⟩
end
end FR
namespace Go.Y
open Go.Proofs Tryz Go.RowKit Go.SL
end Go.Y
namespace FK
def e0:Dsk:=⟨[],[],[],-1,-1,false⟩
def e1:Dsk:=⟨[],[],[],-2,-2,false⟩
def e2:Dsk:=⟨[],[],[],-3,-3,false⟩
def LO:e0.sync=(e1,0):=by
 have E:Go.IntKind.i64.wrap (-2)=-2:=by decide
 simp[e0,e1,Dsk.sync,Dsk.writes,E]
theorem LN:e1.sync=(e2,0):=by
 have E:Go.IntKind.i64.wrap (-3)=-3:=by decide
 simp[e1,e2,Dsk.sync,Dsk.writes,E]
def J0:Jn:=⟨0,false,0⟩
def Am:Quiet e0:=⟨rfl,rfl,rfl,rfl⟩
end FK
namespace Go.Y
open Go.Proofs Tryz
open Go Go.RowKit Go.SL
abbrev oY(d:Nat):Value:=.iface 52 (aY d)
def MP:dz G 297 [aY d] [aI d FK.e0] λv m=>v=.nilIface/\m=[aI d FK.e1]:=by
 have:=my (G:=G) (d:=d) (σ:=FK.e0) fh fh;rw[FK.LO]at this;exact this
def MO:dz G 297 [aY d] [aI d FK.e1] λv m=>v=.nilIface/\m=[aI d FK.e2]:=by
 have:=my (G:=G) (d:=d) (σ:=FK.e1) fh fh;rw[FK.LN]at this;exact this
def vi(J I:Nat):DoesD prog G 83 [aY I,aY J].toArray .returning .returning [blk I 62 #[.nilIface]] λm=>m=[blk I 62 #[.nilIface]]:=by
 refine DoesD.plain func83 Z Z λE fr K=>ae<|sS<|aL Z Z Z Z<|sP (dF Z Z)<|sN<|ag Z<|aa<|bt [_] rfl ⟨rfl,rfl⟩ aQ
def BD(T Y:Value):dS 45 [oY d,T,Y] [aI d FK.e0] λv m=>∃j,v=.tuple #[aY j,.nilIface]/\m=[aS j d FK.J0,aI d FK.e2]:=by
 refine pE func45 Z Z λE fr O=>ae<|sS<|sO (cO (z:=.pointer none) Z λK=>(sO (cO (z:=.nilIface) Z λJ=>(sN (sS (sM Z (sP (bI (ps:=[(0,.tmp 25)]) (vs:=[oY d]) (cs:=o5 d FK.J0) Z Z Z Z Z) (sO (cP Z Z λI=>(aB I (o5 d FK.J0) Z (bD Z Z Z Z fW ?_)))))))))))
 refine aB K #[aY I] rfl<|sN<|sS<|sP (gj Z Z)<|sO<|x8 Z<|sN<|sQ<|bp Z<|sO<|gw Z Z Z (zj ⟨d,0,none⟩) Z O MP gfE3 ?_
 rintro v m ⟨rfl,rfl⟩;refine ae<|bD Z Z Z Z fW ?_
 refine aB J #[.nilIface] rfl<|ao (l':=blk J 62 #[.nilIface]::blk K 108 #[aY I]::aS I d FK.J0::aI d FK.e1::fr) aG<|sN<|sS<|aL Z Z Z Z<|sP (dF Z Z)<|sN<|ag Z<|aa<|sT<|bp Z<|sO<|gw Z Z Z (Ir ⟨d,0,none⟩) Z O (vF Z Z) gfE3 ?_
 rintro v m ⟨rfl,rfl⟩;refine ae<|sM Z<|bG Z Z<|bG Z Z<|sA Z<|bD Z Z Z Z fW ?_
 refine aB J #[.nilIface] rfl<|ao (l':=blk J 62 #[.nilIface]::blk K 108 #[aY I]::aS I d FK.J0::aI d FK.e1::fr) aG<|sN<|sQ<|sS<|aL Z Z Z Z<|sP (dF Z Z)<|sN<|ag Z<|aa<|sT<|sS<|sB Z<|sQ<|sS<|bY Z (bh Z Z)<|sM Z<|sN<|ai<|aO (X:=Nat) (λ_=>[(42,aA 0),(41,aA 0),(9,cB),(8,cB),(7,aY J),(6,aY K),(2,Y),(1,T),(0,oY d)]) (λ_=>blk J 62 #[.nilIface]::blk K 108 #[aY I]::aS I d FK.J0::aI d FK.e1::fr) (λ_=>True) (λ_=>0) 0 trivial bW aQ ?_
 intro k hk;refine sS<|sP (bq Z Z Z)<|sN<|sQ<|ag Z<|aM<|aw<|az<|aq<|sT<|sQ<|sZ Z<|ea Z Z<|bN Z (au Z) (ah Z)<|dy 1 Z Z Z<|bN Z (au Z) (ah Z)<|dx 6 Z (yf Z)<|cC Z Z<|dI 5 Z<|dP Z (jd (kind:=⟨#[108,111,103]⟩) (n:=0) am fh) aQ ?_
 rintro v m ⟨rfl,rfl⟩;refine aW<|dK [false,true] (aj (ah Z) ak)<|dI 8 Z<|gw Z Z Z (Hw ⟨d,0,none⟩) Z O (o7 (name:=FK.cm 0) Z Z) gfE3 ?_
 rintro v m ⟨rfl,rfl⟩;refine ae<|dK [true] (aj (ah Z) ak)<|dx 9 Z (bg Z)<|bB Z (bZ Z Z)<|bB Z (bZ Z Z)<|bB Z (aX Z)<|dI 13 Z<|cq Z Z Z Z Z (by show 0<1;omega) ?_
 refine aB J #[.iface 28 (aA 9)] rfl<|ao (l':=blk J 62 #[.iface 28 (aA 9)]::blk K 108 #[aY I]::aS I d FK.J0::aI d FK.e1::fr) aG<|dK [false] ak<|dE<|sT<|sQ<|sS<|aL Z Z Z Z<|sP (fk Z Z)<|sM Z<|fM (au Z) (ah Z)<|bO (em Z Z Z)<|iS Z Z Z<|dP Z (uu 9) aQ ?_
 rintro v m ⟨rfl,rfl⟩;refine aW<|bO (cA Z Z)<|sP (aF Z Z Z)<|sN<|ag Z<|aa<|sT<|sQ<|bp Z<|sP (pA Z Z Z)<|sN<|ag Z<|aa<|sT<|sQ<|ai<|aO (X:=Nat) (λ_=>[(19,cB),(8,cB),(7,aY J),(6,aY K),(0,oY d)]) (λ_=>blk J 62 #[.iface 28 (aA 9)]::blk K 108 #[aY I]::aS I d FK.J0::aI d FK.e1::fr) (λ_=>True) (λ_=>0) 0 trivial bW aQ ?_
 intro k hk;refine sQ<|bp Z<|sP (bh Z Z)<|sP (dX Z Z Z)<|sM Z<|aR Z<|aR Z<|aR Z<|aR Z<|aR Z<|sP (aF Z Z Z)<|sN<|ag Z<|aM<|aw<|az<|aq<|sT<|sQ<|sQ<|sG<|bY Z (bh Z Z)<|sM Z<|sN<|ai<|aO (X:=Nat) (λ_=>[(142,aA 0),(141,aA 0),(7,aY J),(6,aY K),(0,oY d)]) (λ_=>blk J 62 #[.iface 28 (aA 9)]::blk K 108 #[aY I]::aS I d FK.J0::aI d FK.e1::fr) (λ_=>True) (λ_=>0) 0 trivial bW aQ ?_
 intro k hk;refine sS<|sP (bq Z Z Z)<|sN<|sQ<|ag Z<|aM<|aw<|az<|aq<|sT<|bp Z<|sO<|gw Z Z Z (zj ⟨d,0,none⟩) Z O MO gfE3 ?_
 rintro v m ⟨rfl,rfl⟩;refine ae<|bD Z Z Z Z fW ?_
 refine aB J #[.nilIface] rfl<|sN<|an<|iv (.inl Z) Z Z O (vi K J) aQ ?_
 rintro m rfl;refine ae<|de [aS I d FK.J0,aI d FK.e2] rfl (dN Z Z (ah Z)) (dN Z Z (ah Z)) ⟨I,rfl,rfl⟩ ?_
 exact aG
def wx{j:Nat}:dz G 49 [aY j] [aS j d J] λv m=>v=.bool J.torn/\m=[aS j d J]:=by
 refine bz func49 Z λE fr I=>ae<|sS<|sB Z<|sS<|cE 2 Z Z<|aL Z Z Z Z<|sB Z<|an<|ar [_] rfl Z ⟨rfl,rfl⟩ aQ
def BY:dS 15 [oY d] [aI d FK.e0] λv m=>∃f e j p,v=.tuple #[aY f,.nilIface]/\m=ch f e j d p FK.En.fresh FK.J0 FK.e2:=by
 refine bz func15 Z λE fr K=>ae<|sS<|sA Z<|sB Z<|sS<|bQ Z E9 aQ ?_
 rintro v m ⟨e,p,rfl,rfl⟩;refine ae<|sP (bI (ps:=[(0,.tmp 8)]) (vs:=[aY e]) (cs:=#[aY e,.pointer none]) Z Z Z Z Z)<|sO (cP Z Z λI=>(sO (cO (z:=.pointer none) Z λJ=>bD Z Z Z Z fW ?_)))
 refine aB J #[aY I] rfl<|sN<|bp Z<|sP (gj Z Z)<|aL Z Z Z Z<|sP (gj Z Z)<|bQ Z (BD _ _) gfE3 ?_
 rintro v m ⟨j,rfl,rfl⟩;refine aE<|sM Z<|bG Z Z<|bG Z Z<|sA Z<|sB Z<|sQ<|bp Z<|sP (dF Z Z)<|sN<|ag Z<|aa<|sT<|sS<|aL Z Z Z Z<|cE 1 Z Z<|bD Z Z Z Z (by show 1<2;decide) ?_
 refine aB I #[aY e,aY j] rfl<|sN<|sQ<|bp Z<|bV Z wx gfE1<|ae<|sN<|ag Z<|aa<|sT<|sS<|aL Z Z Z Z<|sA Z<|sB Z<|an<|dr (ch I e j d p FK.En.fresh FK.J0 FK.e2) Z Z Z ⟨I,e,j,p,rfl,rfl⟩ ?_
 exact aG
def BK{h:Nat}:dS 7 [aY h,jC] [db h d none,aI d FK.e0] λv m=>v=aA 0/\∃f e j p,m=cr h f e j d p FK.En.fresh FK.J0 FK.e0:=by
 refine bz func7 Z λE fr J=>aE<|sS<|sO (cP Z Z λI=>(sB Z (sS (sM Z (bF (bR (vs:=ct (-1) (-1) 0 0) Z) (bl Z) (bV Z (eM (-1) (-1) 0 0) (bo bJ bJ) (aE ?_)))))))
 rw[nD FK.Am];refine ao (l':=db h d none::aI d FK.e0::blk I 31 (ct (-1) (-1) 0 0).toArray::fr) (by show Ent (_::_::blk I 31 (ct (-1) (-1) 0 0).toArray::_) _;exact aG)<|sN<|sS<|cE 0 Z Z<|aL Z Z Z Z<|sP (em Z Z Z)<|bQ Z BY gfE1 ?_
 rintro v m ⟨f,e,j,p,rfl,rfl⟩;refine bT<|sM Z<|bG Z Z<|bG Z Z<|sA Z<|sB Z<|bp Z<|cE 1 Z Z<|bD Z Z Z Z fW ?_
 refine aB h #[aY d,aY f] rfl<|sN<|sQ<|bp Z<|sP (dF Z Z)<|sN<|ag Z<|aa<|sT<|sQ<|ao (l':=bE h d f::aI d FK.e2::dO f e j::aP e p FK.En.fresh::aS j d FK.J0::blk I 31 (ct (-1) (-1) 0 0).toArray::fr) aG<|sG<|sM Z<|bF (bR (vs:=ct (-1) (-1) 0 0) Z) (bl Z)<|bV Z (fE (σ:=FK.e2) (-1) (-1) 0 0 Z) aQ<|aE ?_
 rw[show FK.e2.rested=FK.e0 from rfl];refine sN<|bp Z<|bV Z jR aQ<|aW<|sB Z<|an<|ar (cr h f e j d p FK.En.fresh FK.J0 FK.e0) Z Z ⟨rfl,f,e,j,p,rfl⟩ ?_
 exact aG
end Go.Y
namespace FK
structure Dk(N:Nat)(σ:Dsk):Prop where
 quiet:Quiet σ
 now:l9 σ.now<=N
 dur:l9 σ.dur<=N
def Dk.e0:Dk 0 FK.e0:=⟨Am,cx _,cx _⟩
def Dk.logs{N:Nat}{σ:Dsk}(h:Dk N σ)(n:Nat){s:ByteArray}(J:s.size<=100000):Dk (N+100000) (σ.logs n s):=by
 have E:=xE σ.now ⟨2,cm n,s⟩;have I:=xE σ.dur ⟨2,cm n,s⟩;have h3:=h.now;have K:=h.dur;refine⟨h.quiet.logs n s,?_,?_⟩
 ·show l9 (fx σ.now ⟨2,cm n,s⟩)<=_
  simp only at E;omega
 ·show l9 (fx σ.dur ⟨2,cm n,s⟩)<=_
  simp only at I;omega
end FK
namespace Go.Y
open Go.Proofs Tryz
open Go Go.RowKit Go.SL
def J7(h:FK.Dk N σ)(E:N<=1000000000000000):Roomy σ:=by
 have I:=h.now;have J:=h.dur;refine⟨am,?_,by rw[h.quiet.pend];simp⟩;rw[h.quiet.pend];simp[FK.jh];omega
def J8(h:FK.Dk N σ)(J:FK.Jn)(op:Nat)(E:n<18446744073709551616):FK.Dk (N+100000) (noted σ J op n):=by
 refine h.logs J.n ?_;have I:=gC E;have K:(FK.cS op n).length<=11:=by unfold FK.cS;simp;omega
 have h3:=oM (FK.cS op n) am;rw[pU];omega
section
variable{h f j:Nat}
end
end Go.Y
namespace FK
def jo:List UInt8->Nat->Nat->Option (Nat×List UInt8)
 | [],_,_=>none
 |c::r,i,n=>
  if c.toNat<128 then some (n|||c.toNat%128*2 ^ min (7*i) 64%18446744073709551616,r)
  else jo r (i+1) (n|||c.toNat%128*2 ^ min (7*i) 64%18446744073709551616)
def take(bs:List UInt8):Option (Nat×List UInt8):=jo bs 0 0
def Im{a x:Nat}(h:a<2 ^ k):a|||x*2 ^ k=a+x*2 ^ k:=by
 have:=Nat.two_pow_add_eq_or_of_lt (i:=k) (b:=a) h x;rw[Nat.or_comm,Nat.mul_comm,<-this,Nat.add_comm]
theorem AP(r:List UInt8):∀(m i a:Nat),a<2 ^ (7*i)->m*2 ^ (7*i)+a<18446744073709551616->7*i<=63->jo (dJ m++r) i a=some (a+m*2 ^ (7*i),r):=by
 intro m
 induction m using Nat.strongRecOn with
 |ind m ih=>
  intro i a T hm hi;have E:min (7*i) 64=7*i:=am
  by_cases h:m<128
  ·rw[mO h]
   have hc:(UInt8.ofNat m).toNat=m:=by simp;omega
   show jo (UInt8.ofNat m::r) i a=_;unfold jo;rw[hc,if_pos h,E,Nat.mod_eq_of_lt h,Nat.mod_eq_of_lt (a:=m*2 ^ (7*i)) am,Im T]
  ·rw[oy h]
   have hc:(UInt8.ofNat (m%128+128)).toNat=m%128+128:=by simp;omega
   have hd:m=128*(m/128)+m%128:=(Nat.div_add_mod m 128).symm;have Y:(2:Nat) ^ (7*(i+1))=2 ^ (7*i)*128:=by rw[Nat.mul_add,Nat.pow_add]
   have d6:0<(2:Nat) ^ (7*i):=Nat.two_pow_pos _;have d7:m%128*2 ^ (7*i)<=m*2 ^ (7*i):=Nat.mul_le_mul_right _ (Nat.mod_le _ _);have e1:m/128*2 ^ (7*(i+1))+m%128*2 ^ (7*i)=m*2 ^ (7*i):=by
    rw[Y]
    conv=>rhs;rw[hd,Nat.add_mul]
    rw[Nat.mul_comm (2 ^ (7*i)) 128,<-Nat.mul_assoc,Nat.mul_comm (m/128) 128]
   have I:(m%128+128)%128=m%128:=am;show jo (UInt8.ofNat (m%128+128)::(dJ (m/128)++r)) i a=_;unfold jo;rw[hc,if_neg am,E,I,Nat.mod_eq_of_lt (a:=m%128*2 ^ (7*i)) am,Im T];have J:a+m%128*2 ^ (7*i)<2 ^ (7*(i+1)):=by
    have h1:m%128*2 ^ (7*i)<=127*2 ^ (7*i):=Nat.mul_le_mul_right _ am;rw[Y];omega
   by_cases K:7*(i+1)<=63
   ·rw[ih (m/128) am (i+1) _ J am K]
    congr 2
    omega
   ·have O:i=9:=am
    subst O;omega
def wD(h:n<18446744073709551616)(r:List UInt8):take (dJ n++r)=some (n,r):=by
 unfold take;rw[AP r n 0 0 am am am];simp
def uT:∀{bs r:List UInt8} {i a n:Nat},jo bs i a=some (n,r)->r.length<bs.length/\r=bs.drop (bs.length-r.length)
 | [],_,_,_,_,h=>by simp[jo]at h
 |c::bs,r,i,a,n,h=>by
  unfold jo at h
  split at h
  ·injection h with h
   injection h with _ h;subst h;exact⟨by simp,by simp⟩
  ·have⟨h1,h2⟩:=uT h
   refine⟨by simp;omega,?_⟩;have e:(c::bs).length-r.length=(bs.length-r.length)+1:=by simp;omega
   rw[e,List.drop_succ_cons];exact h2
def next(bs:List UInt8):Option (List UInt8×List UInt8):=
 match take bs with
 |none=>none
 |some (n,body)=>
  if body.length<n+4 then none
  else if (body.drop n).take 4=jA (jD (bs.take (bs.length-body.length+n))) then some (body.take n,body.drop (n+4)) else none
def DE(x r:List UInt8)(h:x.length<18446744073709551616):next (frame x++r)=some (x,r):=by
 unfold next;have e:frame x++r=dJ x.length++(x++(jA (jD (dJ x.length++x))++r)):=by unfold frame;simp
 have e4:(jA (jD (dJ x.length++x))).length=4:=rfl;rw[e,wD h];simp only;rw[if_neg (by simp only[List.length_append];omega)];have E:(dJ x.length++(x++(jA (jD (dJ x.length++x))++r))).take ((dJ x.length++(x++(jA (jD (dJ x.length++x))++r))).length-(x++(jA (jD (dJ x.length++x))++r)).length+x.length)=dJ x.length++x:=by
  rw[<-List.append_assoc];exact List.take_left' (by simp only[List.length_append];omega)
 rw[E];have I:((x++(jA (jD (dJ x.length++x))++r)).drop x.length).take 4=jA (jD (dJ x.length++x)):=by
  rw[List.drop_left];exact List.take_left' rfl
 rw[if_pos I];have J:(x++(jA (jD (dJ x.length++x))++r)).take x.length=x:=List.take_left;have h3:(x++(jA (jD (dJ x.length++x))++r)).drop (x.length+4)=r:=by
  rw[<-List.append_assoc];exact List.drop_left' (by simp only[List.length_append];omega)
 rw[J,h3]
theorem Js{x r:List UInt8}(h:next bs=some (x,r)):r.length<bs.length/\x.length<=bs.length:=by
 unfold next at h;cases ht:take bs with
 |none=>rw[ht]at h;cases h
 |some q=>
  obtain⟨n,body⟩:=q;rw[ht]at h;simp only at h;have J:=(uT ht).1
  split at h
  ·cases h
  ·split at h
   ·injection h with h
    injection h with E I;subst E;subst I;exact⟨by simp;omega,by simp;omega⟩
   ·cases h
end FK
namespace Go.SL
open Go.RowKit
section
variable{P:Program}{ts:List (Nat×Value)}
section
variable{e t:TypeId}{cap:Nat}
def GW{x lo hi O:Operand}{len a b z:Nat}{T Y k3:IntKind}(ht:P.underlying t=some (.slice e))(hz:dq P e z)(hx:ev ts x=some (.slice A len cap))
(I:ev ts lo=some (.int T (a:Int)))(J:ev ts hi=some (.int Y (b:Int)))(K:ev ts O=some (.int k3 (c:Int)))(h1:a<=b)(h2:b<=c)(h3:c<=cap) :
 Ev P ts (.slice t x (some lo) (some hi) (some O)) (.slice (if c=a then A else A.map (·.add (a*z))) (b-a) (c-a)) Any:=by
 intro ac w _ _ _ _ _ E _;simp[execOp,Instr.sliceAt,Instr.slice,run_underlying ht,E.eval hx,E.eval I,E.eval J,E.eval K,Instr.sliceBounds,Instr.sliceBound,asIntOf,dD hz,h1,h2,h3]
theorem IB{x:Operand}{len:Nat}(E:P.underlying t=some (.array n e))(I:ev ts x=some (.slice A len cap))(h:n<=len):Ev P ts (.sliceToArrayPointer t x) (.pointer A) Any:=by
 intro ac w _ _ _ _ _ J _;have:¬len<n:=am;simp[execOp,Instr.arrayAt,run_underlying E,J.eval I,this]
theorem xg{size:Nat}{z:Value}{ps:List (Nat×Operand)}{vs:List Value}{cs:Array Value}(J:P.underlying t=some (.array n e))(K:dq P e size)(O:iV P t z)
(E:rE ts (ps.map (·.2))=some vs)(I:Instr.fill (λi=>some (i*size,size)) z.cells ((ps.map (·.1)).zip vs)=some cs):Ev P ts (.build t ps.toArray) (.agg cs) Any:=by
 intro a w _ _ _ _ _ T _;have Y:(ps.toArray.map λp=>(p.1,a.eval p.2)).toList=(ps.map (·.1)).zip vs:=by
  have:=eU T E;rw[<-this];simp;clear E I this
  induction ps with
  |nil=>rfl
  |cons p ps ih=>simp;exact ih
 simp only[execOp,Instr.build,Sem.run_bind,iZ O,run_underlying J,Result.andThen_ok,dD K,Y];simp only[Result.andThen_ok,I,Sem.run_pure]
theorem mH{d:Nat}{e:TypeId}{k:IntKind}(E:P.underlying e=some (.int k)){us bs:List Int}{w:World}:∀(is:List Nat),(∀i∈is,i<us.length/\i<bs.length)->
 (Op.eqItems (d+1) e 1 (us.map (Value.int k)).toArray (bs.map (Value.int k)).toArray is).run P w=.ok (is.all λi=>us[i]?==bs[i]?) w
 | [],_=>by simp[Op.eqItems]
 |i::is,h=>by
  have ih:=mH (d:=d) E (us:=us) (bs:=bs) (w:=w) is λj Y=>h j (.tail _ Y);obtain⟨h1,h2⟩:=h i (.head _);obtain⟨a,K⟩:∃a,us[i]?=some a:=⟨us[i],by simp[h1]⟩;obtain⟨b,O⟩:∃b,bs[i]?=some b:=⟨bs[i],by simp[h2]⟩;have T:∀(cs:Array Value) (v:Value),cs[i*1]?=some v->(part e cs (i*1)).run P w=.ok v w:=λcs v J=>by
   rw[Nat.mul_one]at J;simp[part,isAgg,run_underlying E,J]
  have hx:(us.map (Value.int k)).toArray[i*1]?=some (.int k a):=by simp[K]
  have hy:(bs.map (Value.int k)).toArray[i*1]?=some (.int k b):=by simp[O]
  have hq:(Op.equalIn (d+1) e (.int k a) (.int k b)).run P w=.ok (a==b) w:=run_equalIn_int w d e k k a b E;simp only[Op.eqItems,Sem.run_bind,T _ _ hx,T _ _ hy,hq,Result.andThen_ok];have I:(us[i]?==bs[i]?)=(a==b):=by rw[K,O];rfl
  rw[List.all_cons,I];cases hc:a==b with
  |true=>simpa using ih
  |false=>simp
def Fs{J:TypeId}{k:IntKind}{i:TypeInfo}{x y:Operand}{us bs:List Int}{r:Bool}(K:P.underlying t=some (.array n e))(hi:P.info? e=some i)(O:P.underlying e=some (.int k))(hc:P.cellsOf e=1)(T:P.eqGuardType P.depth t=false)
(Y:ev ts x=some (.agg (us.map (Value.int k)).toArray))(hy:ev ts y=some (.agg (bs.map (Value.int k)).toArray))(ha:us.length=n)(hb:bs.length=n)(hr:decide (us≠bs)=r) :
 Ev P ts (.binOp .neq t x y J) (.bool r) Any:=by
 intro ac w _ _ _ _ _ I _;subst hr;refine ff (I.eval Y) (I.eval hy) (run_eqGuard_agg w _ _ _ _ _ _ T) ?_;rw[run_neq_struct,run_equalIn_array (d:=9999) (w:=w) (P:=P) _ _ K hi,hc,mH (d:=9998) O (List.range n) (λj E=>by have:=List.mem_range.1 E;omega),Result.andThen_ok]
 congr 2
 have:((List.range n).all λi=>us[i]?==bs[i]?)=decide (us=bs):=by
  rw[Bool.eq_iff_iff,List.all_eq_true];simp only[decide_eq_true_eq,beq_iff_eq];constructor
  ·intro h
   refine List.ext_getElem? λj=>?_
   by_cases E:j<n
   ·exact h j<|List.mem_range.2 E
   ·rw[List.getElem?_eq_none am,List.getElem?_eq_none am]
  ·intro h j _
   rw[h]
 rw[this]
 by_cases h:us=bs<;>simp[h]
end
end
end Go.SL
namespace Go.Y
open Go.Proofs Tryz Go.RowKit Go.SL
section
variable{A':Option Addr}{p:HP}
def ly(b o k:Nat):(⟨b,o,none⟩:Addr).add k=⟨b,o+k,none⟩:=by
 unfold Addr.add
 by_cases h:k=0<;>simp[h]
theorem Reads.sub(h:Reads p A bs)(K:(bs.drop k).take n≠[]->A'=A.map (·.add k)):Reads p A' ((bs.drop k).take n) where
 form hne:=by
  have E:bs≠[]:=by intro e;rw[e]at hne;simp at hne
  obtain⟨b,o,rfl⟩:=h.form E;exact⟨b,o+k,by rw[K hne,Option.map_some,ly]⟩
 cell w F hs b o he j x hx:=by
  have hne:(bs.drop k).take n≠[]:=by intro e;rw[e]at hx;simp at hx
  have E:bs≠[]:=by intro e;rw[e]at hne;simp at hne
  obtain⟨O,T,rfl⟩:=h.form E;rw[K hne]at he;have I:(⟨O,T+k,none⟩:Addr)=⟨b,o,none⟩:=by rw[Option.map_some,ly]at he;exact Option.some.inj he
  injection I with e1 e2;subst e1;subst e2;have J:bs[k+j]?=some x:=by
   rw[List.getElem?_take]at hx
   split at hx
   ·rw[List.getElem?_drop]at hx;exact hx
   ·cases hx
  rw[Nat.add_assoc];exact h.cell w F hs O T Z (k+j) x J
def Reads.dropk(h:Reads p A bs)(I:bs.drop k≠[]->A'=A.map (·.add k)):Reads p A' (bs.drop k):=by
 have:=h.sub (k:=k) (n:=bs.length) (A':=A') (λE=>I (by intro e;rw[e]at E;simp at E))
 rwa [List.take_of_length_le di]at this
def Reads.rowAt{l r:List HP}{b o:Nat}(h:Reads p A bs)(s:Sel p l r)(K:A=some ⟨b,o,none⟩):∀w,Holds E w l->ie b (o+k) (dj ((bs.drop k).take n)) w:=λw hw j v I=>by
 unfold dj at I;rw[List.getElem?_map]at I;cases hx:((bs.drop k).take n)[j]? with
 |none=>rw[hx]at I;cases I
 |some x=>
  rw[hx]at I;injection I with I;subst I;have J:bs[k+j]?=some x:=by
   rw[List.getElem?_take]at hx
   split at hx
   ·rw[List.getElem?_drop]at hx;exact hx
   ·cases hx
  have:=h.at s K J w hw;rw[Nat.add_assoc];exact this
end
abbrev FL(A:Option Addr)(n c k:Nat):Value:=.slice (if c=k then A else A.map (·.add (k*1))) (n-k) (c-k)
section
variable{o:Nat}{p:HP}
def Kd{b:Nat}:∃o',(if c=k then some (⟨b,o,none⟩:Addr) else(some (⟨b,o,none⟩:Addr)).map (·.add (k*1)))=some ⟨b,o',none⟩:=by
 split
 ·exact⟨o,rfl⟩
 ·exact⟨o+k*1,by rw[Option.map_some,ly]⟩
def Reads.cut(h:Reads p A bs)(hc:bs.length<=c):Reads p (if c=k then A else A.map (·.add (k*1))) (bs.drop k):=
 h.dropk λE=>by
  have J:k<bs.length:=by
   refine Nat.lt_of_not_le λI=>E (List.drop_eq_nil_of_le I)
  rw[if_neg am,Nat.mul_one]
theorem wu64n{a:Nat}:IntKind.u64.wrap (a:Int)=((a%18446744073709551616:Nat):Int):=by
 simp[IntKind.wrap,IntKind.bits,IntKind.signed]
theorem in64{n:Int}(E:0<=n)(I:n<2 ^ 64):IntKind.u64.wrap n=n:=by
 have:(2:Int) ^ 64=18446744073709551616:=by decide
 exact SL.wu64 ⟨E,am⟩
def or64{a b:Nat}(J:a<18446744073709551616)(K:b<18446744073709551616):bits .or .u64 (a:Int) (b:Int)=((a|||b:Nat):Int):=
 (bits_nat .u64 64 fh (λ_ E I=>in64 E I) a b am am).2
def Kn(A:Option Addr)(c:Nat)(bs:List UInt8)(v:Value):Prop:=
 (FK.take bs=none/\v=.tuple #[cd 0,cB])\/∃n k,FK.take bs=some (n,bs.drop k)/\k<=bs.length/\n<18446744073709551616/\v=.tuple #[cd n,FL A bs.length c k]
theorem qM(hp:Reads p A bs)(hc:bs.length<=c)(hl:bs.length<=140737488355328):dz G 90 [.slice A bs.length c] [p] λv m=>Kn A c bs v/\m=[p]:=by
 refine bz func90 Z λE fr hE=>ae<|sS<|sA Z<|sB Z<|sS<|sB Z<|sQ<|bp Z<|sP (bh Z Z)<|sM Z<|sN<|ai<|aO (X:=Nat×Nat) (λx=>[(9,aA x.1),(8,aA bs.length),(7,.slice A bs.length c),(4,cd x.2),(0,.slice A bs.length c)]) (λ_=>p::fr) (λx=>x.1<=bs.length/\x.2<18446744073709551616/\FK.take bs=FK.jo (bs.drop x.1) x.1 x.2) (λx=>bs.length-x.1) (0,0) ⟨Nat.zero_le _,am,rfl⟩ bW aQ ?_
 rintro⟨k,a⟩ ⟨hk,ha,ht⟩;refine sS<|sP (bq Z Z Z)<|sN<|sQ<|aC Z (λJ=>?_) λJ=>?_
 ·have I:k<bs.length:=by have:(k:Int)<(bs.length:Int):=J;omega
  obtain⟨x,hx⟩:∃x,bs[k]?=some x:=⟨bs[k],by simp[I]⟩;obtain⟨g,o,hA⟩:=hp.form (by intro h;rw[h]at I;simp at I);subst hA;have d6:x.toNat<256:=x.toNat_lt;have hd:bs.drop k=x::bs.drop (k+1):=by
   obtain⟨h1,rfl⟩:=gfGet.1 hx;exact List.drop_eq_getElem_cons h1
  have hb:x.toNat%128*2 ^ min (7*k) 64%18446744073709551616<18446744073709551616:=Nat.mod_lt _ am;have T:a|||x.toNat%128*2 ^ min (7*k) 64%18446744073709551616<18446744073709551616:=Nat.or_lt_two_pow (n:=64) ha hb
  refine aa<|sT<|sQ<|ai<|bp Z<|sP (aV (z:=1) Z Z Z Z I)<|bF (au (v:=zb x.toNat) Z) (λw hw=>by have:=hp.at .head Z hx w hw;simpa using this)<|sA Z<|sB Z<|bp Z<|bY Z (ID (r:=((x.toNat%128:Nat):Int)) Z Z (FB _ d6))<|sP (cD (r:=((x.toNat%128:Nat):Int)) Z Z Z (wu64 am))<|bY Z (lq (r:=((7*k:Nat):Int)) Z Z ib)<|sP (nF (r:=((x.toNat%128*2 ^ min (7*k) 64%18446744073709551616:Nat):Int)) Z Z am (by rw[Int.toNat_natCast,<-wu64n];congr 1))<|sP (zm (r:=((a|||x.toNat%128*2 ^ min (7*k) 64%18446744073709551616:Nat):Int)) Z Z (or64 ha hb))<|sB Z<|bp Z<|sP (bq Z Z Z)<|sN<|aC Z (λK=>?_) λK=>?_
  ·have hs:x.toNat<128:=by have:((x.toNat:Nat):Int)<128:=K;omega
   have Y:FK.take bs=some (a|||x.toNat%128*2 ^ min (7*k) 64%18446744073709551616,bs.drop (k+1)):=by
    rw[ht,hd,FK.jo,if_pos hs]
   refine sQ<|sZ Z<|ea Z Z<|cC Z Z<|cC Z Z<|bB Z (dM Z Z)<|bB Z (ez (z:=1) (a:=k+1) (b:=bs.length) Z Z Z ⟨_,rfl⟩ rfl am am)<|bB Z (aX Z)<|bB Z (aX Z)<|dE<|sT<|an<|aJ<|aD<|bM<|aJ<|aD<|dr [p] rfl Z Z ⟨.inr ⟨_,k+1,Y,am,T,rfl⟩,rfl⟩ aQ
  ·have hs:¬x.toNat<128:=by have:¬((x.toNat:Nat):Int)<128:=K;omega
   have O:FK.take bs=FK.jo (bs.drop (k+1)) (k+1) (a|||x.toNat%128*2 ^ min (7*k) 64%18446744073709551616):=by
    rw[ht,hd,FK.jo,if_neg hs]
   refine aa<|al<|sT<|sG<|sP (dM Z Z)<|sM Z<|ap<|aH (k+1,_) ⟨by show k+1<=bs.length;omega,T,O⟩ (by show bs.length-(k+1)<bs.length-k;omega) bW aQ
 ·have d7:k=bs.length:=by have:¬(k:Int)<(bs.length:Int):=J;omega
  refine aM<|aw<|az<|aq<|sT<|sS<|sA Z<|sB Z<|an<|dr [p] rfl Z Z ⟨.inl ⟨by rw[ht,d7,List.drop_length];rfl,rfl⟩,rfl⟩ aQ
def cut0:Value.slice (if c=0 then some (⟨g,o,none⟩:Addr) else(some (⟨g,o,none⟩:Addr)).map (·.add (0*1))) (n-0) (c-0)=.slice (some ⟨g,o,none⟩) n c:=by
 rw[Option.map_some,ly];simp
def Reads.head(h:Reads p (some ⟨g,o,none⟩) bs)(n:Nat):Reads p (some ⟨g,o,none⟩) (bs.take n):=by
 have:=h.sub (k:=0) (n:=n) (A':=some ⟨g,o,none⟩) (λ_=>by rw[Option.map_some,ly];rfl)
 rwa [List.drop_zero]at this
def uI(x:UInt8):Int:=x.toNat
def Ay(l:List UInt8):dj l=(l.map uI).map (Value.int .u8):=by
 unfold dj;rw[List.map_map]
 rfl
def Ia:∀{l m:List UInt8},l.map uI=m.map uI->l=m
 | [],[],_=>rfl
 | [],_::_,h=>by cases h
 |_::_,[],h=>by cases h
 |x::l,y::m,h=>by
  injection h with E I;have E:(x.toNat:Int)=y.toNat:=E;rw[Ia I,UInt8.toNat_inj.1 (by omega:x.toNat=y.toNat)]
theorem Mr(a b c d:UInt8):Instr.fill (λi=>some (i*1,1)) (Value.agg #[zb 0,zb 0,zb 0,zb 0]).cells ((List.map (λx=>x.fst) [((0:Nat),Operand.tmp 54),(1,.tmp 57),(2,.tmp 60),(3,.tmp 62)]).zip (([a,b,c,d].map uI).map (Value.int .u8)))=some (([a,b,c,d].map uI).map (Value.int .u8)).toArray:=by
 simp[Instr.fill,Value.cells]
theorem Iz:prog.eqGuardType prog.depth 239=false:=by kernel_rfl
def Ll{s:Nat}(E:FK.take bs=some (n,bs.drop k))(hk:k<=bs.length)(J:n+4<=bs.length-k)(I:s=FK.jD (bs.take (k+n))):FK.next bs=if (bs.drop (k+n)).take 4=FK.jA s then some ((bs.drop k).take n,bs.drop (k+n+4)) else none:=by
 unfold FK.next;rw[E];simp only;rw[if_neg (by rw[List.length_drop];omega),List.length_drop,show bs.length-(bs.length-k)+n=k+n by omega,List.drop_drop,List.drop_drop,I]
 rfl
def Ko(p:HP)(bs:List UInt8)(v:Value):Prop:=
 (FK.next bs=none/\v=.tuple #[cB,cB,.bool false])\/
  ∃x r A1 E I J,FK.next bs=some (x,r)/\v=.tuple #[.slice A1 x.length E,.slice I r.length J,.bool true]/\Reads p A1 x/\x.length<=E/\Reads p I r/\r.length<=J
def oI(K:Reads p A bs)(hc:bs.length<=c)(hl:bs.length<=140737488355328):dz G 86 [.slice A bs.length c] [p] λv m=>Ko p bs v/\m=[p]:=by
 refine bz func86 Z λE fr hE=>ae<|sS<|sA Z<|sA Z<|sB Z<|sQ ?_
 by_cases Y:FK.take bs=none
 ·refine sG<|sM Z<|bQ Z (qM K hc hl) aQ ?_
  rintro v m ⟨hv,rfl⟩;refine ae ?_;obtain rfl:v=.tuple #[cd 0,cB]:=by
   rcases hv with⟨_,h⟩|⟨n,k,h,_⟩
   ·exact h
   ·rw[Y]at h;cases h
  refine sM Z<|bG Z Z<|bG Z Z<|sA Z<|sB Z<|bp Z<|sP (bh Z Z)<|bY Z (bh Z Z)<|sP (dd (r:=(bs.length:Int)) Z Z ib)<|sB Z<|sQ<|sS<|bY Z (io Z Z Z)<|sM Z<|aR Z<|aR Z<|aR Z<|aR Z<|aR Z<|sP (aF Z Z Z)<|sM Z<|aR Z<|aR Z<|aR Z<|aR Z<|aR Z<|aR Z<|sP (aF Z Z Z)<|sN<|aK Z<|sS<|sA Z<|sA Z<|sB Z<|an<|aD<|eV [p] rfl Z Z Z ⟨.inl ⟨by unfold FK.next;rw[Y],rfl⟩,rfl⟩ aQ
 ·refine sG<|sM Z<|bQ Z (qM K hc hl) aQ ?_
  rintro v m ⟨hv,rfl⟩;refine ae ?_;obtain⟨n,k,ht,hk,hn,rfl⟩:∃n k,FK.take bs=some (n,bs.drop k)/\k<=bs.length/\n<18446744073709551616/\v=.tuple #[cd n,FL A bs.length c k]:=by
   rcases hv with⟨h,_⟩|h
   ·exact absurd h Y
   ·exact h
  obtain⟨g,o,rfl⟩:=K.form (by rintro rfl;exact Y rfl);obtain⟨o',d7⟩:=Kd (b:=g) (o:=o) (c:=c) (k:=k);have I:¬n+4<=bs.length-k->FK.next bs=none:=λh=>by unfold FK.next;rw[ht];simp only;rw[if_pos (by rw[List.length_drop];omega)]
  rw[show FL (some ⟨g,o,none⟩) bs.length c k=.slice (some ⟨g,o',none⟩) (bs.length-k) (c-k) by unfold FL;rw[d7]];refine sM Z<|bG Z Z<|bG Z Z<|sA Z<|sB Z<|bp Z<|sP (bh Z Z)<|bY Z (bh Z Z)<|sP (dd (r:=((k:Nat):Int)) Z Z ib)<|sB Z<|sQ<|sQ ?_
  by_cases HA:n<=bs.length-k
  ·by_cases HB:n+4<=bs.length-k
   ·refine sG<|bY Z (io Z Z Z)<|sM Z<|cN Z<|cN Z<|bO (bh Z Z)<|bO (cD Z Z Z (wu64 am))<|bO (dX (r:=false) Z Z (by simp;omega))<|sP (aF Z Z Z)<|sM Z<|cN Z<|bO (bh Z Z)<|bO (cD Z Z Z (wu64 am))<|cN Z<|bO (dd (r:=((bs.length-k-n:Nat):Int)) Z Z (by rw[SL.wu64 am];omega))<|bO (bq (r:=false) Z Z (by simp;omega))<|sP (aF Z Z Z)<|sN<|ag Z<|aa<|sT<|bp Z<|bY Z (cD (r:=(n:Int)) Z Z Z (iP am))<|sP (bH (r:=((k+n:Nat):Int)) Z Z ib)<|sB Z<|sQ ?_
    have O:(bs.take (k+n)).length=k+n:=by rw[List.length_take];omega
    obtain⟨s,hs⟩:∃s,s=FK.jD (bs.take (k+n)):=⟨_,rfl⟩;have T:dz G 136 [.slice (some ⟨g,o,none⟩) (k+n) c] [p] λv m=>v=.int .u32 s/\m=[p]:=by
     have h:=zx (G:=G) c (K.head (k+n)) am;rw[O,<-hs]at h;exact h
    have J:FK.next bs=if (bs.drop (k+n)).take 4=FK.jA s then some ((bs.drop k).take n,bs.drop (k+n+4)) else none:=Ll ht hk HB hs
    refine sG<|sM Z<|bY Z (ez (z:=1) (a:=0) (b:=k+n) Z Z Z Z ⟨_,rfl⟩ am am) ?_
    rw[cut0];refine bV Z T aQ<|ae<|sB Z<|sQ<|sQ ?_
    by_cases HS:(bs.drop (k+n)).take 4=FK.jA s
    ·refine sG<|sM Z<|sM Z<|bY Z (bH (r:=((k+n+4:Nat):Int)) Z Z ib)<|sP (ez (z:=1) (a:=k+n) (b:=k+n+4) Z Z Z ⟨_,rfl⟩ ⟨_,rfl⟩ am am) ?_
     rw[if_neg (show ¬c=k+n by omega),Option.map_some,ly,Nat.mul_one];refine sP (IB (n:=4) Z Z am)<|bF (p9 (n:=4) (vs:=(((bs.drop (k+n)).take 4).map uI).map (Value.int .u8)) Z Z (by simp;omega) Z) (λw hw=>by rw[<-Ay];exact K.rowAt .head Z w hw)<|sM Z<|sP (gH (r:=((s/16777216:Nat):Int)) Z Z am (by exact xA s 24))<|sP (cD (r:=((UInt8.ofNat (s/16777216)).toNat:Int)) Z Z Z (jI _))<|sM Z<|sP (gH (r:=((s/65536:Nat):Int)) Z Z am (by exact xA s 16))<|sP (cD (r:=((UInt8.ofNat (s/65536)).toNat:Int)) Z Z Z (jI _))<|sM Z<|sP (gH (r:=((s/256:Nat):Int)) Z Z am (by exact xA s 8))<|sP (cD (r:=((UInt8.ofNat (s/256)).toNat:Int)) Z Z Z (jI _))<|bY Z (cD (r:=((UInt8.ofNat s).toNat:Int)) Z Z Z (jI _))<|sP (xg (size:=1) (ps:=[(0,.tmp 54),(1,.tmp 57),(2,.tmp 60),(3,.tmp 62)]) (vs:=((FK.jA s).map uI).map (Value.int .u8)) (cs:=(((FK.jA s).map uI).map (Value.int .u8)).toArray) Z Z Z Z (Mr _ _ _ _))<|sP (Fs (n:=4) (us:=((bs.drop (k+n)).take 4).map uI) (bs:=(FK.jA s).map uI) (r:=false) Z Z Z Z Iz Z Z (by simp;omega) Z (by rw[HS];simp))<|sN<|ag Z<|aa<|sT<|sQ<|sZ Z<|ea Z Z<|cC Z Z<|cC Z Z<|cC Z Z<|bB Z (GW (z:=1) (a:=k) (b:=k+n) (c:=k+n) Z Z Z Z Z Z am (cx _) am)<|cC Z Z<|cC Z Z<|bB Z (bH (r:=((k+n+4:Nat):Int)) Z Z ib)<|dx 8 Z (ez (z:=1) (a:=k+n+4) (b:=bs.length) Z Z Z ⟨_,rfl⟩ rfl am am)<|bB Z (aX Z)<|bB Z (aX Z)<|bB Z (aX Z)<|dE<|sT<|an ?_
     have d8:((bs.drop k).take n).length=k+n-k:=by rw[List.length_take,List.length_drop];omega
     have d9:(bs.drop (k+n+4)).length=bs.length-(k+n+4):=List.length_drop;refine eV [p] rfl Z Z Z ⟨.inr ⟨(bs.drop k).take n,bs.drop (k+n+4),_,_,_,_,by rw[J,if_pos HS],by rw[d8,d9],?_,am,K.cut hc,am⟩,rfl⟩ aQ;exact K.sub λd6=>by rw[if_neg (λh=>d6 (by rw[show n=0 by omega,List.take_zero])),Nat.mul_one]
    ·refine sG<|sM Z<|sM Z<|bY Z (bH (r:=((k+n+4:Nat):Int)) Z Z ib)<|sP (ez (z:=1) (a:=k+n) (b:=k+n+4) Z Z Z ⟨_,rfl⟩ ⟨_,rfl⟩ am am) ?_
     rw[if_neg (show ¬c=k+n by omega),Option.map_some,ly,Nat.mul_one];refine sP (IB (n:=4) Z Z am)<|bF (p9 (n:=4) (vs:=(((bs.drop (k+n)).take 4).map uI).map (Value.int .u8)) Z Z (by simp;omega) Z) (λw hw=>by rw[<-Ay];exact K.rowAt .head Z w hw)<|sM Z<|sP (gH (r:=((s/16777216:Nat):Int)) Z Z am (by exact xA s 24))<|sP (cD (r:=((UInt8.ofNat (s/16777216)).toNat:Int)) Z Z Z (jI _))<|sM Z<|sP (gH (r:=((s/65536:Nat):Int)) Z Z am (by exact xA s 16))<|sP (cD (r:=((UInt8.ofNat (s/65536)).toNat:Int)) Z Z Z (jI _))<|sM Z<|sP (gH (r:=((s/256:Nat):Int)) Z Z am (by exact xA s 8))<|sP (cD (r:=((UInt8.ofNat (s/256)).toNat:Int)) Z Z Z (jI _))<|bY Z (cD (r:=((UInt8.ofNat s).toNat:Int)) Z Z Z (jI _))<|sP (xg (size:=1) (ps:=[(0,.tmp 54),(1,.tmp 57),(2,.tmp 60),(3,.tmp 62)]) (vs:=((FK.jA s).map uI).map (Value.int .u8)) (cs:=(((FK.jA s).map uI).map (Value.int .u8)).toArray) Z Z Z Z (Mr _ _ _ _))<|sP (Fs (n:=4) (us:=((bs.drop (k+n)).take 4).map uI) (bs:=(FK.jA s).map uI) (r:=true) Z Z Z Z Iz Z Z (by simp;omega) Z (by simp only[decide_eq_true_eq];exact λh=>HS (Ia h)))<|sN<|aK Z<|sS<|sA Z<|sA Z<|sB Z<|an<|aD<|eV [p] rfl Z Z Z ⟨.inl ⟨by rw[J,if_neg HS],rfl⟩,rfl⟩ aQ
   ·refine sG<|bY Z (io Z Z Z)<|sM Z<|cN Z<|cN Z<|bO (bh Z Z)<|bO (cD Z Z Z (wu64 am))<|bO (dX (r:=false) Z Z (by simp;omega))<|sP (aF Z Z Z)<|sM Z<|cN Z<|bO (bh Z Z)<|bO (cD Z Z Z (wu64 am))<|cN Z<|bO (dd (r:=((bs.length-k-n:Nat):Int)) Z Z (by rw[SL.wu64 am];omega))<|bO (bq (r:=true) Z Z (by simp;omega))<|sP (aF Z Z Z)<|sN<|aK Z<|sS<|sA Z<|sA Z<|sB Z<|an<|aD<|eV [p] rfl Z Z Z ⟨.inl ⟨by rw[I am],rfl⟩,rfl⟩ aQ
  ·refine sG<|bY Z (io Z Z Z)<|sM Z<|cN Z<|cN Z<|bO (bh Z Z)<|bO (cD Z Z Z (wu64 am))<|bO (dX (r:=true) Z Z (by simp;omega))<|sP (aF Z Z Z)<|sM Z<|aR Z<|aR Z<|aR Z<|aR Z<|aR Z<|aR Z<|sP (aF Z Z Z)<|sN<|aK Z<|sS<|sA Z<|sA Z<|sB Z<|an<|aD<|eV [p] rfl Z Z Z ⟨.inl ⟨by rw[I am],rfl⟩,rfl⟩ aQ
end
end Go.Y
namespace FK
inductive Redo:En->List UInt8->En->Prop
 |submit {S S0:En} {bs:List UInt8} {fl:Flow} (hd:nl bs=.ok fl) (hf:Fit fl) (hl:bs.length<=1000000000) (hc:Cut S S0) (hu:∀S1,Cut S S1->S1=S0):Redo S (1::bs) (S0.submit fl)
 |poll {S:En} {id k:Nat} {q:List Pl} {R:Rn} {s:Sp} {nd:Node} (hq:S.NP=⟨id,(k:Int),0⟩::q) (hR:S.getR id=some R) (hs:R.NN[k]?=some s) (hn:R.fl.NO[k]?=some nd):Redo S (cS 2 0) (S.hand ⟨id,(k:Int),0⟩ q R s nd)
 |beat {S:En} {t id k:Nat} {wh:Int} {R:Rn} {nd:Node} (hlt:t<18446744073709551616) (ht:(S.NQ.find? (·.1==t)).map (·.2)=some ⟨id,(k:Int),wh⟩) (hR:S.getR id=some R) (hn:R.fl.NO[k]?=some nd):Redo S (cS 3 t) (S.life ⟨id,(k:Int),wh⟩ nd)
 |complete {S:En} {t:Nat} {P:Pl} (hlt:t<18446744073709551616) (ht:(S.NQ.find? (·.1==t)).map (·.2)=some P):Redo S (cS 4 t) (S.complete t)
 |fail {S:En} {t:Nat} {P:Pl} (hlt:t<18446744073709551616) (ht:(S.NQ.find? (·.1==t)).map (·.2)=some P):Redo S (cS 5 t) (S.fail t)
 |cancel {S:En} {id:Nat} {R:Rn} (hlt:id<18446744073709551616) (hR:S.getR id=some R):Redo S (cS 6 id) (S.finish id 4)
 |tick {S U:En} {n:Nat} (hlt:n<18446744073709551616) (ht:Ticks (S.later n) S U):Redo S (cS 7 n) U
 |seed {S:En} {n:Nat} (hlt:n<18446744073709551616):Redo S (cS 8 n) {S with seed:=n}
structure Fine(S:En):Prop where
 ok:Ok S
 sets:S.sets<=4611686018427387904
 ends:S.ends<=4611686018427387904
 tok:S.NK<=4611686018427387904
 runs:S.NL<=4611686018427387904
def Ef{op:Nat}:1<=(cS op n).length:=by unfold cS;simp
def r9{op:Nat}:(cS op n).drop 1=dJ n:=rfl
end FK
namespace Go.Y
open Go.Proofs Tryz
open Go Go.RowKit Go.SL
def i6{f op:Nat}{Q:FK.En->Prop}{J:HP}(h1:op≠1)(d6:op<256)(T:n<18446744073709551616)(K:Reads J A (FK.cS op n))(hc:(FK.cS op n).length<=c)
(hD:dS 96 [aY f,aA op,aU n] [jE f e jv,aP e p S] λv m=>v=.tuple #[]/\∃U,Q U/\m=[jE f e jv,aP e p U]) :
 dS 48 [aY f,.slice A (FK.cS op n).length c] [jE f e jv,aP e p S,J] λv m=>v=.tuple #[]/\∃U,Q U/\m=[jE f e jv,aP e p U,J]:=by
 obtain⟨g,o,rfl⟩:=K.form (by unfold FK.cS;simp);have Y:=FK.Ef (op:=op) (n:=n);have h8:(UInt8.ofNat op).toNat=op:=by simp;omega
 have d7:(FK.cS op n).length<=11:=by
  have:=gC (n:=n) T;unfold FK.cS;simp;omega
 have hT:dS 90 [FL (some ⟨g,o,none⟩) (FK.cS op n).length c 1] [J] λv m=>(∃w,v=.tuple #[aU n,w])/\m=[J]:=by
  have h:=qM (G:=Good) (K.cut (k:=1) hc) (c:=c-1) (by rw[List.length_drop];omega) (by rw[List.length_drop];omega);rw[List.length_drop]at h;refine h.mono λv m ⟨hv,hm⟩=>⟨m,⟨?_,hm⟩,aQ⟩;have O:=FK.wD T [];rw[List.append_nil]at O;rcases hv with⟨I,_⟩|⟨n',k,I,_,_,rfl⟩
  ·rw[FK.r9,O]at I;cases I
  ·rw[FK.r9,O]at I
   injection I with I;injection I with I _;subst I;exact⟨_,rfl⟩
 refine bz func48 Z λE fr hE=>cF<|bp Z<|sP (aV (z:=1) (i:=0) Z Z Z Z am)<|bF (au (v:=zb op) Z) (λw hw=>by have:=K.at dm Z (j:=0) (x:=UInt8.ofNat op) Z w hw;rw[h8]at this;simpa using this)<|sP (cD (r:=(op:Int)) Z Z Z (iP am))<|sB Z<|sQ<|bp Z<|sP (bc (r:=false) Z Z (by simp;omega))<|sN<|ag Z<|aa<|sT<|bp Z<|sP (ez (z:=1) (a:=1) (b:=(FK.cS op n).length) Z Z Z ⟨_,rfl⟩ rfl am am)<|bQ Z hT gfE2 ?_
 rintro v m ⟨⟨w,rfl⟩,rfl⟩;refine ae<|sM Z<|bG Z Z<|bG Z Z<|sA Z<|sB Z<|sG<|sM Z<|sM Z<|sM Z<|bQ Z hD (bo bJ bJ) ?_
 rintro v m ⟨rfl,U,hU,rfl⟩;exact aE<|ap<|bt [jE f e jv,aP e p U,J] rfl ⟨rfl,U,hU,rfl⟩ aQ
def Dn{f:Nat}{O:HP}{fl:FK.Flow}(h:FK.Fine S)(hp:Reads O A (1::bs))(hc:(1::bs).length<=c)(hl:bs.length<=1000000000)(hd:FK.nl bs=.ok fl)(J:FK.Fit fl) :
 dS 48 [aY f,.slice A (1::bs).length c] [jE f e jv,aP e p S,O] λv m=>v=.tuple #[]/\∃S0 p',FK.Cut S S0/\m=[jE f e jv,aP e p' (S0.submit fl),O]:=by
 obtain⟨g,o,rfl⟩:=hp.form di;have d9:=J.head.2.2;have h1:=J.head.2.1;obtain⟨d7,d8⟩:=J.head.1;have hs1:=h.sets;have f7:=h.runs;have d6:(1::bs).length=bs.length+1:=rfl;have hR:dS 91 [FL (some ⟨g,o,none⟩) (1::bs).length c 1] [O] λv m=>∃A' K,(∀nd∈fl.NO,Small nd)/\v=.tuple #[.agg #[aA fl.deadline,.slice A' fl.NO.length K],.nilIface]/\m=[nodesOwn (.slice A' fl.NO.length K) fl.NO,O]:=by
  have h:=oH (c:=c-1) (hp.cut (k:=1) hc) (by rw[List.length_drop];omega);rw[List.length_drop]at h;refine h.mono λv m hv=>⟨m,?_,aQ⟩;rcases hv with⟨f',A',K,I,T,hv,hm⟩|⟨e',a',b',I,_⟩
  ·have I:FK.nl bs=.ok f':=I
   rw[hd]at I;injection I with I;subst I;exact⟨A',K,T,hv,hm⟩
  ·have I:FK.nl bs=.error _:=I
   rw[hd]at I;cases I
 refine bz func48 Z λE fr hE=>cF<|bp Z<|sP (aV (z:=1) (i:=0) Z Z Z Z am)<|bF (au (v:=zb 1) Z) (λw hw=>by have:=hp.at dm Z (j:=0) (x:=1) Z w hw;simpa using this)<|sP (cD (r:=1) Z Z Z fh)<|sB Z<|sQ<|bp Z<|sP (bc (r:=true) Z Z Z)<|sN<|aK Z<|bp Z<|sP (ez (z:=1) (a:=1) (b:=(1::bs).length) Z Z Z ⟨_,rfl⟩ rfl am am)<|bQ Z hR gfE2 ?_
 rintro v m ⟨A',K,T,rfl,rfl⟩;refine aE<|sM Z<|bG Z Z<|bG Z Z<|sO (cO (z:=.agg #[aA 0,cB]) Z λb5=>sO<|bk Z (m:=2) (vs:=[aA fl.deadline,.slice A' fl.NO.length K]) Z Z Z Z eG (by simp[Value.cells]) ?_)
 refine aB b5 #[aA fl.deadline,.slice A' fl.NO.length K] rfl<|sA Z<|ao (l':=aP e p S::nodesOwn (.slice A' fl.NO.length K) fl.NO::blk b5 46 #[aA fl.deadline,.slice A' fl.NO.length K]::O::jE f e jv::fr) aG<|sN<|sQ<|sZ Z<|ea Z Z<|dy 0 Z Z Z<|bN Z (au Z) (ah Z)<|bN Z (bR (vs:=[aA fl.deadline,.slice A' fl.NO.length K]) Z) (bl Z)<|dI 5 Z<|dP Z (rI (nv:=.slice A' fl.NO.length K) h1 am J.after am am h.ok.now (by have:=h.ok.queueLe;omega) (by have:=h.ok.tmsLe;omega) am (λr hr=>(h.ok.low r.1 (List.mem_map_of_mem (f:=(·.1)) hr)).2) am) (bo .head .head) ?_
 rintro v m ⟨S0,p',Y,rfl,rfl⟩;refine ae<|dK [false,false] ak<|dE<|sT<|an<|aD<|bt [jE f e jv,aP e p' (S0.submit fl),O] rfl ⟨rfl,S0,p',Y,rfl⟩<|aG
end Go.Y
namespace FK
open Go.Y (gD)
def frames(l:List (List UInt8)):List UInt8:=l.flatMap frame
def rZ(l:List (List UInt8))(b:List UInt8):frames (l++[b])=frames l++frame b:=by
 unfold frames;rw[List.flatMap_append];simp
def BR(l:List (List UInt8))(b:List UInt8):frames (b::l)=frame b++frames l:=by
 unfold frames;rw[List.flatMap_cons]
theorem GQ(b:List UInt8):4<=(frame b).length:=by
 unfold frame jA;simp only[List.length_append,List.length_cons,List.length_nil];omega
def EP(a b:List UInt8):gD (a++b)=gD a++gD b:=by
 unfold gD;refine ByteArray.ext ?_;simp
inductive Reds:En->List (List UInt8)->En->Prop
 |nil {S:En}:Reds S [] S
 |cons {S S' U:En} {b:List UInt8} {l:List (List UInt8)}:Fine S->b.length<=1000000001->Redo S b S'->Reds S' l U->Reds S (b::l) U
def Reds.snoc{V:En}(h:Reds S l U)(E:Fine U)(J:b.length<=1000000001)(I:Redo U b V):Reds S (l++[b]) V:=by
 induction h with
 |nil=>exact .cons E J I .nil
 |cons K O T _ Y=>exact .cons K O T (Y E I)
end FK
namespace Go.Y
open Go.Proofs Tryz
open Go Go.RowKit Go.SL
def Gk{f:Nat}{S':FK.En}{pb:HP}(O:FK.Fine S)(h:FK.Redo S b S')(T:Reads pb A b)(hc:b.length<=c) :
 dS 48 [aY f,.slice A b.length c] [jE f e jv,aP e p S,pb] λv m=>v=.tuple #[]/\∃p',m=[jE f e jv,aP e p' S',pb]:=by
 have a1:=O.sets;have a2:=O.ends;have a3:=O.tok;cases h with
 |submit hd hf hl d6 hu=>
  exact(Dn O T hc hl hd hf).mono λv m ⟨E,S0,p',h0,J⟩=>⟨m,⟨E,p',by rw[J,hu _ h0]⟩,aQ⟩
 |poll hq hR hs hn=>
  exact(i6 (op:=2) (Q:=λU=>U=_) am am am T hc (J6 ((EY O.ok hq hR hs hn am am).mono λv m E=>⟨m,⟨⟨v,rfl⟩,_,rfl,E.2⟩,aQ⟩))).mono λv m ⟨E,U,K,J⟩=>⟨m,⟨E,p,by rw[J,K]⟩,aQ⟩
 |beat I Y hR hn=>
  exact(i6 (op:=3) (Q:=λU=>U=_) am am I T hc (Au ((FA O.ok Y hR hn am).mono λv m E=>⟨m,⟨E.1,_,rfl,E.2⟩,aQ⟩))).mono λv m ⟨E,U,K,J⟩=>⟨m,⟨E,p,by rw[J,K]⟩,aQ⟩
 |complete I Y=>
  exact(i6 (op:=4) (Q:=λU=>U=_) am am I T hc (As ((sc O.ok Y am).mono λv m E=>⟨m,⟨E.1,_,rfl,E.2⟩,aQ⟩))).mono λv m ⟨E,U,K,J⟩=>⟨m,⟨E,p,by rw[J,K]⟩,aQ⟩
 |fail I Y=>
  exact(i6 (op:=5) (Q:=λU=>U=_) am am I T hc (Ar ((Fp O.ok Y am am).mono λv m E=>⟨m,⟨E.1,_,rfl,E.2⟩,aQ⟩))).mono λv m ⟨E,U,K,J⟩=>⟨m,⟨E,p,by rw[J,K]⟩,aQ⟩
 |cancel I hR=>
  exact(i6 (op:=6) (Q:=λU=>U=_) am am I T hc (Aq ((xq O.ok hR am).mono λv m E=>⟨m,⟨E.1,_,rfl,E.2⟩,aQ⟩))).mono λv m ⟨E,U,K,J⟩=>⟨m,⟨E,p,by rw[J,K]⟩,aQ⟩
 |tick I Y=>
  exact(i6 (op:=7) (Q:=λU=>U=_) am am I T hc (Ap ((EQ O.ok I a1 a2).mono λv m ⟨h1,U,h2,h3⟩=>⟨m,⟨h1,U,h2.unique Y,h3⟩,aQ⟩))).mono λv m ⟨E,U,K,J⟩=>⟨m,⟨E,p,by rw[J,K]⟩,aQ⟩
 |seed I=>
  exact(i6 (op:=8) (Q:=λU=>U=_) am am I T hc (Ao ((wJ _).mono λv m E=>⟨m,⟨E.1,_,rfl,E.2⟩,aQ⟩))).mono λv m ⟨E,U,K,J⟩=>⟨m,⟨E,p,by rw[J,K]⟩,aQ⟩
end Go.Y
namespace FK
def me(s:ByteArray):ByteArray:=⟨(Go.Lib.trimPrefix s.data.toList (⟨#[98,97,115,101]⟩:ByteArray).data.toList).toArray⟩
def pJ(fs:ph)(name:ByteArray):List UInt8:=((fG fs name).map λs=>s.data.toList).getD []
structure Sc where
 n:Nat
 found:Option (List UInt8)
def kE(fs:ph)(a:Sc)(s:ByteArray):Sc:=
 match Go.Lib.atoi (me s).data.toList with
 |none=>a
 |some k=>if k<=(a.n:Int) then a else
  match (fG fs s).bind λb=>next b.data.toList with
  |some (x,r)=>if r=[] then⟨k.toNat,some x⟩ else a
  |none=>a
structure NameOk(s:ByteArray):Prop where
 size:(me s).size<=18
 num:∀k,Go.Lib.atoi (me s).data.toList=some k->k<1000000
section
variable{b:ByteArray}{a:Sc}{k:Int}
def qQ(h:Go.Lib.atoi (me s).data.toList=none):kE fs a s=a:=by unfold kE;rw[h]
theorem wK(h:Go.Lib.atoi (me s).data.toList=some k)(hk:k<=(a.n:Int)):kE fs a s=a:=by
 unfold kE;rw[h];exact if_pos hk
def uY(h:Go.Lib.atoi (me s).data.toList=some k)(hk:¬k<=(a.n:Int))(E:fG fs s=some b)(I:next b.data.toList=none):kE fs a s=a:=by
 unfold kE;rw[h];simp only[if_neg hk,E,Option.bind_some,I]
theorem uX{x r:List UInt8}(h:Go.Lib.atoi (me s).data.toList=some k)(hk:¬k<=(a.n:Int))(E:fG fs s=some b)(I:next b.data.toList=some (x,r))(J:r≠[]):kE fs a s=a:=by
 unfold kE;rw[h];simp only[if_neg hk,E,Option.bind_some,I,if_neg J]
theorem zB{x:List UInt8}(h:Go.Lib.atoi (me s).data.toList=some k)(hk:¬k<=(a.n:Int))(E:fG fs s=some b)(I:next b.data.toList=some (x,[])):kE fs a s=⟨k.toNat,some x⟩:=by
 unfold kE;rw[h];simp only[if_neg hk,E,Option.bind_some,I,if_true]
theorem I2(h:NameOk s)(E:a.n<1000000):(kE fs a s).n<1000000:=by
 unfold kE
 split
 ·exact E
 ·rename_i k hk
  have:=h.num k hk
  split
  ·exact E
  ·split
   ·split
    ·show k.toNat<_;omega
    ·exact E
   ·exact E
def scan(fs:ph)(ns:List ByteArray):Sc:=ns.foldl (kE fs) ⟨0,none⟩
def Ga(fs:ph)(ns:List ByteArray){k:Nat}(h:ns[k]?=some s):scan fs (ns.take (k+1))=kE fs (scan fs (ns.take k)) s:=by
 unfold scan;rw[List.take_add_one,h,List.foldl_append]
 rfl
def KX:∀{ns:List ByteArray},(∀s∈ns,NameOk s)->(scan fs ns).n<1000000:=by
 intro ns h;unfold scan;have key:∀(ns:List ByteArray) (a:Sc),(∀s∈ns,NameOk s)->a.n<1000000->(ns.foldl (kE fs) a).n<1000000:=by
  intro ns
  induction ns with
  |nil=>intro a _ E;exact E
  |cons s ns J=>intro a h E;exact J _ (λx I=>h x (.tail _ I)) (I2 (h s (.head _)) E)
 exact key ns _ h (by show 0<1000000;omega)
def Reds.lens(h:Reds S l U):∀x∈l,x.length<=1000000001:=by
 induction h with
 |nil=>intro x E;cases E
 |cons _ I _ _ J=>
  intro x E;rcases List.mem_cons.1 E with rfl|E
  ·exact I
  ·exact J x E
end
inductive Parse:List UInt8->List (List UInt8)->Bool->Prop
 |nil:Parse [] [] false
 |torn {bs:List UInt8}:bs≠[]->next bs=none->Parse bs [] true
 |cons {bs x r:List UInt8} {l:List (List UInt8)} {t:Bool}:bs≠[]->next bs=some (x,r)->Parse r l t->Parse bs (x::l) t
section
variable{l:List ByteArray}
def JQ(x r:List UInt8):frame x++r≠[]:=λh=>by
 have I:=GQ x;have E:(frame x++r).length=0:=by rw[h];rfl
 rw[List.length_append]at E;omega
def Parse.frames{r:List UInt8}{m:List (List UInt8)}{t:Bool}(h:Parse r m t):∀{l:List (List UInt8)},(∀x∈l,x.length<18446744073709551616)->Parse (frames l++r) (l++m) t
 | [],_=>h
 |x::l,hl=>by
  rw[BR,List.append_assoc];exact .cons (JQ _ _) (DE x _ (hl x (.head _))) (Parse.frames h λy E=>hl y (.tail _ E))
def rms(n:Nat):List ByteArray->Dsk->Dsk×Int
 | [],σ=>(σ,0)
 |s::l,σ=>if s=mu n\/s=cm n then rms n l σ else if (σ.tell ⟨3,s,⟨#[]⟩⟩).2=0 then rms n l (σ.tell ⟨3,s,⟨#[]⟩⟩).1 else σ.tell ⟨3,s,⟨#[]⟩⟩
def zC(h:s=mu n\/s=cm n):rms n (s::l) σ=rms n l σ:=by
 conv=>lhs;unfold rms
 exact if_pos h
def M4(h:¬(s=mu n\/s=cm n))(E:(σ.tell ⟨3,s,⟨#[]⟩⟩).2=0):rms n (s::l) σ=rms n l (σ.tell ⟨3,s,⟨#[]⟩⟩).1:=by
 conv=>lhs;unfold rms
 rw[if_neg h,if_pos E]
theorem I4(h:¬(s=mu n\/s=cm n))(E:(σ.tell ⟨3,s,⟨#[]⟩⟩).2≠0):rms n (s::l) σ=σ.tell ⟨3,s,⟨#[]⟩⟩:=by
 conv=>lhs;unfold rms
 rw[if_neg h,if_neg E]
def Dsk.opened(σ:Dsk)(n:Nat)(ns:List ByteArray):Dsk×Int:=
 if (rms n ns σ).2≠0 then rms n ns σ else(rms n ns σ).1.sync
def xR(σ:Dsk)(n:Nat)(E:Dsk)(x:Int):Prop:=(σ.sync.2≠0/\E=σ.sync.1/\x=σ.sync.2)\/(σ.sync.2=0/\∃ns:List ByteArray,ns.Perm (σ.now.map (·.1))/\E=(σ.sync.1.opened n (iI ns)).1/\x=(σ.sync.1.opened n (iI ns)).2)
def KP(h:σ.sync.2=0):σ.sync.1.down=false/\σ.sync.1.now=σ.now/\σ.sync.1.pend=[]/\σ.sync.1.dur=σ.pend.foldl fx σ.dur:=by
 unfold Dsk.sync at h ⊢
 split at h
 ·rename_i E;exact absurd h E
 ·rename_i E
  rw[if_neg E];unfold Dsk.writes at E ⊢
  split
  ·rename_i I;rw[if_pos I]at E;exact absurd di E
  ·rename_i I
   rw[if_neg I]at E
   split
   ·rename_i J;rw[if_pos J]at E;exact absurd di E
   ·have:σ.down=false:=by
     cases hd:σ.down with
     |false=>rfl
     |true=>exact absurd (.inl hd) I
    exact⟨this,rfl,rfl,rfl⟩
def GF(h:s∈fs.map (·.1)):∃b,fG fs s=some b:=by
 obtain⟨x,E,rfl⟩:=List.mem_map.1 h;unfold fG;cases hf:fs.find? (·.1==x.1)with
 |none=>
  have:=List.find?_eq_none.1 hf x E;exact absurd ((Go.MapKept.bytes_beq _ _).2 rfl) this
 |some y=>exact⟨_,rfl⟩
def sortB_mem{ns:List ByteArray}:s∈iI ns<->s∈ns:=by
 unfold iI;constructor
 ·intro h
  obtain⟨l,E,rfl⟩:=List.mem_map.1 h;rw[List.mem_mergeSort]at E;obtain⟨u,I,rfl⟩:=List.mem_map.1 E;have e:(⟨u.data.toList.toArray⟩:ByteArray)=u:=by rw[Array.toArray_toList]
  rw[e];exact I
 ·intro h
  refine List.mem_map.2 ⟨s.data.toList,?_,by rw[Array.toArray_toList]⟩;rw[List.mem_mergeSort];exact List.mem_map.2 ⟨s,h,rfl⟩
def KN:l9 (σ.tell ⟨3,s,⟨#[]⟩⟩).1.now<=l9 σ.now/\l9 (σ.tell ⟨3,s,⟨#[]⟩⟩).1.dur=l9 σ.dur/\(σ.tell ⟨3,s,⟨#[]⟩⟩).1.pend.length<=σ.pend.length+1/\jh (σ.tell ⟨3,s,⟨#[]⟩⟩).1.pend=jh σ.pend:=by
 have hw:σ.writes.1.now=σ.now/\σ.writes.1.dur=σ.dur/\σ.writes.1.pend=σ.pend:=by
  unfold Dsk.writes
  split
  ·exact⟨rfl,rfl,rfl⟩
  ·split<;>exact⟨rfl,rfl,rfl⟩
 obtain⟨E,I,h3⟩:=hw;unfold Dsk.tell
 split
 ·simp only[E,I,h3,jh,List.map_append,List.sum_append,List.length_append]
  refine⟨cx _,trivial,cx _,rfl⟩
 ·split
  ·rw[E,I,h3];exact⟨cx _,rfl,Nat.le_succ _,rfl⟩
  ·split
   ·show l9 σ.writes.1.now<=_/\l9 σ.writes.1.dur=_/\σ.writes.1.pend.length<=_/\jh σ.writes.1.pend=_
    rw[E,I,h3];exact⟨cx _,rfl,Nat.le_succ _,rfl⟩
   ·simp only[E,I,h3,jh,List.map_append,List.sum_append,List.length_append]
    refine⟨?_,trivial,cx _,rfl⟩;have:=xE σ.now ⟨3,s,⟨#[]⟩⟩;exact this
end
end FK
namespace Go.Y
open Go.Proofs Tryz Go.RowKit Go.SL
def yY(I:s.size<=18)(h:Lib.atoi s.data.toList=none):dS 84 [cX s] [] λv m=>(∃t x,v=.tuple #[aA 0,.iface t x])/\m=[]:=λE w fr J hw=>by
 obtain⟨t,p,T⟩:=J.syn w hw.is;exact(nr s I h _ w T (.inr ⟨_,_,rfl⟩)).mono λe w' ⟨N,K,_,_,O⟩=>⟨_,[],K,⟨⟨_,_,rfl⟩,rfl⟩,hw.below O⟩
def ww(s p:ByteArray):dz G 85 [cX s,cX p] [] λv m=>v=cX ⟨(Lib.trimPrefix s.data.toList p.data.toList).toArray⟩/\m=[]:=
 (fg (φ:=λ_=>True) λ_ w _ _ _=>(mI s p w).mono λ_ _ ⟨E,I⟩=>⟨E,by rw[I];exact Below.refl _ _⟩).does
def wY:(⟨(Lib.trimPrefix (FK.cm 0).data.toList (⟨#[98,97,115,101]⟩:ByteArray).data.toList).toArray⟩:ByteArray)=FK.cm 0:=by decide +kernel
def wZ:Lib.atoi (FK.cm 0).data.toList=none:=by decide +kernel
def _root_.FK.Reds.nil_eq(h:FK.Reds S [] U):U=S:=by
 cases h
 rfl
def _root_.FK.Reds.cons_eq(h:FK.Reds S (b::l) U):∃S',FK.Fine S/\b.length<=1000000001/\FK.Redo S b S'/\FK.Reds S' l U:=by
 cases h with
 |cons E I J K=>exact⟨_,E,I,J,K⟩
abbrev tL(f:Nat):Value:=.func (.func 48) #[aY f] #[]
end Go.Y
namespace FK
open Go.Y (gD i64)
structure Klo(l:List (List UInt8))(σ:Dsk):Prop where
 files:σ.dur=[(cm 0,gD (frames l))]\/(l=[]/\σ.dur=[])
 now:σ.now=σ.dur
 pend:σ.pend=[]
structure Spent(L F:Int)(k:Nat)(σ:Dsk):Prop where
 left:σ.left=Go.IntKind.i64.wrap (L-k)
 full:σ.full=Go.IntKind.i64.wrap (F-k)
 down:σ.down=false
section
variable{L:Int}
def zt:Go.IntKind.i64.wrap (Go.IntKind.i64.wrap (L-k)-1)=Go.IntKind.i64.wrap (L-(k+1:Nat)):=by
 have e:((2:Int) ^ 64)=18446744073709551616:=by decide
 have e2:((2:Int) ^ (64-1))=9223372036854775808:=by decide
 simp only[Go.IntKind.wrap,Go.IntKind.bits,Go.IntKind.signed,Bool.true_and,decide_eq_true_eq,e,e2];obtain⟨m,E⟩:∃m,m=(L-(k:Int))%18446744073709551616:=⟨_,rfl⟩;have J:0<=m/\m<18446744073709551616:=am;have I:(L-((k+1:Nat):Int))%18446744073709551616=if m=0 then 18446744073709551615 else m-1:=by split<;>omega
 rw[<-E,I];clear E I
 split<;>split<;>split<;>omega
def wm(E:i64 L)(hk:k<=1000000)(h:Go.IntKind.i64.wrap (L-k)=0):0<=L:=by
 unfold i64 at E;simp only[Go.IntKind.wrap,Go.IntKind.bits,Go.IntKind.signed,Bool.true_and]at h
 split at h<;>omega
def Spent.err(h:Spent L F k σ)(J:i64 L)(K:i64 F)(hk:k<=1000000)(I:σ.writes.2≠0):0<=L\/0<=F:=by
 unfold Dsk.writes at I
 split at I
 ·rename_i E
  rcases E with E|E
  ·rw[h.down]at E;cases E
  ·rw[h.left]at E;exact .inl (wm J hk E)
 ·split at I
  ·rename_i E
   rw[h.full]at E;exact .inr (wm K hk E)
  ·exact absurd rfl I
def kO(σ:Dsk):(σ.writes.2=0/\σ.down=false/\σ.writes.1={σ with left:=Go.IntKind.i64.wrap (σ.left-1),full:=Go.IntKind.i64.wrap (σ.full-1)})\/(σ.writes.2=10/\σ.down=false/\σ.writes.1={σ with left:=Go.IntKind.i64.wrap (σ.left-1),full:=-1})\/(σ.writes.2=11/\σ.writes.1={σ with down:=true}):=by
 unfold Dsk.writes
 split
 ·exact .inr (.inr ⟨rfl,rfl⟩)
 ·rename_i I
  have E:σ.down=false:=by
   cases E:σ.down with
   |false=>rfl
   |true=>exact absurd (.inl E) I
  split
  ·exact .inr (.inl ⟨rfl,E,rfl⟩)
  ·exact .inl ⟨rfl,E,rfl⟩
def Spent.wrote(h:Spent L F k σ)(I:σ.writes.2=0):Spent L F (k+1) σ.writes.1:=by
 rcases kO σ with⟨_,J,h3⟩|⟨E,_⟩|⟨E,_⟩
 ·rw[h3]
  exact⟨by show Go.IntKind.i64.wrap (σ.left-1)=_;rw[h.left];exact zt,by show Go.IntKind.i64.wrap (σ.full-1)=_;rw[h.full];exact zt,J⟩
 ·rw[I]at E;cases E
 ·rw[I]at E;cases E
def uU(I:σ.pend=[]):σ.sync=σ.writes:=by
 unfold Dsk.sync;rcases kO σ with⟨E,_,h3⟩|⟨E,_⟩|⟨E,_⟩
 ·rw[if_neg (by rw[E];simp),<-E]
  have e1:σ.writes.1.pend=[]:=by rw[h3];exact I
  rw[e1];show(({σ.writes.1 with dur:=σ.writes.1.dur,pend:=[]}:Dsk),σ.writes.2)=σ.writes;rw[show({σ.writes.1 with dur:=σ.writes.1.dur,pend:=[]}:Dsk)=σ.writes.1 by rw[h3,<-I]]
 ·exact if_pos (by rw[E];decide)
 ·exact if_pos (by rw[E];decide)
def AH(σ:Dsk):σ.writes.1.dur=σ.dur/\σ.writes.1.now=σ.now/\σ.writes.1.pend=σ.pend:=by
 rcases kO σ with⟨_,_,h3⟩|⟨_,_,h3⟩|⟨_,h3⟩<;>rw[h3]<;>exact⟨rfl,rfl,rfl⟩
def Klo.wrote(h:Klo l σ):Klo l σ.writes.1:=by
 obtain⟨E,I,h3⟩:=AH σ;exact⟨by rw[E];exact h.files,by rw[E,I];exact h.now,by rw[h3];exact h.pend⟩
def Klo.rested(h:Klo l σ)(L F:Int)(b:Bool):Klo l {σ with left:=L,full:=F,down:=b}:=⟨h.files,h.now,h.pend⟩
def Klo.names(h:Klo l σ):∀s∈σ.now.map (·.1),s=cm 0:=λs E=>by
 rw[h.now]at E;rcases h.files with I|⟨_,I⟩
 ·rw[I]at E;simpa using E
 ·rw[I]at E;cases E
def Klo.scan{l:List (List UInt8)}{σ:Dsk}(h:Klo l σ){ns:List ByteArray}(J:ns.Perm (σ.now.map (·.1))):scan σ.now (iI ns)=⟨0,none⟩:=by
 have E:∀s∈iI ns,s=cm 0:=λs I=>h.names s (J.mem_iff.1 (sortB_mem.1 I));have key:∀(ns:List ByteArray),(∀s∈ns,s=cm 0)->ns.foldl (kE σ.now) ⟨0,none⟩=⟨0,none⟩:=by
  intro ns
  induction ns with
  |nil=>intro _;rfl
  |cons s ns O=>
   intro I;rw[List.foldl_cons,qQ]
   ·exact O λx K=>I x (.tail _ K)
   ·rw[I s (.head _)]
    unfold me;rw[Go.Y.wY];exact Go.Y.wZ
 exact key _ E
def Klo.rms{l:List (List UInt8)}{σ:Dsk}(h:Klo l σ){ns:List ByteArray}(J:ns.Perm (σ.now.map (·.1)))(τ:Dsk):rms 0 (iI ns) τ=(τ,0):=by
 have E:∀s∈iI ns,s=cm 0:=λs I=>h.names s (J.mem_iff.1 (sortB_mem.1 I));have key:∀(ns:List ByteArray),(∀s∈ns,s=cm 0)->FK.rms 0 ns τ=(τ,0):=by
  intro ns
  induction ns with
  |nil=>intro _;rfl
  |cons s ns O=>
   intro I;unfold FK.rms;rw[if_pos (.inr (I s (.head _)))];exact O λx K=>I x (.tail _ K)
 exact key _ E
def Klo.vols(h:Klo l σ):l9 σ.now=(frames l).length/\l9 σ.dur=(frames l).length/\σ.now.length<=1:=by
 have e:(gD (frames l)).size=(frames l).length:=by
  show(frames l).toArray.size=_;simp
 rw[h.now];rcases h.files with E|⟨rfl,E⟩
 ·rw[E];simp[l9,e]
 ·rw[E];exact⟨rfl,rfl,Nat.zero_le _⟩
def Klo.log(h:Klo l σ):pJ σ.now (cm 0)=frames l:=by
 unfold pJ;rw[h.now];have e:(cm 0==cm 0)=true:=(Go.MapKept.bytes_beq _ _).2 rfl;rcases h.files with E|⟨rfl,E⟩
 ·rw[E];simp[fG,e];rfl
 ·rw[E];rfl
def Klo.opened{l:List (List UInt8)}{σ J:Dsk}{L F x:Int}{k:Nat}(h:Klo l σ)(K:Spent L F k σ)(T:i64 L)(Y:i64 F)(hk:k+1<=1000000)(O:xR σ 0 J x):Klo l J/\(x=0->J.down=false)/\(x≠0->(x=10\/x=11)/\(0<=L\/0<=F)):=by
 have I:∀τ:Dsk,τ.writes.2≠0->τ.writes.2=10\/τ.writes.2=11:=λτ hτ=>by
  rcases kO τ with⟨E,_⟩|⟨E,_⟩|⟨E,_⟩
  ·exact absurd E hτ
  ·exact .inl E
  ·exact .inr E
 unfold xR at O;rw[uU h.pend]at O;rcases O with⟨E,rfl,rfl⟩|⟨E,ns,hn,rfl,rfl⟩
 ·exact⟨h.wrote,λe=>absurd e E,λ_=>⟨I _ E,K.err T Y am E⟩⟩
 ·unfold Dsk.opened
  rw[h.rms hn,if_neg di];rw[uU h.wrote.pend];refine⟨h.wrote.wrote,λe=>(K.wrote E |>.wrote e).down,λe=>⟨I _ e,(K.wrote E).err T Y hk e⟩⟩
end
end FK
