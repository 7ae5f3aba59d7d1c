/- A step of a script: Seed, Tick, Poll, and what is no call. -/
import Derived.Test.YtmeegfamopaljaaGreatDoorRuL
import Derived.Test.YtmeegfamopaljaaGreatDoorRuK
set_option maxHeartbeats 8000000
set_option maxRecDepth 20000
variable {ns:List Go.Y.ND} {σ:FK.Dsk} {w0:Go.World} {eb n:Nat} {A:Option Go.Addr} {S:FK.En} {J:FK.Jn} {M:FR.En} {s:ByteArray} {K dl:Int} {E0:Go.SL.Env} {a:Go.Y.RfA} {p:Go.Y.EA}
namespace Go.Y
open Go.Proofs Go.RowKit Go.SL
theorem rl {a:Nat} {b c:Int} {t:Nat}:jP Tryz.prog (cd a b c t).toArray (cd a b c t).toArray (Tryz.prog.fieldsOf 55).toList=some true:=by
 have:=C5 (a,b,c,t) (a,b,c,t);simpa using this
section
variable {w h f e j d N:Nat} {nv sv:Value}
theorem AB (hL:Live N S M J σ) (hN:N<=100000) (hn:n<18446744073709551616):dQ 42 [aX w,kH 8 n dl nv sv] (gg w h f e j d p S J σ eb a ns M) (Stepped w h f e j d N []):=by
 have hP:=hL.pair;have hF:=hP.fine am;refine bA Tryz.func42 Z λE fr hE=>f7<|sS<|sO (cR Z Z λK=>(aG K (cQ 8 n dl nv sv).toArray Z (sB Z (sS (sM Z (da Z (bn 1 Z (bF (au (v:=aX eb) Z) (ah Z) ?_))))))))
 refine bU Z (fC hF hP.nd) qF ?_;rintro v m ⟨e2,I,rfl,rfl⟩;refine aD ?_;refine aq (l':=bB h d f::cU f e j::aN e p S::aP j d J::aI d σ::aV eb a ns M::aV e2 I ns M::bx ns::cz w h (aX eb) du false false::blk K 102 (cQ 8 n dl nv sv).toArray::fr) (by show Ent (aV eb a ns M::aV e2 I ns M::blk K 102 (cQ 8 n dl nv sv).toArray::bB h d f::cU f e j::aN e p S::aP j d J::aI d σ::cz w h (aX eb) du false false::bx ns::fr) _;exact aJ) ?_;refine sB Z<|sQ<|sS<|bn 0 Z<|bF (au (v:=aw 8) Z) (ah Z)<|sN<|ag<|sQ<|sS<|sP (aY Z Z Z)<|sB Z<|aj Z<|sG ?_
 refine sP (aY Z Z Z)<|sB Z<|aj Z<|sS<|sP (aY Z Z Z)<|sB Z<|aj Z<|sS<|sP (aY Z Z Z)<|sB Z<|aj Z<|sQ ?_
 refine sG<|sP (aY Z Z Z)<|sB Z<|aj Z<|sS<|sP (aY Z Z Z)<|sB Z<|aj Z<|sS<|sP (aY Z Z Z)<|sB Z<|aj Z ?_
 refine sS<|sP (aY Z Z Z)<|sB Z<|aM Z<|sQ<|sZ Z<|dT Z Z<|dt 0 Z Z Z<|bQ Z (au (v:=aX h) Z) (ah Z)<|bC Z (bl 1 Z)<|bQ Z (au (v:=aQ n) Z) (ah Z)<|bC Z (bl 5 Z)<|bQ Z (bO (vs:=cA (-1) (-1) 0 0) Z) (ko jq) ?_
 refine dA 8 Z<|ed Z (seed2 hL hN hn) aT ?_
 rintro v m ⟨rfl,U,O,T,Y,rfl⟩;refine aq (l':=aV e2 I ns M::bx ns::bB h d f::cU f e j::aN e p U::aP j d O::aI d T::aV eb a ns M::cz w h (aX eb) du false false::blk K 102 (cQ 8 n dl nv sv).toArray::fr) (by show Ent (bB h d f::cU f e j::aN e p U::aP j d O::aI d T::aV eb a ns M::aV e2 I ns M::bx ns::cz w h (aX eb) du false false::blk K 102 (cQ 8 n dl nv sv).toArray::fr) _;exact aJ) ?_;refine dK [false,false,false] ak<|dj 9 Z (aU Z)<|dE<|sT<|bq Z<|bn 1 Z<|bF (au (v:=aQ n) Z) (ah Z)<|da Z<|bn 1 Z ?_
 refine sO<|rH (a:=I) (M:=M) (M':={M with seed:=n}) Z Z Z am Z Z Z Z ?_
 refine sN<|bq Z<|sM Z<|sM Z ?_
 refine bW Z eW Di ?_;refine aa ?_;rw[if_pos rfl];refine sB Z<|an<|aH<|aC ?_
 refine ar (gg w h f e j d p U O T e2 I ns {M with seed:=n}++[]) Z Z ⟨rfl,p,U,O,T,e2,I,ns,{M with seed:=n},Y,rfl⟩ ?_;show Ent _ (bB h d f::cU f e j::aN e p U::aP j d O::aI d T::cz w h (aX e2) du false false::aV e2 I ns {M with seed:=n}::bx ns::fr);exact aJ
theorem AA (hL:Live N S M J σ) (hN:N<=100000) (hn:n<18446744073709551616):dQ 42 [aX w,kH 9 n dl nv sv] (gg w h f e j d p S J σ eb a ns M) (Stepped w h f e j d N []):=by
 have hP:=hL.pair;have hF:=hP.fine am;refine bA Tryz.func42 Z λE fr hE=>f7<|sS<|sO (cR Z Z λI=>(aG I (cQ 9 n dl nv sv).toArray Z (sB Z (sS (sM Z (da Z (bn 1 Z (bF (au (v:=aX eb) Z) (ah Z) ?_))))))))
 refine bU Z (fC hF hP.nd) qF ?_;rintro v m ⟨e2,K,rfl,rfl⟩;refine aD ?_;refine aq (l':=bB h d f::cU f e j::aN e p S::aP j d J::aI d σ::aV eb a ns M::aV e2 K ns M::bx ns::cz w h (aX eb) du false false::blk I 102 (cQ 9 n dl nv sv).toArray::fr) (by show Ent (aV eb a ns M::aV e2 K ns M::blk I 102 (cQ 9 n dl nv sv).toArray::bB h d f::cU f e j::aN e p S::aP j d J::aI d σ::cz w h (aX eb) du false false::bx ns::fr) _;exact aJ) ?_;refine sB Z<|sQ<|sS<|bn 0 Z<|bF (au (v:=aw 9) Z) (ah Z)<|sN<|ag<|sQ<|sS<|sP (aY Z Z Z)<|sB Z<|aj Z<|sG ?_
 refine sP (aY Z Z Z)<|sB Z<|aj Z<|sS<|sP (aY Z Z Z)<|sB Z<|aj Z<|sS<|sP (aY Z Z Z)<|sB Z<|aj Z<|sQ ?_
 refine sG<|sP (aY Z Z Z)<|sB Z<|aj Z<|sS<|sP (aY Z Z Z)<|sB Z<|aj Z<|sS<|sP (aY Z Z Z)<|sB Z<|aj Z ?_
 refine sS<|sP (aY Z Z Z)<|sB Z<|aj Z<|sS<|sP (aY Z Z Z)<|sB Z<|aM Z<|sQ<|sZ Z<|dT Z Z<|dt 0 Z Z Z<|bQ Z (au (v:=aX h) Z) (ah Z) ?_
 refine dj 4 Z (bl 1 Z)<|bQ Z (au (v:=aQ n) Z) (ah Z)<|bC Z (bl 5 Z)<|bQ Z (bO (vs:=cA (-1) (-1) 0 0) Z) (ko jq) ?_
 refine dA 8 Z<|ed Z (tick2 hL hN hn) aT ?_
 rintro v m ⟨rfl,U,V,O,T,Y,rfl,hR⟩;refine aq (l':=bB h d f::cU f e j::aN e p U::aP j d O::aI d T::aV eb a ns M::aV e2 K ns M::bx ns::cz w h (aX eb) du false false::blk I 102 (cQ 9 n dl nv sv).toArray::fr) aT ?_;refine dK [false,false,false] ak<|dj 9 Z (aU Z)<|dE<|sT<|bq Z<|bn 1 Z<|bF (au (v:=aQ n) Z) (ah Z) ?_
 refine bU Z (hR e2 K ns) (bo nH nH) ?_;rintro v m ⟨rfl,a3,rfl⟩;refine aD<|sN<|bq Z<|sM Z<|sM Z ?_
 refine bW Z eW Di ?_;refine aa ?_;rw[if_pos rfl];refine sB Z<|an<|aH<|aC<|ar (gg w h f e j d p U O T e2 a3 ns V++[]) Z Z ⟨rfl,p,U,O,T,e2,a3,ns,V,Y,rfl⟩ ?_
 show Ent _ (bB h d f::cU f e j::aN e p U::aP j d O::aI d T::cz w h (aX e2) du false false::aV e2 a3 ns V::bx ns::fr);exact aJ
theorem AK (I:∀i:Int,1<=i->i<=10->K≠i) (T:Live N S M J σ) (hN:N<=100000):dQ 42 [aX w,kH K n dl nv sv] (gg w h f e j d p S J σ eb a ns M) (Stepped w h f e j d N []):=by
 have hP:=T.pair;have hF:=hP.fine am;refine bA Tryz.func42 Z λE fr hE=>f7<|sS<|sO (cR Z Z λO=>(aG O (cQ K n dl nv sv).toArray Z (sB Z (sS (sM Z (da Z (bn 1 Z (bF (au (v:=aX eb) Z) (ah Z) ?_))))))))
 refine bU Z (fC hF hP.nd) qF ?_;rintro v m ⟨e2,Y,rfl,rfl⟩;refine aD ?_;refine aq (l':=bB h d f::cU f e j::aN e p S::aP j d J::aI d σ::aV eb a ns M::aV e2 Y ns M::bx ns::cz w h (aX eb) du false false::blk O 102 (cQ K n dl nv sv).toArray::fr) (by show Ent (aV eb a ns M::aV e2 Y ns M::blk O 102 (cQ K n dl nv sv).toArray::bB h d f::cU f e j::aN e p S::aP j d J::aI d σ::cz w h (aX eb) du false false::bx ns::fr) _;exact aJ) ?_;refine sB Z<|sQ<|sS<|bn 0 Z<|bF (au (v:=aw K) Z) (ah Z)<|sN<|ag<|sQ<|sS<|sP (aY (r:=false) Z Z (pc (I 1 fi fi)))<|sB Z<|aj Z<|sG ?_
 refine sP (aY (r:=false) Z Z (pc (I 2 fi fi)))<|sB Z<|aj Z<|sS<|sP (aY (r:=false) Z Z (pc (I 3 fi fi)))<|sB Z<|aj Z<|sS<|sP (aY (r:=false) Z Z (pc (I 4 fi fi)))<|sB Z<|aj Z<|sQ ?_
 refine sG<|sP (aY (r:=false) Z Z (pc (I 5 fi fi)))<|sB Z<|aj Z<|sS<|sP (aY (r:=false) Z Z (pc (I 6 fi fi)))<|sB Z<|aj Z<|sS<|sP (aY (r:=false) Z Z (pc (I 7 fi fi)))<|sB Z<|aj Z ?_
 refine sS<|sP (aY (r:=false) Z Z (pc (I 8 fi fi)))<|sB Z<|aj Z<|sS<|sP (aY (r:=false) Z Z (pc (I 9 fi fi)))<|sB Z<|aj Z<|sS<|sP (aY (r:=false) Z Z (pc (I 10 fi fi)))<|sB Z ?_
 refine aj Z<|ae<|al<|sT<|sS<|sB Z<|an<|ar (gg w h f e j d p S J σ eb a ns M++[]) Z Z ⟨rfl,p,S,J,σ,eb,a,ns,M,T.succ,rfl⟩ ?_
 show Ent _ (bB h d f::cU f e j::aN e p S::aP j d J::aI d σ::cz w h (aX eb) du false false::aV eb a ns M::bx ns::fr);exact aJ
theorem AG (hL:Live N S M J σ) (hN:N<=100000):dQ 42 [aX w,kH 3 n dl nv sv] (gg w h f e j d p S J σ eb a ns M) (Stepped w h f e j d N []):=by
 have hP:=hL.pair;have hF:=hP.fine am;obtain⟨T,tb,Y,tt,ok,V,BT,hH,hR⟩:=poll3 (h:=h) (f:=f) (e:=e) (j:=j) (d:=d) (p:=p) hL hN;refine bA Tryz.func42 Z λE fr hE=>f7<|sS<|sO (cR Z Z λb3=>(aG b3 (cQ 3 n dl nv sv).toArray Z (sB Z (sS (sM Z (da Z (bn 1 Z (bF (au (v:=aX eb) Z) (ah Z) ?_))))))))
 refine bU Z (fC hF hP.nd) qF ?_;rintro v m ⟨e2,a2,rfl,rfl⟩;refine aD ?_;refine aq (l':=bB h d f::cU f e j::aN e p S::aP j d J::aI d σ::aV eb a ns M::aV e2 a2 ns M::bx ns::cz w h (aX eb) du false false::blk b3 102 (cQ 3 n dl nv sv).toArray::fr) (by show Ent (aV eb a ns M::aV e2 a2 ns M::blk b3 102 (cQ 3 n dl nv sv).toArray::bB h d f::cU f e j::aN e p S::aP j d J::aI d σ::cz w h (aX eb) du false false::bx ns::fr) _;exact aJ) ?_;refine sB Z<|sQ<|sS<|bn 0 Z<|bF (au (v:=aw 3) Z) (ah Z)<|sN<|ag<|sQ<|sS<|sP (aY Z Z Z)<|sB Z<|aj Z<|sG ?_
 refine sP (aY Z Z Z)<|sB Z<|aj Z<|sS<|sP (aY Z Z Z)<|sB Z<|aM Z<|sQ<|sZ Z<|dT Z Z<|dt 0 Z Z Z<|bQ Z (au (v:=aX h) Z) (ah Z)<|bC Z (bl 5 Z)<|bQ Z (bO (vs:=cA (-1) (-1) 0 0) Z) (ko jq) ?_
 refine io 6 11 Z Z Z Z eA (ed Z hH aT ?_) (cH (z:=.agg #[.int .u64 0,aw 0,aw 0,.int .u64 0]) Z λO=>?_)
 ·
  rintro v m ⟨rfl,U,I,K,wf,rfl⟩;refine aq (l':=bB h d f::cU f e j::aN e p U::aP j d I::aI d K::aV eb a ns M::aV e2 a2 ns M::bx ns::cz w h (aX eb) du false false::blk b3 102 (cQ 3 n dl nv sv).toArray::fr) aT ?_;refine dK [false,false] ak<|dj 7 Z (bd Z)<|bC Z (cf Z Z)<|bC Z (cf Z Z)<|bC Z (cf Z Z)<|vw Z (cH (z:=.agg #[.int .u64 0,aw 0,aw 0,.int .u64 0]) Z λO=>(aG O (cd 0 0 0 0).toArray Z (dK [] ak ?_)))
  refine dA 12 Z<|bh Z (m:=4) (vs:=cd T tb Y tt) Z Z Z Z er (by show 0+4<=4;omega) ?_
  refine dK [] ak<|dj 13 Z (aU Z)<|bC Z (aU Z)<|dE<|sT<|sQ<|aG O (cd T tb Y tt).toArray Z<|sG<|sM Z ?_
  refine bU Z (hR e2 a2 ns) (bo Dh Dh) ?_;rintro v m ⟨rfl,a3,rfl⟩;refine aD<|sM Z<|bT Z Z<|bT Z Z<|sO (cH (z:=.agg #[.int .u64 0,aw 0,aw 0,.int .u64 0]) Z λmt=>(aG mt (cd 0 0 0 0).toArray Z ?_))
  refine sO<|bh Z (m:=4) (vs:=cd T tb Y tt) Z Z Z Z er (by show 0+4<=4;omega) ?_
  refine aG mt (cd T tb Y tt).toArray Z<|sB Z<|sQ<|sQ ?_
  by_cases HQ:ok=false
  ·
   obtain⟨rfl,rfl,rfl,rfl,rfl⟩:=BT HQ;subst HQ;refine sG<|ch Z (cD (r:=true) Z Z)<|sN<|aM Z<|bq Z<|sP (cD (r:=true) Z Z)<|sM Z<|db Z<|ci (aY (r:=true) Z Z Z)<|sP (aF Z Z Z)<|sM Z<|fN (bO (vs:=cd 0 0 0 0) Z) (bm Z)<|ci (bI (ps:=[]) (vs:=[]) (cs:=(cd 0 0 0 0).toArray) Z Z Z Z Z)<|ci (j0 (r:=true) Z eA eA Z Z rl)<|sP (aF Z Z Z)<|sA Z ?_
   refine sN<|an<|aC<|aH<|aC<|ar (gg w h f e j d p U I K eb a ns V++[]) Z Z ⟨rfl,p,U,I,K,eb,a,ns,V,wf,rfl⟩ ?_
   show Ent _ (bB h d f::cU f e j::aN e p U::aP j d I::aI d K::cz w h (aX eb) du false false::aV eb a ns V::bx ns::fr);exact aJ
  ·
   obtain rfl:ok=true:=by simpa using HQ
   refine sG<|ch Z (cD (r:=false) Z Z)<|sN<|aj Z<|ae<|sT<|bq Z<|sM Z<|sM Z ?_
   refine bW Z eW (Ent.sel (.tail H4)) ?_;refine aa ?_;rw[if_pos rfl];refine sB Z<|bq Z<|sM Z<|db Z<|ci (dc (r:=false) Z Z Z)<|db Z<|bg Z<|bg Z<|ci (aF Z Z Z)<|db Z<|bg Z<|bg Z<|bg Z<|ci (aF Z Z Z)<|db Z<|db Z ?_
   refine db Z<|fN (bO (vs:=cd T tb Y tt) Z) (bm Z)<|fN (bO (vs:=cd T tb Y tt) Z) (bm Z)<|ci (j0 (r:=true) Z eA eA Z Z rl)<|ci (aF Z Z Z)<|ci (aF Z Z Z)<|sP (aF Z Z Z)<|sB Z<|an<|aH<|aC<|ar (gg w h f e j d p U I K e2 a3 ns V++[]) Z Z ⟨rfl,p,U,I,K,e2,a3,ns,V,wf,rfl⟩ ?_
   show Ent _ (bB h d f::cU f e j::aN e p U::aP j d I::aI d K::cz w h (aX e2) du false false::aV e2 a3 ns V::bx ns::fr);exact aJ
 ·
  refine aG O (cd 0 0 0 0).toArray Z<|dK [true,true] (ai (ko jq) (ai (ah Z) ak)) ?_
  refine dA 6 Z<|ed Z hH (eo (l:=cj h f e j d p S J σ)) ?_
  rintro v m ⟨rfl,U,I,K,wf,rfl⟩;refine aq (l':=blk O 55 (cd 0 0 0 0).toArray::bB h d f::cU f e j::aN e p U::aP j d I::aI d K::aV eb a ns M::aV e2 a2 ns M::bx ns::cz w h (aX eb) du false false::blk b3 102 (cQ 3 n dl nv sv).toArray::fr) (by show Ent (bB h d f::cU f e j::aN e p U::aP j d I::aI d K::blk O 55 (cd 0 0 0 0).toArray::aV eb a ns M::aV e2 a2 ns M::bx ns::cz w h (aX eb) du false false::blk b3 102 (cQ 3 n dl nv sv).toArray::fr) _;exact aJ) ?_;refine dK [false,false] ak<|dj 7 Z (bd Z)<|bC Z (cf Z Z)<|bC Z (cf Z Z)<|bC Z (cf Z Z) ?_
  refine dA 12 Z<|bh Z (m:=4) (vs:=cd T tb Y tt) Z Z Z Z er (by show 0+4<=4;omega) ?_
  refine dK [] ak<|dj 13 Z (aU Z)<|bC Z (aU Z)<|dE<|sT<|sQ<|aG O (cd T tb Y tt).toArray Z<|sG<|sM Z ?_
  refine bU Z (hR e2 a2 ns) (bo Dh Dh) ?_;rintro v m ⟨rfl,a3,rfl⟩;refine aD<|sM Z<|bT Z Z<|bT Z Z<|sO (cH (z:=.agg #[.int .u64 0,aw 0,aw 0,.int .u64 0]) Z λmt=>(aG mt (cd 0 0 0 0).toArray Z ?_))
  refine sO<|bh Z (m:=4) (vs:=cd T tb Y tt) Z Z Z Z er (by show 0+4<=4;omega) ?_
  refine aG mt (cd T tb Y tt).toArray Z<|sB Z<|sQ<|sQ ?_
  by_cases HQ:ok=false
  ·
   obtain⟨rfl,rfl,rfl,rfl,rfl⟩:=BT HQ;subst HQ;refine sG<|ch Z (cD (r:=true) Z Z)<|sN<|aM Z<|bq Z<|sP (cD (r:=true) Z Z)<|sM Z<|db Z<|ci (aY (r:=true) Z Z Z)<|sP (aF Z Z Z)<|sM Z<|fN (bO (vs:=cd 0 0 0 0) Z) (bm Z)<|ci (bI (ps:=[]) (vs:=[]) (cs:=(cd 0 0 0 0).toArray) Z Z Z Z Z)<|ci (j0 (r:=true) Z eA eA Z Z rl)<|sP (aF Z Z Z)<|sA Z ?_
   refine sN<|an<|aC<|aH<|aC<|ar (gg w h f e j d p U I K eb a ns V++[]) Z Z ⟨rfl,p,U,I,K,eb,a,ns,V,wf,rfl⟩ ?_
   show Ent _ (bB h d f::cU f e j::aN e p U::aP j d I::aI d K::cz w h (aX eb) du false false::aV eb a ns V::bx ns::fr);exact aJ
  ·
   obtain rfl:ok=true:=by simpa using HQ
   refine sG<|ch Z (cD (r:=false) Z Z)<|sN<|aj Z<|ae<|sT<|bq Z<|sM Z<|sM Z ?_
   refine bW Z eW (Ent.sel (.tail H4)) ?_;refine aa ?_;rw[if_pos rfl];refine sB Z<|bq Z<|sM Z<|db Z<|ci (dc (r:=false) Z Z Z)<|db Z<|bg Z<|bg Z<|ci (aF Z Z Z)<|db Z<|bg Z<|bg Z<|bg Z<|ci (aF Z Z Z)<|db Z<|db Z ?_
   refine db Z<|fN (bO (vs:=cd T tb Y tt) Z) (bm Z)<|fN (bO (vs:=cd T tb Y tt) Z) (bm Z)<|ci (j0 (r:=true) Z eA eA Z Z rl)<|ci (aF Z Z Z)<|ci (aF Z Z Z)<|sP (aF Z Z Z)<|sB Z<|an<|aH<|aC<|ar (gg w h f e j d p U I K e2 a3 ns V++[]) Z Z ⟨rfl,p,U,I,K,e2,a3,ns,V,wf,rfl⟩ ?_
   show Ent _ (bB h d f::cU f e j::aN e p U::aP j d I::aI d K::cz w h (aX e2) du false false::aV e2 a3 ns V::bx ns::fr);exact aJ
end
end Go.Y
namespace Go.SL
theorem BP {D:List Deferred} {I:List (Nat×Value)} {p0 p1 p2 p3 O T Y p7 p8:HP} {fr:List HP} {K:Act->World->Prop} (h:At E0 n D I (p0::p1::p2::p3::O::T::Y::p7::p8::fr) K):At E0 n D I ([p0,p1,p2,p3,O,T,Y,p7,p8]++fr) K:=h
end Go.SL
namespace Go.Y
open Go.Proofs Go.RowKit Go.SL
theorem uE (b:ByteArray):b.data.toList.length=b.size:=by rw[Array.length_toList];rfl
theorem F9 {nds:List FK.Node} {v:Value} {m:List HP} (h:Dc ⟨dl,nds⟩ v m):∃E bs x y,v=.tuple #[E,aw x,aw y]/\bs.length<=20000/\∀fr,Ent (m++fr) (dd E bs::fr):=by
 rcases h with⟨I,E,rfl,rfl⟩|⟨_,rfl,rfl⟩
 · exact⟨E,_,_,_,rfl,by have:=(FK.oJ I).encLen;omega,λ_=>aT⟩
 · exact⟨cx,[],_,_,rfl,by decide,λ_=>Ent.row0⟩
section
variable {w h f e j d N:Nat} {nv:Value}
theorem AH (hL:Live N S M J σ) (hN:N<=100000) (hs:s.size<=20000):dQ 42 [aX w,kH 2 n dl nv (.string s)] (gg w h f e j d p S J σ eb a ns M) (Stepped w h f e j d N []):=by
 have hP:=hL.pair;have hF:=hP.fine am;refine bA Tryz.func42 Z λE fr hE=>f7<|sS<|sO (cR Z Z λb3=>(aG b3 (cQ 2 n dl nv (.string s)).toArray Z (sB Z (sS (sM Z (da Z (bn 1 Z (bF (au (v:=aX eb) Z) (ah Z) ?_))))))))
 refine bU Z (fC hF hP.nd) qF ?_;rintro v m ⟨e2,Y,rfl,rfl⟩;refine aD ?_;refine aq (l':=bB h d f::cU f e j::aN e p S::aP j d J::aI d σ::aV eb a ns M::aV e2 Y ns M::bx ns::cz w h (aX eb) du false false::blk b3 102 (cQ 2 n dl nv (.string s)).toArray::fr) (by show Ent (aV eb a ns M::aV e2 Y ns M::blk b3 102 (cQ 2 n dl nv (.string s)).toArray::bB h d f::cU f e j::aN e p S::aP j d J::aI d σ::cz w h (aX eb) du false false::bx ns::fr) _;exact aJ) ?_;refine sB Z<|sQ<|sS<|bn 0 Z<|bF (au (v:=aw 2) Z) (ah Z)<|sN<|ag<|sQ<|sS<|sP (aY Z Z Z)<|sB Z<|aj Z<|sG ?_
 refine sP (aY Z Z Z)<|sB Z<|aM Z<|sS<|bn 4 Z<|aR Z Z Z Z<|sO (CL Z Z Z Z Z λb6 cb fz=>?_)
 obtain⟨T,mt⟩:∃T,T=EY b6 cb s fz:=⟨_,rfl⟩;have K5:Reads T (some ⟨b6,0,none⟩) s.data.toList:=by rw[mt];exact DP
 have BT:some (⟨b6,0,none⟩:Addr)=none->s.data.toList=[]:=λh=>by cases h
 have Fd:s.data.toList.length<=20000:=by rw[uE];exact hs
 show At E _ _ (_::_) (EY b6 cb s fz::_) _;rw[<-mt,<-uE];refine sB Z<|sQ<|sS<|bn 0 Z<|aR Z Z Z Z<|sP (aY (r:=false) Z Z Z)<|sN<|aj Z<|ae<|sT<|sQ ?_
 obtain⟨k,x,y,W1,W2,hW,hH,hR⟩:=Cw (h:=h) (f:=f) (e:=e) (j:=j) (d:=d) (p:=p) (c:=cb) hL hN K5 BT Fd;refine sZ Z<|dT Z Z<|dt 0 Z Z Z<|bQ Z (au (v:=aX h) Z) (ah Z)<|cv Z Z<|bC Z (bl 5 Z)<|bQ Z (bO (vs:=cA (-1) (-1) 0 0) Z) (ko jq) ?_
 refine aq (l':=T::bB h d f::cU f e j::aN e p S::aP j d J::aI d σ::aV eb a ns M::aV e2 Y ns M::bx ns::cz w h (aX eb) du false false::blk b3 102 (cQ 2 n dl nv (.string s)).toArray::fr) aT ?_;refine dA 7 Z<|ed Z hH (by show Ent (T::bB h d f::cU f e j::aN e p S::aP j d J::aI d σ::aV eb a ns M::aV e2 Y ns M::bx ns::cz w h (aX eb) du false false::blk b3 102 (cQ 2 n dl nv (.string s)).toArray::fr) (bB h d f::cU f e j::aN e p S::aP j d J::aI d σ::T::aV eb a ns M::aV e2 Y ns M::bx ns::cz w h (aX eb) du false false::blk b3 102 (cQ 2 n dl nv (.string s)).toArray::fr);exact aJ) ?_
 rintro v m ⟨rfl,p',U,K,O,In,rfl⟩;refine aq (l':=bB h d f::cU f e j::aN e p' U::aP j d K::aI d O::T::aV eb a ns M::aV e2 Y ns M::bx ns::cz w h (aX eb) du false false::blk b3 102 (cQ 2 n dl nv (.string s)).toArray::fr) aT ?_;refine dK [false,false] ak<|dj 8 Z (bd Z)<|bC Z (cf Z Z)<|bC Z (cf Z Z)<|bC Z (cf Z Z)<|bC Z (aU Z)<|bC Z (aU Z)<|bC Z (aU Z)<|dE<|sT<|bq Z<|sM Z ?_
 refine bU Z (hR e2 Y ns) (by show Ent (bB h d f::cU f e j::aN e p' U::aP j d K::aI d O::T::aV eb a ns M::aV e2 Y ns M::bx ns::cz w h (aX eb) du false false::blk b3 102 (cQ 2 n dl nv (.string s)).toArray::fr) (aV e2 Y ns M::bx ns::T::bB h d f::cU f e j::aN e p' U::aP j d K::aI d O::aV eb a ns M::cz w h (aX eb) du false false::blk b3 102 (cQ 2 n dl nv (.string s)).toArray::fr);exact aJ) ?_;rintro v m ⟨rfl,a3,I,V,K3,K4,rfl⟩;refine cJ ?_;obtain⟨wf,hx,hk⟩:=hW U K O V In K3;refine sM Z<|bT Z Z<|bT Z Z<|bT Z Z<|sA Z<|sA Z<|sB Z<|bq Z<|sM Z<|sM Z<|sM Z ?_
 refine bW Z eW gfE9 ?_;refine aa<|sB Z<|sQ ?_
 by_cases HX:x=0
 ·
  subst HX;rw[if_pos rfl];refine sG<|sM Z<|sM Z<|db Z<|ci (dc (r:=false) Z Z Z)<|db Z<|bg Z<|bg Z<|ci (aF Z Z Z)<|db Z<|db Z<|db Z<|ci (cT Z Z Z)<|ci (aF Z Z Z)<|sP (aF Z Z Z)<|sM Z<|db Z<|ci (aY (r:=true) Z Z Z)<|db Z<|bg Z ?_
  refine bg Z<|bg Z<|ci (aF Z Z Z)<|sP (aF Z Z Z)<|sB Z<|an<|aH<|aC<|ar (gg w h f e j d p' U K O e2 a3 I V++[]) Z Z ⟨rfl,p',U,K,O,e2,a3,I,V,wf,rfl⟩ ?_
  show Ent _ (bB h d f::cU f e j::aN e p' U::aP j d K::aI d O::cz w h (aX e2) du false false::aV e2 a3 I V::bx I::fr);exact aJ
 ·
  obtain rfl:=hx HX;obtain rfl:=hk HX;rw[if_neg HX];refine sG<|sM Z<|sM Z<|db Z<|ci (vZ Z Z HX)<|db Z<|db Z<|ci (aY (r:=true) Z Z Z)<|ci (aF Z Z Z)<|db Z<|bg Z<|bg Z<|bg Z<|ci (aF Z Z Z)<|sP (aF Z Z Z)<|sM Z<|db Z<|ci (d8 Z Z HX)<|db Z<|db Z ?_
  refine db Z<|ci (cT Z Z Z)<|ci (aF Z Z Z)<|sP (aF Z Z Z)<|sB Z<|an<|aH<|aC ?_
  obtain rfl:=K4 HX;refine ar (gg w h f e j d p' U K O eb a I V++[]) Z Z ⟨rfl,p',U,K,O,eb,a,I,V,wf,rfl⟩ ?_;show Ent _ (bB h d f::cU f e j::aN e p' U::aP j d K::aI d O::cz w h (aX eb) du false false::aV eb a I V::bx I::fr);exact aJ
section
variable {A0:Option Addr} {c0:Nat} {nds:List FK.Node}
theorem AJ (hG:Good E0) (h0:E0.is w0) (K4:NodesAt w0 w0.heap.size A0 c0 nds) (hL:Live N S M J σ) (hN:N<=100000) (_:s.size<=20000):Does Tryz.prog (λE=>E=E0) 42 [aX w,kH 1 n dl (.slice A0 nds.length c0) (.string s)].toArray (gg w h f e j d p S J σ eb a ns M++[old E0 w0]) (Stepped w h f e j d N [old E0 w0]):=by
 have hP:=hL.pair;have hF:=hP.fine am;refine bA Tryz.func42 Z λE fr hE=>BP ?_;obtain rfl:E=E0:=hE;replace hE:=hG;refine sS<|sO (cR Z Z λO=>(aG O (cQ 1 n dl (.slice A0 nds.length c0) (.string s)).toArray Z (sB Z (sS (sM Z (da Z (bn 1 Z (bF (au (v:=aX eb) Z) (ah Z) ?_))))))))
 refine bU Z (fC hF hP.nd) qF ?_;rintro v m ⟨e2,K,rfl,rfl⟩;refine aD ?_;refine aq (l':=bB h d f::cU f e j::aN e p S::aP j d J::aI d σ::aV eb a ns M::aV e2 K ns M::bx ns::cz w h (aX eb) du false false::blk O 102 (cQ 1 n dl (.slice A0 nds.length c0) (.string s)).toArray::old E w0::fr) (by show Ent (aV eb a ns M::aV e2 K ns M::blk O 102 (cQ 1 n dl (.slice A0 nds.length c0) (.string s)).toArray::bB h d f::cU f e j::aN e p S::aP j d J::aI d σ::cz w h (aX eb) du false false::bx ns::old E w0::fr) _;exact aJ) ?_;refine sB Z<|sQ<|sS<|bn 0 Z<|bF (au (v:=aw 1) Z) (ah Z)<|sN<|ag<|sQ<|sS<|sP (aY Z Z Z)<|sB Z<|aM Z<|ae ?_
 refine sT<|aM Z<|sS<|bn 4 Z<|aR Z Z Z Z<|sO (CL Z Z Z Z Z λb6 cb fz=>(sB Z (sQ (sS (bn 0 Z (aR Z Z Z Z (sP (aY (r:=true) Z Z Z) (sN (aM Z (sG ?_))))))))))
 refine bn 2 Z<|bF (bO (vs:=[aw dl,.slice A0 nds.length c0]) Z) (ko IW)<|sO<|mz Z Z Z hE (Bf dl nds A0 c0) (n8 (.tail (.tail H4)) h0 K4 (cu _)) ?_
 rintro v m hv;obtain⟨bv,bs,ex,ey,rfl,mt,wf⟩:=F9 hv;refine aq (wf _)<|aK .head ?_
 rintro A9 cb rfl f1 f2 - - -
 obtain⟨BT,Fd⟩:=lP f1 f2;obtain⟨pb,In⟩:∃pb,pb=dd (.slice A9 bs.length cb) bs:=⟨_,rfl⟩;rw[<-In] at BT;refine aq (l':=pb::bB h d f::cU f e j::aN e p S::aP j d J::aI d σ::aV eb a ns M::aV e2 K ns M::bx ns::cz w h (aX eb) du false false::blk O 102 (cQ 1 n dl (.slice A0 nds.length c0) (.string s)).toArray::old E w0::fr) (by rw[In];exact Ent.cons Ent.drop) ?_;refine sM Z<|bT Z Z<|bT Z Z<|bT Z Z<|sB Z<|sQ ?_
 obtain⟨k,x,y,W1,W2,hW,hH,hR⟩:=Cw (h:=h) (f:=f) (e:=e) (j:=j) (d:=d) (p:=p) (c:=cb) hL hN BT Fd mt;refine sZ Z<|dT Z Z<|dt 0 Z Z Z<|bQ Z (au (v:=aX h) Z) (ah Z)<|cv Z Z<|bC Z (bl 5 Z)<|bQ Z (bO (vs:=cA (-1) (-1) 0 0) Z) (ko jq) ?_
 refine aq (l':=pb::bB h d f::cU f e j::aN e p S::aP j d J::aI d σ::aV eb a ns M::aV e2 K ns M::bx ns::cz w h (aX eb) du false false::blk O 102 (cQ 1 n dl (.slice A0 nds.length c0) (.string s)).toArray::old E w0::fr) aT ?_;refine dA 7 Z<|ed Z hH (by show Ent (pb::bB h d f::cU f e j::aN e p S::aP j d J::aI d σ::aV eb a ns M::aV e2 K ns M::bx ns::cz w h (aX eb) du false false::blk O 102 (cQ 1 n dl (.slice A0 nds.length c0) (.string s)).toArray::old E w0::fr) (bB h d f::cU f e j::aN e p S::aP j d J::aI d σ::pb::aV eb a ns M::aV e2 K ns M::bx ns::cz w h (aX eb) du false false::blk O 102 (cQ 1 n dl (.slice A0 nds.length c0) (.string s)).toArray::old E w0::fr);exact aJ) ?_
 rintro v m ⟨rfl,p',U,T,Y,K5,rfl⟩;refine aq (l':=bB h d f::cU f e j::aN e p' U::aP j d T::aI d Y::pb::aV eb a ns M::aV e2 K ns M::bx ns::cz w h (aX eb) du false false::blk O 102 (cQ 1 n dl (.slice A0 nds.length c0) (.string s)).toArray::old E w0::fr) aT ?_;refine dK [false,false] ak<|dj 8 Z (bd Z)<|bC Z (cf Z Z)<|bC Z (cf Z Z)<|bC Z (cf Z Z)<|bC Z (aU Z)<|bC Z (aU Z)<|bC Z (aU Z)<|dE<|sT<|bq Z<|sM Z ?_
 refine bU Z (hR e2 K ns) (by show Ent (bB h d f::cU f e j::aN e p' U::aP j d T::aI d Y::pb::aV eb a ns M::aV e2 K ns M::bx ns::cz w h (aX eb) du false false::blk O 102 (cQ 1 n dl (.slice A0 nds.length c0) (.string s)).toArray::old E w0::fr) (aV e2 K ns M::bx ns::pb::bB h d f::cU f e j::aN e p' U::aP j d T::aI d Y::aV eb a ns M::cz w h (aX eb) du false false::blk O 102 (cQ 1 n dl (.slice A0 nds.length c0) (.string s)).toArray::old E w0::fr);exact aJ) ?_;rintro v m ⟨rfl,a3,I,V,K6,K7,rfl⟩;refine cJ ?_;obtain⟨K3,hx,hk⟩:=hW U T Y V K5 K6;refine sM Z<|bT Z Z<|bT Z Z<|bT Z Z<|sA Z<|sA Z<|sB Z<|bq Z<|sM Z<|sM Z<|sM Z ?_
 refine bW Z eW gfE9 ?_;refine aa<|sB Z<|sQ ?_
 by_cases HX:x=0
 ·
  subst HX;rw[if_pos rfl];refine sG<|sM Z<|sM Z<|db Z<|ci (dc (r:=false) Z Z Z)<|db Z<|bg Z<|bg Z<|ci (aF Z Z Z)<|db Z<|db Z<|db Z<|ci (cT Z Z Z)<|ci (aF Z Z Z)<|sP (aF Z Z Z)<|sM Z<|db Z<|ci (aY (r:=true) Z Z Z)<|db Z<|bg Z ?_
  refine bg Z<|bg Z<|ci (aF Z Z Z)<|sP (aF Z Z Z)<|sB Z<|an<|aH<|aC<|ar (gg w h f e j d p' U T Y e2 a3 I V++[old E w0]) Z Z ⟨rfl,p',U,T,Y,e2,a3,I,V,K3,rfl⟩ ?_
  show Ent _ (bB h d f::cU f e j::aN e p' U::aP j d T::aI d Y::cz w h (aX e2) du false false::aV e2 a3 I V::bx I::old E w0::fr);exact aJ
 ·
  obtain rfl:=hx HX;obtain rfl:=hk HX;rw[if_neg HX];refine sG<|sM Z<|sM Z<|db Z<|ci (vZ Z Z HX)<|db Z<|db Z<|ci (aY (r:=true) Z Z Z)<|ci (aF Z Z Z)<|db Z<|bg Z<|bg Z<|bg Z<|ci (aF Z Z Z)<|sP (aF Z Z Z)<|sM Z<|db Z<|ci (d8 Z Z HX)<|db Z<|db Z ?_
  refine db Z<|ci (cT Z Z Z)<|ci (aF Z Z Z)<|sP (aF Z Z Z)<|sB Z<|an<|aH<|aC ?_
  obtain rfl:=K7 HX;refine ar (gg w h f e j d p' U T Y eb a I V++[old E w0]) Z Z ⟨rfl,p',U,T,Y,eb,a,I,V,K3,rfl⟩ ?_;show Ent _ (bB h d f::cU f e j::aN e p' U::aP j d T::aI d Y::cz w h (aX eb) du false false::aV eb a I V::bx I::old E w0::fr);exact aJ
end
end
end Go.Y
namespace FK
structure Stp where
 kind:Int
 n:Nat
 dl:Int
 A:Option Go.Addr
 c:Nat
 KW:List Node
 s:ByteArray
 l:Int
 fu:Int
 ke:Int
 pa:Int
end FK
namespace Go.Y
open Go.Proofs
open Go Go.RowKit Go.SL
abbrev z8 (x:FK.Stp):List Value:=[aw x.kind,aQ x.n,aw x.dl,.slice x.A x.KW.length x.c,.string x.s,aw x.l,aw x.fu,aw x.ke,aw x.pa]
structure StepsAt (w:World) (B:Nat) (A:Option Addr) (c:Nat) (l:List FK.Stp):Prop where
 fits:∀x∈l,oM x.KW/\x.s.size<=140737488355328/\x.n<18446744073709551616
 KW:∀x∈l,NodesAt w B x.A x.c x.KW
 len:l.length<=c
 cap:l.length<=140737488355328
 cells:0<l.length->∃b off,A=some ⟨b,off,none⟩/\b<B/\∀i x,l[i]?=some x->∀j u,(z8 x)[j]?=some u->w.cell? ⟨b,off+i*9+j,none⟩=some u
theorem yC (A:Option Addr) (c:Nat) (l:List FK.Stp) :
 Gives Tryz.prog Good 39 [.slice A l.length c].toArray (λw=>StepsAt w w.heap.size A c l) λv m=>(∃r,v=.bool r/\(r=true->l.length<=16384/\∀x∈l,x.s.size<=16384))/\m=[]:=by
 refine Gives.body Tryz.func39 Z Z λE w0 hE h0 hN=>?_;have Lg:=hN.cap;refine sS<|sB Z<|bq Z<|sP (bp Z Z)<|sB Z<|sQ<|sS<|sB Z<|ag ?_
 refine aO (X:=Nat×Nat) (λx=>[(4,aw x.1),(3,aw x.2),(0,.slice A l.length c)]) (λ_=>[old E w0]) (λx=>x.1<=l.length/\l.length<=x.2/\(∀j y,j<x.1->l[j]?=some y->y.s.size<=x.2)/\x.2<=600000000000000) (λx=>l.length-x.1) (0,l.length) ⟨by simp,by simp,λj y h=>absurd h (Nat.not_lt_zero _),by simp only;omega⟩ bV aT ?_;rintro⟨i,t⟩ ⟨hi,K4,mt,ht⟩;simp only at hi K4 mt ht ⊢;refine sQ<|bq Z<|ch Z (bp Z Z) (ck Z (bz Z Z Z) (λ_ _=>trivial) λwf BT=>(sM Z ?_))
 refine bN wf (by rfl) ?_;refine cB Z Z (λ_=>rfl) (bd Z) (λ_ _=>trivial) ?_;refine bN wf (by rfl) ?_;refine cB Z Z (λ_=>rfl) (nU Z Z Z) (λ_ _=>trivial) ?_;refine ck Z (dJ Z Z Z) (λ_ _=>trivial) λI Fd=>sN ?_;refine ce Z (λI=>?_) λI=>?_
 ·
  rw[Fd,BT] at I;simp only[Bool.and_eq_true,decide_eq_true_eq] at I;obtain⟨J,Lh⟩:=I;have J:i<l.length:=am;obtain⟨bb,o,rfl,Li,Y⟩:=hN.cells am;obtain⟨x,hx⟩:∃x,l[i]?=some x:=⟨l[i],by simp[J]⟩;obtain⟨⟨Lj,K8⟩,Ll,-⟩:=hN.fits x (bY hx);have Ld:=hN.KW x (bY hx);have hc:=Y i x hx;refine ae<|sT<|sQ<|ag<|sQ<|sZ Z<|dT Z Z<|cv Z Z<|cv Z Z<|bC Z (aS (z:=9) Z Z Z Z J)<|bC Z (bl 4 Z)<|bQ Z (au (v:=.string x.s) Z) (nc .head h0 (hc 4 _ Z))<|bC Z (I2 Z Z)<|bC Z (bc (r:=((t+x.s.size:Nat):Int)) Z Z (by rw[<-Int.natCast_add,jf am]))<|cv Z Z<|cv Z Z<|bC Z (aS (z:=9) Z Z Z Z J)<|bC Z (bl 2 Z)<|bC Z (bl 1 Z)<|bQ Z (au (v:=.slice x.A x.KW.length x.c) Z) (nc .head h0 (hc 3 _ Z)) ?_
  refine dj 14 Z (bp Z Z)<|bC Z (bc (r:=((t+x.s.size+x.KW.length:Nat):Int)) Z Z (by rw[<-Int.natCast_add,jf am]))<|bC Z (aU Z)<|dE<|sT<|sS<|sB Z<|ag ?_
  refine aO (X:=Nat×Nat) (λy=>[(5,aw y.1),(4,aw i),(3,aw y.2),(0,.slice (some ⟨bb,o,none⟩) l.length c)]) (λ_=>[old E w0]) (λy=>y.1<=x.KW.length/\t+x.s.size<=y.2/\y.2<=600000000000000) (λy=>x.KW.length-y.1) (0,t+x.s.size+x.KW.length) ⟨by simp,by simp only;omega,by simp only;omega⟩ bV aT ?_;rintro⟨k,u⟩ ⟨hk,Lc,K5⟩;simp only at hk Lc K5 ⊢;refine sQ<|bq Z<|sM Z<|ch Z (aS (z:=9) Z Z Z Z J)<|bn 2 Z<|bn 1 Z<|bF (au (v:=.slice x.A x.KW.length x.c) Z) (nc .head h0 (hc 3 _ Z))<|sP (bp Z Z) (ck Z (bz Z Z Z) (λ_ _=>trivial) λIn K6=>(sM Z ?_))
  refine bN In (by rfl) ?_;refine cB Z Z (λ_=>rfl) (bd Z) (λ_ _=>trivial) ?_;refine bN In (by rfl) ?_;refine cB Z Z (λ_=>rfl) (nU Z Z Z) (λ_ _=>trivial) ?_;refine ck Z (dJ Z Z Z) (λ_ _=>trivial) λK K7=>sN ?_;refine ce Z (λK=>?_) λK=>?_
  ·
   rw[K7,K6] at K;simp only[Bool.and_eq_true,decide_eq_true_eq] at K;obtain⟨O,Le⟩:=K;have O:k<x.KW.length:=am;obtain⟨b2,o2,K9,Lm,T⟩:=Ld.cells am;obtain⟨nd,hnd⟩:∃nd,x.KW[k]?=some nd:=⟨x.KW[k],by simp[O]⟩;obtain⟨A6,c6,K3,Lb⟩:=NodeAt.row (T k nd hnd);have Ln:=K8 nd (bY hnd);refine ae<|sT<|sQ<|ag<|sG<|sM Z<|sM Z<|ch Z (aS (z:=9) Z Z Z Z J)<|bn 2 Z<|bn 1 Z<|bF (au (v:=.slice (some ⟨b2,o2,none⟩) x.KW.length x.c) Z) (nc .head h0 (K9▸hc 3 _ Z))<|ch Z (aS (z:=7) Z Z Z Z O)<|bn 6 Z<|bF (au (v:=.slice A6 nd.after.length c6) Z) (nc .head h0 (K3 6 _ Z))<|sP (bp Z Z)<|sP (bc (r:=((u+nd.after.length:Nat):Int)) Z Z (by rw[<-Int.natCast_add,jf am]))<|sA Z<|ao ?_
   refine al<|sT<|sG<|ch Z (bc (r:=((k+1:Nat):Int)) Z Z dP)<|sA Z<|ao ?_
   exact aE (k+1,u+nd.after.length) ⟨by simp only;omega,by simp only;omega,by simp only;omega⟩ (by simp only;omega) bV aT
  ·
   refine aL<|aA<|az<|ap<|al<|sT<|sG<|ch Z (bc (r:=((i+1:Nat):Int)) Z Z dP)<|sA Z<|ao ?_
   refine aE (i+1,u) ⟨by simp only;omega,by simp only;omega,λj y hj hy=>?_,K5⟩ (by simp only;omega) bV aT;simp only at hj ⊢;rcases Nat.lt_or_ge j i with h|h
   · have:=mt j y h hy;omega
   · obtain rfl:j=i:=am
     rw[hx] at hy;injection hy with hy;subst hy;omega
 ·
  rw[Fd,BT] at I;refine aL<|aA<|az<|ap<|sT<|bq Z<|sP (nU Z Z Z)<|sB Z<|an ?_
  refine ar [] rfl Z ⟨⟨_,rfl,λhr=>?_⟩,rfl⟩ aT;have hr:(t:Int)<=16384:=of_decide_eq_true hr;rw[vA hr,Bool.and_true,decide_eq_false_iff_not] at I;refine⟨am,λx hx=>?_⟩;obtain⟨j,hj⟩:=List.getElem?_of_mem hx;have:=mt j x (by have:=(gfGet.1 hj).1;omega) hj;omega
end Go.Y
namespace FR
abbrev En.zero:En:=⟨0,0,[],[],0,0,0,0⟩
theorem xm (p:FK.Pl):En.zero.act p=none:=rfl
theorem Pair.zero:Pair 0 FK.En.fresh En.zero where
 ok:=FK.Ok.fresh
 sim:=by
  refine⟨⟨rfl,rfl,rfl,rfl,rfl,rfl,rfl,.nil⟩,?_⟩;constructor
  · intro x h;cases h
  · exact .nil
  · intro p a
    constructor
    · intro h;cases h
    · rintro⟨s,h⟩
      rw[xm] at h;cases h
  · exact .nil
  · intro p a h
    rw[xm] at h;cases h
 ke:=.nil
 sets:=cu _
 ends:=cu _
 lr:=cu _
 lt:=cu _
 tms:=cu _
end FR
namespace Go.Y
open Go.Proofs
open Go Go.RowKit Go.SL
theorem D7:Live 0 FK.En.fresh FR.En.zero FK.J0 FK.e0:=⟨FR.Pair.zero,FK.Dk.e0,by decide,rfl⟩
abbrev rC:RfA:=⟨none,0,none,0,λ_=>⟨⟨0,0,[],[]⟩,0,0⟩⟩
theorem DO {b:Nat} {r:List HP}:Ent (blk b 74 (pR rC FR.En.zero)::r) (aV b rC [] FR.En.zero::bx []::r):=by
 have e0:∀r:List HP,Ent r (HP.all []::r):=λr=>Ent.all (m:=[]);have E:jx rC [] FR.En.zero:=λr I=>by cases I
 have h:Ent (blk b 74 (pR rC FR.En.zero)::r) (o9 b rC [] FR.En.zero++(bx []::r)):=
  (Ent.cons (e0 r)).trans ((Ent.pure E).trans (Ent.cons (Ent.cons (Ent.row0.trans (Ent.cons (Ent.row0.trans (Ent.cons (e0 _))))))))
 exact h.trans Ent.all
theorem StepsAt.keep {w w':World} {B I:Nat} {A:Option Addr} {c:Nat} {l:List FK.Stp} (h:StepsAt w B A c l) (s:Same B w w') (K:B<=I):StepsAt w' I A c l:=by
 obtain⟨h0,h1,h2,h3,h4⟩:=h;refine⟨h0,λx E=>((h1 x E).keep s).more K,h2,h3,λT=>?_⟩;obtain⟨b,off,rfl,O,hc⟩:=h4 T;exact⟨b,off,rfl,Nat.lt_of_lt_of_le O K,λi x E j u Y=>by rw[s.cell O];exact hc i x E j u Y⟩
theorem Ax {l r:List HP} {c:Nat} {xs:List FK.Stp} (s:Sel (old E0 w0) l r) (K:E0.is w0) (h:StepsAt w0 w0.heap.size A c xs):∀w,Holds E0 w l->StepsAt w w.heap.size A c xs:=
 Cl s K λ_w I=>h.keep (I.to_same.mono (cu _)) I.size
section
variable {w h f e j d N:Nat}
theorem oh (Y:Good E0) {nv sv:Value} (h':dQ 42 [aX w,kH K n dl nv sv] (gg w h f e j d p S J σ eb a ns M) (Stepped w h f e j d N [])):Does Tryz.prog (λE=>E=E0) 42 [aX w,kH K n dl nv sv].toArray (gg w h f e j d p S J σ eb a ns M++[old E0 w0]) (Stepped w h f e j d N [old E0 w0]):=by
 have h2:Does Tryz.prog (λE=>E=E0) 42 [aX w,kH K n dl nv sv].toArray (gg w h f e j d p S J σ eb a ns M) (Stepped w h f e j d N []):=λE w fr hE=>h' E w fr (by rw[hE];exact Y);refine(h2.frame [old E0 w0]).mono ?_;rintro v m ⟨m',⟨rfl,p',U,J',σ',O,a',T,V,hL,rfl⟩,rfl⟩;exact⟨_,⟨rfl,p',U,J',σ',O,a',T,V,hL,by rw[List.append_nil]⟩,aT⟩
theorem FT (I:Good E0) (h0:E0.is w0) {x:FK.Stp} (hx:NodesAt w0 w0.heap.size x.A x.c x.KW) (T:x.s.size<=20000) (Y:x.n<18446744073709551616) (hk:x.kind≠10) (K:Live N S M J σ) (O:N<=100000) :
 Does Tryz.prog (λE=>E=E0) 42 [aX w,kH x.kind x.n x.dl (.slice x.A x.KW.length x.c) (.string x.s)].toArray (gg w h f e j d p S J σ eb a ns M++[old E0 w0]) (Stepped w h f e j d N [old E0 w0]):=by
 have hc:x.kind=1\/x.kind=2\/x.kind=3\/x.kind=4\/x.kind=5\/x.kind=6\/x.kind=7\/x.kind=8\/x.kind=9\/∀i:Int,1<=i->i<=10->x.kind≠i:=by
  by_cases hr:1<=x.kind/\x.kind<=10
  · omega
  · exact .inr (.inr (.inr (.inr (.inr (.inr (.inr (.inr (.inr λi h1 h2 e=>hr am))))))))
 rcases hc with e|e|e|e|e|e|e|e|e|e
 · rw[e];exact AJ I h0 hx K O T
 · rw[e];exact oh I (AH K O T)
 · rw[e];exact oh I (AG K O)
 · rw[e];exact oh I (AF K O)
 · rw[e];exact oh I (AE K O)
 · rw[e];exact oh I (AD K O)
 · rw[e];exact oh I (AC K O)
 · rw[e];exact oh I (AB K O Y)
 · rw[e];exact oh I (AA K O Y)
 · exact oh I<|AK e K O
end
abbrev ml (k:Nat) (K:Int):Bool:=(decide (1<=k)&&decide (K=10))||(decide (2<=k)&&decide (K=11))
abbrev lg (E:Nat):HP:=blk E 3 #[aw 10,aw 11]
theorem Bm {c:Nat} {l:List FK.Stp} (hG:Good E0) (h0:E0.is w0) (hN:StepsAt w0 w0.heap.size A c l):Does Tryz.prog (λE=>E=E0) 12 [.slice A l.length c,dp n 2 2,.bool false].toArray [old E0 w0,lg n] λv m=>v=.bool true/\m=[old E0 w0,lg n]:=by
 refine bA Tryz.func12 Z λE fr hE=>aD ?_;obtain rfl:E=E0:=hE;replace hE:=hG;refine sS<|sB Z<|bq Z<|sO<|mz Z Z Z hE (yC A c l) (Ax .head h0 hN) ?_
 rintro v m ⟨⟨r,rfl,hr⟩,rfl⟩;refine aZ<|sB Z<|sQ<|bq Z<|sP (cD Z Z)<|sN ?_
 refine ce Z (λK3=>?_) λK3=>?_
 ·
  exact sS<|sB Z<|an<|aC<|ar [old E w0,lg n] rfl Z ⟨rfl,rfl⟩ aT
 ·
  obtain rfl:r=true:=by simpa using K3
  obtain⟨hl,Lg⟩:=hr rfl;refine ae<|sT<|sS ?_
  refine bU Z wI aT ?_;rintro v m ⟨h,d,rfl,rfl⟩;refine aD<|sB Z<|bq Z ?_
  refine bW Z uv aT ?_;refine aZ ?_;refine bU Z zn aT ?_;rintro v m ⟨rfl,f,e,j,p,rfl⟩;refine aq (l':=bB h d f::cU f e j::aN e p FK.En.fresh::aP j d FK.J0::aI d FK.e0::old E w0::lg n::fr) aT ?_;refine sB Z<|bq Z ?_
  refine bW Z xQ aT ?_;refine aa<|sB Z<|sQ<|bq Z<|sP (dc (r:=false) Z Z Z)<|sM Z<|db Z<|ci (cD (r:=false) Z Z)<|sP (aF Z Z Z)<|sN<|aj Z<|ae<|sT<|sS ?_
  refine ch Z (bI (ps:=[]) (vs:=[]) (cs:=pR rC FR.En.zero) Z Z Z Z Z)<|sO (cR Z Z λK=>(aG K (pR rC FR.En.zero) Z (aq DO (sP (bI (ps:=[(0,.tmp 32),(1,.tmp 34)]) (vs:=[aX h,aX K]) (cs:=Hz h (aX K) du false false) Z Z Z Z Z) (sO (cR Z Z λI=>(aG I (Hz h (aX K) du false false) Z ?_)))))))
  refine aq (l':=bB h d f::cU f e j::aN e p FK.En.fresh::aP j d FK.J0::aI d FK.e0::cz I h (aX K) du false false::aV K rC [] FR.En.zero::bx []::old E w0::lg n::fr) (by show Ent (cz I h (aX K) du false false::aV K rC [] FR.En.zero::bx []::bB h d f::cU f e j::aN e p FK.En.fresh::aP j d FK.J0::aI d FK.e0::old E w0::lg n::fr) _;exact aJ) ?_;refine sB Z<|bq Z<|cG 1 Z Z<|bF (au (v:=aX K) Z) (ah Z) ?_
  refine bW Z (tu FR.Pair.zero am) aT ?_;refine aq (l':=bB h d f::cU f e j::aN e p FK.En.fresh::aP j d FK.J0::aI d FK.e0::cz I h (aX K) du false false::aV K rC [] FR.En.zero::bx []::old E w0::lg n::fr) aT ?_;refine sB Z<|sQ<|sS<|sB Z<|ag ?_
  refine aO (X:=Nat×List HP) (λx=>[(12,aw x.1),(7,.bool true),(11,aX I),(8,aX h),(0,.slice A l.length c),(1,dp n 2 2),(2,.bool false)]) (λx=>x.2++(old E w0::lg n::fr)) (λx=>x.1<=l.length/\∃p S J σ eb a ns M,Live x.1 S M J σ/\x.2=gg I h f e j d p S J σ eb a ns M) (λx=>l.length-x.1) (0,gg I h f e j d p FK.En.fresh FK.J0 FK.e0 K rC [] FR.En.zero) ⟨Nat.zero_le _,p,_,_,_,_,_,_,_,D7,rfl⟩ bV aT ?_;rintro⟨i,m⟩ ⟨hi,p,S,J,σ,eb,a,ns,M,hL,hm⟩;simp only at hi hL hm;subst hm;refine aq (l':=bB h d f::cU f e j::aN e p S::aP j d J::aI d σ::cz I h (aX eb) du false false::aV eb a ns M::bx ns::old E w0::lg n::fr) aT ?_;have Lh:i<=100000:=am;refine sQ<|bq Z<|ch Z (bp Z Z) (ck Z (bz Z Z Z) (λ_ _=>trivial) λLb Lc=>(sM Z ?_))
  refine bN Lb (by rfl) ?_;refine cB Z Z (λ_=>rfl) (bd Z) (λ_ _=>trivial) ?_;refine ck Z (dJ Z Z Z) (λ_ _=>trivial) λBT Ld=>sN ?_;refine ce Z (λBT=>?_) λBT=>?_
  ·
   rw[Ld,Lc] at BT;simp only[Bool.and_true,decide_eq_true_eq] at BT;have K6:i<l.length:=am;obtain⟨bb,o,rfl,Lj,Fd⟩:=hN.cells am;obtain⟨x,hx⟩:∃x,l[i]?=some x:=⟨l[i],by simp[K6]⟩;have In:=bY hx;have hc:=Fd i x hx;refine ae<|sT<|sQ<|ag<|bq Z<|ch Z (aS (z:=9) Z Z Z Z K6)<|bF (bO (vs:=z8 x) Z) (Fj gfT8 h0 hc)<|sO (cH (z:=.agg #[aw 0,.int .u64 0,aw 0,cx,.string .empty,aw 0,aw 0,aw 0,aw 0]) Z λwf=>?_)
   refine sO<|bh Z (m:=9) (vs:=z8 x) Z Z Z Z er (by show 0+9<=9;omega) ?_
   refine aG wf (z8 x).toArray Z<|sN<|sS<|sB Z<|sQ<|sS<|sB Z<|ag ?_
   refine aO (X:=Nat×Bool) (λy=>[(15,aw y.1),(14,.bool y.2),(13,aX wf),(12,aw i),(7,.bool true),(11,aX I),(8,aX h),(0,.slice (some ⟨bb,o,none⟩) l.length c),(1,dp n 2 2),(2,.bool false)]) (λ_=>blk wf 102 (z8 x).toArray::bB h d f::cU f e j::aN e p S::aP j d J::aI d σ::cz I h (aX eb) du false false::aV eb a ns M::bx ns::old E w0::lg n::fr) (λy=>y.1<=2/\y.2=ml y.1 x.kind) (λy=>2-y.1) (0,false) ⟨by simp,by simp[ml]⟩ bV aT ?_;rintro⟨k,ot⟩ ⟨hk,ho⟩;simp only at hk ho ⊢;refine sQ<|bq Z<|ch Z (bp Z Z)<|sP (bz Z Z Z)<|sN ?_
   refine aB Z (λLe=>?_) λLe=>?_
   ·
    have Li:k<2:=am;refine ae<|sT<|sQ<|ag ?_
    by_cases HK:k=0
    ·
     subst HK;obtain rfl:ot=false:=by simpa[ml] using ho
     refine sZ Z<|dT Z Z<|cv Z Z<|dv 2 Z (bl 0 Z)<|mg 3 Z (au (v:=aw x.kind) Z) (ah Z)<|dv 4 Z (bd Z)<|dv 5 Z (bd Z)<|dv 6 Z (aS (z:=1) Z Z Z Z am)<|mg 7 Z (au (v:=aw 10) Z) (ah Z)<|dv 8 Z (aY (r:=decide (x.kind=10)) Z Z Z)<|bC Z (aF Z Z Z)<|bC Z (aU Z)<|dE<|al<|sT<|sG<|ch Z (bc (r:=1) Z Z (by rw[jf am];rfl))<|sA Z<|ao ?_
     exact aE (1,decide (x.kind=10)) ⟨by simp,by simp[ml]⟩ cY bV aT
    ·
     obtain rfl:k=1:=am
     by_cases HT:x.kind=10
     ·
      obtain rfl:ot=true:=by rw[ho];simp[ml,HT]
      refine sZ Z<|dT Z Z<|cv Z Z<|dy 2 Z Z<|dy 3 Z Z<|dy 4 Z Z<|dy 5 Z Z<|dy 6 Z Z<|dy 7 Z Z<|dy 8 Z Z<|bC Z (aF Z Z Z)<|bC Z (aU Z)<|dE<|al<|sT<|sG<|ch Z (bc (r:=2) Z Z (by rw[jf am];rfl))<|sA Z<|ao ?_
      exact aE (2,true) ⟨by simp,by simp[ml,HT]⟩ cY bV aT
     ·
      obtain rfl:ot=false:=by rw[ho];simp[ml,HT]
      refine sZ Z<|dT Z Z<|cv Z Z<|dv 2 Z (bl 0 Z)<|mg 3 Z (au (v:=aw x.kind) Z) (ah Z)<|dv 4 Z (bd Z)<|dv 5 Z (bd Z)<|dv 6 Z (aS (z:=1) Z Z Z Z am)<|mg 7 Z (au (v:=aw 11) Z) (ah Z)<|dv 8 Z (aY (r:=decide (x.kind=11)) Z Z Z)<|bC Z (aF Z Z Z)<|bC Z (aU Z)<|dE<|al<|sT<|sG<|ch Z (bc (r:=2) Z Z (by rw[jf am];rfl))<|sA Z<|ao ?_
      exact aE (2,decide (x.kind=11)) ⟨by simp,by simp[ml,HT]⟩ cY bV aT
   ·
    obtain rfl:k=2:=am;refine aL<|aA<|az<|ap<|sT<|sQ<|bq Z<|sN ?_
    refine ce Z (λK4=>?_) λK4=>?_
    ·
     refine aL<|aA<|ap<|sT<|sG<|ch Z (bc (r:=((i+1:Nat):Int)) Z Z dP)<|sA Z<|ao ?_
     exact aE (i+1,gg I h f e j d p S J σ eb a ns M) ⟨by simp only;omega,p,S,J,σ,eb,a,ns,M,hL.succ,rfl⟩ (by simp only;omega) bV Ent.drop
    ·
     have K7:ml 2 x.kind=false:=ho.symm.trans (by simpa using K4);have K8:x.kind≠10:=λe=>by simp[ml,e] at K7
     have K9:x.kind≠11:=λe=>by simp[ml,e] at K7
     refine ae<|sT<|sQ<|sS<|bn 0 Z<|bF (au (v:=aw x.kind) Z) (ah Z)<|sP (d8 Z Z K9)<|sN<|aj Z<|ae<|sT<|sQ<|bq Z<|sP (cD (r:=true) Z Z)<|sN ?_
     refine aM Z<|sG ?_
     refine bW Z uv aT ?_;refine aZ<|bn 5 Z ?_
     refine sO<|bh Z (m:=4) (vs:=cA (-1) (-1) 0 0) Z Z Z Z er (by show 5+4<=9;omega) ?_
     refine aG wf (cQ x.kind x.n x.dl (.slice x.A x.KW.length x.c) (.string x.s)).toArray Z<|sN<|bq Z<|cG 3 Z Z<|bF (au (v:=.bool false) Z) (ah Z)<|sM Z<|ci (bl 5 Z)<|ci (bl 0 Z)<|fN (au (v:=aw (-1)) Z) (ah Z)<|ci (mA (r:=false) Z Z Z)<|sP (aF Z Z Z)<|sM Z<|ci (bl 5 Z)<|ci (bl 1 Z)<|fN (au (v:=aw (-1)) Z) (ah Z) ?_
     refine ci (mA (r:=false) Z Z Z)<|sP (aF Z Z Z)<|da Z<|bn 3 Z ?_
     refine bR Z Z Z Z gN ?_;refine aG I (Hz h (aX eb) du false false) Z ?_;refine aq (l':=bB h d f::cU f e j::aN e p S::aP j d J::aI d σ::cz I h (aX eb) du false false::aV eb a ns M::bx ns::old E w0::blk wf 102 (cQ x.kind x.n x.dl (.slice x.A x.KW.length x.c) (.string x.s)).toArray::lg n::fr) (by show Ent (cz I h (aX eb) du false false::blk wf 102 (cQ x.kind x.n x.dl (.slice x.A x.KW.length x.c) (.string x.s)).toArray::bB h d f::cU f e j::aN e p S::aP j d J::aI d σ::aV eb a ns M::bx ns::old E w0::lg n::fr) _;exact aJ) ?_;refine sN<|bq Z<|bF (bO (vs:=cQ x.kind x.n x.dl (.slice x.A x.KW.length x.c) (.string x.s)) Z) (bm Z) ?_
     refine sO<|nR (G:=λE'=>E'=E) Z Z Z Z (FT (E0:=E) hE h0 (hN.KW x In) (by have:=Lg x In;omega) (hN.fits x In).2.2 K8 hL Lh) aT ?_
     rintro v m ⟨rfl,p',U,J',σ',O,a',mt,V,K5,rfl⟩;refine aq (l':=bB h d f::cU f e j::aN e p' U::aP j d J'::aI d σ'::cz I h (aX O) du false false::aV O a' mt V::bx mt::old E w0::blk wf 102 (cQ x.kind x.n x.dl (.slice x.A x.KW.length x.c) (.string x.s)).toArray::lg n::fr) aT ?_;refine sB Z<|bq Z ?_
     refine bW Z xQ aT ?_;refine aa<|sB Z<|bq Z<|sM Z<|db Z<|ci (cD (r:=false) Z Z)<|sP (aF Z Z Z)<|sN<|aj Z<|bq Z<|sN<|aM Z ?_
     refine sG<|sM Z<|cG 1 Z Z<|bF (au (v:=aX O) Z) (ah Z) ?_
     refine bW Z (tu K5.pair am) (by show Ent _ (bB h d f::cU f e j::aN e p' U::aP j d J'::aI d σ'::cz I h (aX O) du false false::aV O a' mt V::bx mt::old E w0::blk wf 102 (cQ x.kind x.n x.dl (.slice x.A x.KW.length x.c) (.string x.s)).toArray::lg n::fr);exact aJ) ?_;refine sA Z<|ao<|al<|sT<|sG<|ch Z (bc (r:=((i+1:Nat):Int)) Z Z dP)<|sA Z<|ao ?_
     exact aE (i+1,gg I h f e j d p' U J' σ' O a' mt V) ⟨by simp only;omega,p',U,J',σ',O,a',mt,V,K5,rfl⟩ (by simp only;omega) bV (by show Ent (bB h d f::cU f e j::aN e p' U::aP j d J'::aI d σ'::cz I h (aX O) du false false::aV O a' mt V::bx mt::old E w0::blk wf 102 (cQ x.kind x.n x.dl (.slice x.A x.KW.length x.c) (.string x.s)).toArray::lg n::fr) (bB h d f::cU f e j::aN e p' U::aP j d J'::aI d σ'::cz I h (aX O) du false false::aV O a' mt V::bx mt::old E w0::lg n::fr);exact aJ)
  ·
   refine aL<|aA<|az<|ap<|sT<|bq Z<|sB Z<|an ?_
   exact ar [old E w0,lg n] rfl Z ⟨rfl,rfl⟩ (by show Ent (bB h d f::cU f e j::aN e p S::aP j d J::aI d σ::cz I h (aX eb) du false false::aV eb a ns M::bx ns::old E w0::lg n::fr) (old E w0::lg n::fr);exact aJ)
theorem BY:Instr.fill (λi=>some (i*1,1)) (Array.map (λx=>(Value.int IntKind.i64 0).cells[x%(Value.int IntKind.i64 0).cells.size]!) (Array.range (2*1))) ((List.map (λx=>x.fst) [((0:Nat),Operand.const (Value.int IntKind.i64 10)),(1,Operand.const (Value.int IntKind.i64 11))]).zip [Value.int IntKind.i64 10,Value.int IntKind.i64 11])=some #[Value.int IntKind.i64 10,Value.int IntKind.i64 11]:=by
 have e1:Array.range (2*1)=#[0,1]:=rfl;rw[e1];simp[Instr.fill,Value.cells]
theorem DG (A:Option Addr) (c:Nat) (l:List FK.Stp) :
 Gives Tryz.prog Good 10 [.slice A l.length c].toArray (λw=>StepsAt w w.heap.size A c l) λv m=>v=.bool true/\m=[]:=by
 refine Gives.body Tryz.func10 Z Z λE I J K O=>?_;refine sS<|sB Z<|bq Z ?_
 refine sO (dh (m:=2) (z:=aw 0) (size:=1) (ps:=[(0,.const (aw 10)),(1,.const (aw 11))]) (vs:=[aw 10,aw 11]) (cs:=#[aw 10,aw 11]) Z Z Z Z am am Z BY λT=>?_);refine sO<|nR (G:=λY=>Y=E) Z Z Z Z (Bm J K O) (bo bJ .head) ?_
 rintro v m ⟨rfl,rfl⟩;refine sB Z<|an ?_
 exact ar [] rfl Z ⟨rfl,rfl⟩ (by show Ent (old E I::lg T::[]) [old E I];exact Ent.cons Ent.drop)
end Go.Y
