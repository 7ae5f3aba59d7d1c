/- A host's calls, over a disk that is well. -/
import Derived.Test.YtncdhfckklfhdaaGreatDoorKeH
import Derived.Test.YtncdhfckklfhdaaGreatDoorKeE
import Derived.Test.YtncdhfckklfhdaaGreatDoorKeA
import Derived.Shelf.Small.Bits
import Derived.Shelf.Strconv.Atoi
import Derived.Shelf.Strconv.Itoa0
import Derived.Shelf.Strconv.Itoa1
import Derived.Shelf.LaysM
import Derived.Shelf.Strconv.Itoa2
import Derived.Shelf.Strconv.Itoa3
import Derived.Shelf.Sort.Plain
import Derived.Shelf.Strings.Prefix
import Derived.Shelf.Slices.In.SortNone
import Derived.Shelf.Slices.In.SortNone2
import Derived.Test.YtncdhfckklfhdaaGreatDoorChecked
import Derived.Sort.OwnSorted
import Derived.Test.YtncdhfckklfhdaaGreatDoorKeF
import Derived.Test.YtncdhfckklfhdaaGreatDoorKeB
import Derived.Test.YtncdhfckklfhdaaGreatDoorKeG
set_option linter.defProp false
set_option maxHeartbeats 1000000
set_option maxRecDepth 20000
variable{G:Go.SL.Env->Prop}{M:FR.En}{b c d e i id j k n:Nat}{v:Go.Value}{ts:List (Nat×Go.Value)}{K:Go.Act->Go.World->Prop}{Q:Go.Exit->Go.Act->Go.World->Prop}{E:Go.SL.Env}{u:FR.Rn}{D:List Go.Deferred}{σ:FK.Dsk}{X l:List FR.Tmd}{r:List Go.SL.HP}{w:Go.World}{P:Go.Program}{g:Option (Nat×Bool)}{S:FK.En}{U:List FK.KD->Go.SL.HP}{x:FR.Tmd}{s:FR.St}{τ:FK.KD->FR.Tmd}{af:Array Go.Edge}{A:Option Go.Addr}{p:Go.Y.EA}{ty:Go.TypeId}{t:FK.Tmr}{F:Go.FuncId}{J:FK.Jn}{α:Type}
namespace Go.SL
open Go.RowKit
section
variable{fr:List HP}{p1 p2 p3 p4 p5:HP}
def jS{p0:HP}(h:At E n D ts (p0::p1::p2::p3::p4::p5::fr) K):At E n D ts ([p0,p1,p2,p3,p4,p5]++fr) K:=h
def D4{p0 I:HP}(h:At E n D ts (p0::p1::p2::p3::p4::p5::I::fr) K):At E n D ts ([p0,p1,p2,p3,p4,p5,I]++fr) K:=h
def ge{p0 I O:HP}(h:At E n D ts (p0::p1::p2::p3::p4::p5::I::O::fr) K):At E n D ts ([p0,p1,p2,p3,p4,p5,I,O]++fr) K:=h
end
end Go.SL
namespace Go.Y
open Go.Proofs Tryz Go.RowKit Go.SL
abbrev bE(h d f:Nat):HP:=db h d (some ⟨f,0,none⟩)
abbrev cr(h f e j d:Nat)(p:EA)(S:FK.En)(J:FK.Jn)(σ:FK.Dsk):List HP:=bE h d f::ch f e j d p S J σ
abbrev noted(σ:FK.Dsk)(J:FK.Jn)(op n:Nat):FK.Dsk:=σ.logs J.n (gD (FK.frame (FK.cS op n)))
section
variable{f h:Nat}{R:FK.Rn}
def nD(h:FK.Quiet σ):({σ with left:=-1,full:=-1}:FK.Dsk)=σ:=h.rested
def xZ(h:FK.Quiet σ):σ.spent.rested=σ:=h.rested
def BJ(O:FK.Quiet σ)(hq:S.NP=[]):dS 35 [aY h,jC] (cr h f e j d p S J σ) λv m=>v=.tuple #[gA 0 0 0 0,.bool false,aA 0]/\m=cr h f e j d p S J σ:=by
 refine bz func35 Z λE fr hE=>du<|sS<|sO (cP Z Z λT=>(sO (cO (z:=.agg #[cd 0,aA 0,aA 0,cd 0]) Z λI=>(sA Z (sB Z (sQ (sS (sM Z (cZ Z (bm 1 Z (aL Z Z Z Z (sP (eo Z Z Z) (sN (ag Z (aa<|sT<|bp Z<|bF (bR (vs:=ct (-1) (-1) 0 0) Z) (bl Z) (bV Z (eM (-1) (-1) 0 0) (bo dm Cu) (aE ?_)))))))))))))))))
 rw[nD O];refine ao (l':=dO f e j::aP e p S::aS j d J::aI d σ::bE h d f::blk I 95 (ci 0 0 0 0).toArray::blk T 31 (ct (-1) (-1) 0 0).toArray::fr) (by show Ent (_::_::blk I 95 (ci 0 0 0 0).toArray::blk T 31 (ct (-1) (-1) 0 0).toArray::_) _;exact aG)<|sN<|sS<|cE 1 Z Z<|aL Z Z Z Z<|bV Z (BW hq) aQ<|bT<|sM Z<|bG Z Z<|bG Z Z<|bG Z Z<|sO (cO (z:=.agg #[cd 0,aA 0,aA 0,cd 0]) Z λY=>sO<|bk Z (m:=4) (vs:=ci 0 0 0 0) Z Z Z Z eG (by show 0+4<=4;omega) ?_)
 refine aB Y (ci 0 0 0 0).toArray Z<|sA Z<|sB Z<|sQ<|ao (l':=bE h d f::aI d σ::dO f e j::aP e p S::aS j d J::blk Y 95 (ci 0 0 0 0).toArray::blk I 95 (ci 0 0 0 0).toArray::blk T 31 (ct (-1) (-1) 0 0).toArray::fr) aG<|sG<|sM Z<|bF (bR (vs:=ct (-1) (-1) 0 0) Z) (bl Z)<|bV Z (fE (-1) (-1) 0 0 O.down) aQ<|aE ?_
 rw[O.rested];refine sN<|sQ<|sZ Z<|jW 0 Z (bR (vs:=ci 0 0 0 0) Z) (bl Z)<|cC Z Z<|cC Z Z<|dI 3 Z<|dP Z jR aQ ?_
 rintro v m ⟨rfl,rfl⟩;refine aW<|dK [true] (aj (bl Z) ak)<|dI 4 Z<|bk Z (m:=4) (vs:=ci 0 0 0 0) Z Z Z Z eG (by show 0+4<=4;omega) ?_
 refine dK [false] ak<|dx 5 Z (aX Z)<|bB Z (aX Z)<|dE<|sT<|an<|aB I (ci 0 0 0 0).toArray Z<|fo (cr h f e j d p S J σ) Z (bU (vs:=ci 0 0 0 0) Z Z Z Z (bl Z)) (bS Z) (bS Z) ec ?_
 exact aG
def BI(hS:FK.Ok S)(hJ:J.n<1000000)(hb:J.broken=0)(hr:Roomy σ)(Y:FK.Quiet σ){q:List FK.Pl}{s:FK.Sp}{nd:FK.Node}(hq:S.NP=⟨id,(k:Int),0⟩::q)(hR:S.getR id=some R)(hs:R.NN[k]?=some s)(hn:R.fl.NO[k]?=some nd)(I:S.sets+1<9223372036854775807)(O:S.NK<9223372036854775807):dS 35 [aY h,jC] (cr h f e j d p S J σ) λv m=>v=.tuple #[gA id k (s.NM+1) (S.NK+1),.bool true,aA 0]/\m=cr h f e j d p (S.hand ⟨id,(k:Int),0⟩ q R s nd) J (noted σ J 2 0):=by
 have T:=Y.add hb (gD (FK.frame (FK.cS 2 0)));refine bz func35 Z λE fr hE=>du<|sS<|sO (cP Z Z λb3=>(sO (cO (z:=.agg #[cd 0,aA 0,aA 0,cd 0]) Z λb4=>(sA Z (sB Z (sQ (sS (sM Z (cZ Z (bm 1 Z (aL Z Z Z Z (sP (eo Z Z Z) (sN (ag Z (aa<|sT<|bp Z<|bF (bR (vs:=ct (-1) (-1) 0 0) Z) (bl Z) (bV Z (eM (-1) (-1) 0 0) (bo dm Cu) (aE ?_)))))))))))))))))
 rw[nD Y];refine ao (l':=dO f e j::aP e p S::aS j d J::aI d σ::bE h d f::blk b4 95 (ci 0 0 0 0).toArray::blk b3 31 (ct (-1) (-1) 0 0).toArray::fr) (by show Ent (_::_::blk b4 95 (ci 0 0 0 0).toArray::blk b3 31 (ct (-1) (-1) 0 0).toArray::_) _;exact aG)<|sN<|sS<|cE 1 Z Z<|aL Z Z Z Z<|bQ Z (BV hS hJ hr hq hR hs hn I O) aQ ?_
 rintro v m hv;obtain⟨rfl,rfl⟩:v=.tuple #[gA id k (s.NM+1) (S.NK+1),.bool true,.nilIface]/\m=ch f e j d p (S.hand ⟨id,(k:Int),0⟩ q R s nd) J (noted σ J 2 0).spent:=by
  unfold qd at hv;rw[T]at hv;rcases hv with⟨_,h1,h2⟩|⟨h1,_⟩
  ·exact⟨h1,h2⟩
  ·exact absurd Z h1
 refine bT<|sM Z<|bG Z Z<|bG Z Z<|bG Z Z<|sO (cO (z:=.agg #[cd 0,aA 0,aA 0,cd 0]) Z λb7=>sO<|bk Z (m:=4) (vs:=ci id k (s.NM+1) (S.NK+1)) Z Z Z Z eG (by show 0+4<=4;omega) ?_)
 refine aB b7 (ci id k (s.NM+1) (S.NK+1)).toArray Z<|sA Z<|sB Z<|sQ<|ao (l':=bE h d f::aI d (noted σ J 2 0).spent::dO f e j::aP e p (S.hand ⟨id,(k:Int),0⟩ q R s nd)::aS j d J::blk b7 95 (ci id k (s.NM+1) (S.NK+1)).toArray::blk b4 95 (ci 0 0 0 0).toArray::blk b3 31 (ct (-1) (-1) 0 0).toArray::fr) aG<|sG<|sM Z<|bF (bR (vs:=ct (-1) (-1) 0 0) Z) (bl Z)<|bV Z (fE (σ:=(noted σ J 2 0).spent) (-1) (-1) 0 0 Y.down) aQ<|aE ?_
 rw[xZ (Y.logs _ _)];refine sN<|sQ<|sZ Z<|jW 0 Z (bR (vs:=ci id k (s.NM+1) (S.NK+1)) Z) (bl Z)<|cC Z Z<|cC Z Z<|dI 3 Z<|dP Z jR aQ ?_
 rintro v m ⟨rfl,rfl⟩;refine aW<|dK [true] (aj (bl Z) ak)<|dI 4 Z<|bk Z (m:=4) (vs:=ci id k (s.NM+1) (S.NK+1)) Z Z Z Z eG (by show 0+4<=4;omega) ?_
 refine dK [false] ak<|dx 5 Z (aX Z)<|bB Z (aX Z)<|dE<|sT<|an<|aB b4 (ci id k (s.NM+1) (S.NK+1)).toArray Z<|fo (cr h f e j d p (S.hand ⟨id,(k:Int),0⟩ q R s nd) J (noted σ J 2 0)) Z (bU (vs:=ci id k (s.NM+1) (S.NK+1)) Z Z Z Z (bl Z)) (bS Z) (bS Z) ec ?_
 exact aG
def GM{Q:Int->FK.En->FK.Jn->FK.Dsk->Prop}(hQ:FK.Quiet σ)
(hC:dS 73 [aY f,aU n] (ch f e j d p S J σ) λv m=>∃c U O I,v=dU c/\I.down=false/\Q c U O I/\m=ch f e j d p U O I):dS 37 [aY h,aA 7,aU n,jC] (cr h f e j d p S J σ) λv m=>∃c U O I,v=aA c/\Q c U O I/\m=cr h f e j d p U O I.rested:=by
 refine bz func37 Z λE fr hE=>du<|sS<|sO (cP Z Z λT=>(sB Z (sQ (sS (sM Z (cZ Z (bm 1 Z (aL Z Z Z Z (sP (eo Z Z Z) (sN (ag Z (aa (sT (bp Z<|bF (bR (vs:=ct (-1) (-1) 0 0) Z) (bl Z) (bV Z (eM (-1) (-1) 0 0) (bo bJ kK) (aE ?_))))))))))))))))
 rw[nD hQ];refine ao (l':=dO f e j::aP e p S::aS j d J::aI d σ::bE h d f::blk T 31 (ct (-1) (-1) 0 0).toArray::fr) (by show Ent (_::_::blk T 31 (ct (-1) (-1) 0 0).toArray::_) _;exact aG)<|sN<|sS<|sB Z<|sQ<|bp Z<|sN<|ai<|sS<|sP (bc Z Z Z)<|sB Z<|ag Z<|sS<|sP (bc Z Z Z)<|sB Z<|ag Z<|sS<|sP (bc Z Z Z)<|sB Z<|ag Z<|sS<|sP (bc Z Z Z)<|sA Z<|ap<|sT<|ag Z<|sS<|sP (bc Z Z Z)<|sB Z<|aK Z<|sG<|cE 1 Z Z<|aL Z Z Z Z<|sM Z<|bQ Z hC aQ ?_
 rintro v m ⟨c,U,O,I,rfl,Y,d6,rfl⟩;refine bT<|sA Z<|ap<|al<|sT<|sQ<|ao (l':=bE h d f::aI d I::dO f e j::aP e p U::aS j d O::blk T 31 (ct (-1) (-1) 0 0).toArray::fr) aG<|sG<|sM Z<|bF (bR (vs:=ct (-1) (-1) 0 0) Z) (bl Z)<|bV Z (fE (-1) (-1) 0 0 Y) aQ<|aE<|sN<|bp Z<|bV Z (ip c) aQ<|aW<|sB Z<|an<|ar (cr h f e j d p U O I.rested) Z Z ⟨c,U,O,I,rfl,d6,rfl⟩ ?_
 exact aG
def CallPost.well{op:Nat}{Q:FK.En->Prop}(I:FK.Quiet σ)(Y:J.broken=0){m:List HP}(h:CallPost f e j d p S J σ op n Q v m):∃(c:Int) (U:FK.En) (T:FK.Jn) (O:FK.Dsk),v=dU c/\O.down=false/\(c=0/\Q U/\T=J/\O.rested=noted σ J op n)/\m=ch f e j d p U T O:=by
 unfold CallPost at h;rw[I.add Y]at h;obtain⟨rfl,U,h1,_,rfl⟩:=h;exact⟨0,U,J,(noted σ J op n).spent,rfl,(show(noted σ J op n).spent.down=false from I.down),⟨rfl,h1 Z,rfl,xZ (I.logs _ _)⟩,rfl⟩
def DS(hS:FK.Ok S)(hn:n<18446744073709551616)(hJ:J.n<1000000)(hb:J.broken=0)(hr:Roomy σ)(T:FK.Quiet σ)(I:S.sets<=4611686018427387904)(O:S.ends<=4611686018427387904):dS 37 [aY h,aA 7,aU n,jC] (cr h f e j d p S J σ) λv m=>v=aA 0/\∃U,FK.Ticks (S.later n) S U/\m=cr h f e j d p U J (noted σ J 7 n):=by
 refine(GM (Q:=λc U Y σ'=>c=0/\FK.Ticks (S.later n) S U/\Y=J/\σ'.rested=noted σ J 7 n) T ((D6 hS hn hJ hr I O).mono λv m hv=>⟨m,hv.well T hb,aQ⟩)).mono ?_;rintro v m ⟨c,U,Y,σ',rfl,⟨rfl,h2,rfl,h4⟩,rfl⟩;refine⟨_,⟨rfl,U,h2,rfl⟩,?_⟩;rw[h4];exact aQ
def BH(I:FK.Ok S):dS 25 [aY h] (cr h f e j d p S J σ) λv m=>m=row 95 4 v S.NP.length (qV S S.NP)::cr h f e j d p S J σ:=by
 refine bz func25 Z λE fr O=>du<|sS<|sB Z<|sQ<|sS<|cE 1 Z Z<|aL Z Z Z Z<|sP (eo Z Z Z)<|sN<|ag Z<|aa<|sT<|sQ<|sG<|cE 1 Z Z<|aL Z Z Z Z<|bQ Z (BU I) (Ent.trans gfE1 (Ent.cons (cM bJ bJ bJ))) ?_
 rintro v m rfl;refine du<|sB Z<|an<|ar (row 95 4 v S.NP.length (qV S S.NP)::cr h f e j d p S J σ) Z Z Z ?_
 exact aG
def qm(hS:FK.Ok S)(hR:S.getR id=some R):dS 20 [aY h,aU id] (cr h f e j d p S J σ) λv m=>∃I O T Y,v=.tuple #[.agg (cv id R.state (.slice I R.NN.length O) (.slice T R.NN.length Y)).toArray,aA 0]/\m=bL (.slice I R.NN.length O) (R.NN.map (·.state))::bL (.slice T R.NN.length Y) (R.NN.map (·.NM))::cr h f e j d p S J σ:=by
 refine bz func20 Z λE fr hE=>du<|sS<|sO (cO (z:=.agg #[cd 0,aA 0,cB,cB]) Z λb4=>(sB Z (sQ (sS (sM Z (cZ Z (bm 1 Z (aL Z Z Z Z (sP (eo Z Z Z) (sN (ag Z (aa (sT (sQ (ao (l':=dO f e j::aP e p S::aS j d J::aI d σ::bE h d f::blk b4 72 (cv 0 0 cB cB).toArray::fr) (by show Ent (blk b4 72 (cv 0 0 cB cB).toArray::_) _;exact aG) (sG<|cE 1 Z Z<|aL Z Z Z Z<|sM Z (bQ Z (yO hS hR) aQ ?_)))))))))))))))))
 rintro v m ⟨I,O,T,Y,rfl,rfl⟩;refine jS<|sM Z<|bG Z Z<|bG Z Z<|sO (cO (z:=.agg #[cd 0,aA 0,cB,cB]) Z λb6=>sO<|bk Z (m:=4) (vs:=cv id R.state (.slice I R.NN.length O) (.slice T R.NN.length Y)) Z Z Z Z eG (by show 0+4<=4;omega) ?_)
 refine aB b6 (cv id R.state (.slice I R.NN.length O) (.slice T R.NN.length Y)).toArray Z<|sB Z<|sQ<|sZ Z<|jW 0 Z (bR (vs:=cv id R.state (.slice I R.NN.length O) (.slice T R.NN.length Y)) Z) (bl Z)<|cC Z Z<|dI 2 Z<|dP Z jR aQ ?_
 rintro v m ⟨rfl,rfl⟩;refine aW<|dK [true] (aj (bl Z) ak)<|dI 3 Z<|bk Z (m:=4) (vs:=cv id R.state (.slice I R.NN.length O) (.slice T R.NN.length Y)) Z Z Z Z eG (by show 0+4<=4;omega) ?_
 refine dK [false] ak<|dx 4 Z (aX Z)<|dE<|sT<|an<|aB b4 (cv id R.state (.slice I R.NN.length O) (.slice T R.NN.length Y)).toArray Z<|de (bL (.slice I R.NN.length O) (R.NN.map (·.state))::bL (.slice T R.NN.length Y) (R.NN.map (·.NM))::cr h f e j d p S J σ) Z (bU (vs:=cv id R.state (.slice I R.NN.length O) (.slice T R.NN.length Y)) Z Z Z Z (bl Z)) (bS Z) ⟨I,O,T,Y,rfl,rfl⟩ ?_
 exact aG
end
end Go.Y
namespace Go.SL
open Go.RowKit
def DoesD.plain{f:FuncId}{I:Func}{c:Code}{args:List Value}{u:FrameMode}{pre:List HP}{R:List HP->Prop}(hf:P.funcs[f]?=some I)(hb:I.body=some c)(hn:Nat.ble args.length I.ntmps=true)
(h:∀E fr,G E->At E I.ntmps [] (fU 0 args) (pre++fr) (c.wp P (nt P I E fr λv m=>v=.tuple #[]/\R m))):DoesD P G f args.toArray u u pre R:=by
 intro E w fr hE hw;refine callsD_of_wpS hf hb λY cs hc=>?_;have O:Fits I.ntmps [] (fU 0 args) {tmps:=args.toArray++Array.replicate (I.ntmps-args.toArray.size) undef,defers:=[]}:=by
  refine⟨?_,rfl,?_⟩
  ·have:=Nat.le_of_ble_eq_true hn
   simp;omega
  ·intro i v hi
   obtain⟨_,J⟩:=fV args 0 i v hi;rw[Nat.sub_zero]at J;have T:i<args.length:=(gfGet.1 J).1;simp[Array.getElem?_append,T,(gfGet.1 J).2]
 have hk:=h E fr hE _ w O hw;refine wpS_of_wp<|Code.wp_mono ?_ hk
 intro e a w' K;cases e with
 |normal=>exact let⟨h1,v,J,v',m,h3,⟨h4,h5⟩,h6⟩:=K;⟨h1,u,by cases Y;simp_all,v,J,by rw[h3,h4],rfl,m,h5,h6⟩
 |ret=>exact let⟨h1,v,J,v',m,h3,⟨h4,h5⟩,h6⟩:=K;⟨h1,u,by cases Y;simp_all,v,J,by rw[h3,h4],rfl,m,h5,h6⟩
 |panic c=>exact let⟨_,v',m,h3,_⟩:=K;by cases h3
 |exit _=>exact K.elim
 |goto _=>exact K.elim
 |outgrown=>exact let⟨v',m,h3,_⟩:=K;by cases h3
end Go.SL
namespace Go.Proofs
open Go.Shelf Tryz
open Go.RowKit in
theorem co {α:Type _} {a b:α} (h:a=b:=by kernel_rfl):some a=some b:=congrArg some h
def rB:Go.Shelf.Ren:=⟨fun|172=>84|244=>133|245=>134|247=>176|279=>177|280=>178|281=>179|282=>180|287=>211|316=>212|171=>137|205=>213|321=>241|322=>242|243=>182|246=>214|283=>243|284=>244|285=>245|286=>246|129=>191|317=>265|318=>266|319=>267|320=>188|337=>215|338=>216|n=>n,fun|9=>9|3=>3|75=>62|76=>168|4=>4|5=>5|167=>288|37=>87|0=>0|85=>289|2=>2|168=>291|53=>36|175=>136|46=>240|210=>333|127=>360|145=>363|143=>361|21=>21|171=>364|173=>366|212=>384|51=>237|20=>20|213=>385|232=>368|233=>369|80=>392|n=>n,fun|15=>1|16=>2|17=>5|18=>3|19=>4|n=>n⟩
def y7:Go.Proofs.Lays.n172 prog rB:={
 mixed:=by kernel_rfl
 f129:=func191.trans co
 f171:=func137.trans co
 f172:=func84.trans co
 f205:=func213.trans co
 f243:=func182.trans co
 f244:=func133.trans co
 f245:=func134.trans co
 f246:=func214.trans co
 f247:=func176.trans co
 f279:=func177.trans co
 f280:=func178.trans co
 f281:=func179.trans co
 f282:=func180.trans co
 f283:=func243.trans co
 f284:=func244.trans co
 f285:=func245.trans co
 f286:=func246.trans co
 f287:=func211.trans co
 f316:=func212.trans co
 f317:=func265.trans co
 f318:=func266.trans co
 f319:=func267.trans co
 f320:=func188.trans co
 f321:=func241.trans co
 f322:=func242.trans co
 f337:=func215.trans co
 f338:=func216.trans co
 t0:=underlying0
 a0:=isAgg0
 z0:=sizeOf0
 v0:=zeroValue0
 t2:=underlying2
 a2:=isAgg2
 z2:=sizeOf2
 v2:=zeroValue2
 t3:=underlying3
 a3:=isAgg3
 z3:=sizeOf3
 v3:=zeroValue3
 t4:=underlying4
 a4:=isAgg4
 z4:=sizeOf4
 v4:=zeroValue4
 t5:=underlying5
 a5:=isAgg5
 z5:=sizeOf5
 v5:=zeroValue5
 t9:=underlying9
 a9:=isAgg9
 z9:=sizeOf9
 v9:=zeroValue9
 t20:=underlying20
 a20:=isAgg20
 z20:=sizeOf20
 v20:=zeroValue20
 t21:=underlying21
 a21:=isAgg21
 z21:=sizeOf21
 v21:=zeroValue21
 t37:=underlying87
 a37:=isAgg87
 z37:=sizeOf87
 v37:=zeroValue87
 t46:=underlying240
 a46:=isAgg240
 z46:=sizeOf240
 v46:=zeroValue240
 t51:=underlying237
 a51:=isAgg237
 z51:=sizeOf237
 v51:=zeroValue237
 t53:=underlying36
 a53:=isAgg36
 z53:=sizeOf36
 v53:=zeroValue36
 t75:=underlying62
 a75:=isAgg62
 z75:=sizeOf62
 v75:=zeroValue62
 t76:=underlying168
 a76:=isAgg168
 z76:=sizeOf168
 v76:=zeroValue168
 t85:=underlying289
 a85:=isAgg289
 z85:=sizeOf289
 v85:=zeroValue289
 t127:=underlying360
 a127:=isAgg360
 z127:=sizeOf360
 v127:=zeroValue360
 t143:=underlying361
 a143:=isAgg361
 z143:=sizeOf361
 v143:=zeroValue361
 t145:=underlying363
 a145:=isAgg363
 z145:=sizeOf363
 v145:=zeroValue363
 t167:=underlying288
 a167:=isAgg288
 z167:=sizeOf288
 v167:=zeroValue288
 t168:=underlying291
 a168:=isAgg291
 z168:=sizeOf291
 v168:=zeroValue291
 t171:=underlying364
 a171:=isAgg364
 z171:=sizeOf364
 v171:=zeroValue364
 t173:=underlying366
 a173:=isAgg366
 z173:=sizeOf366
 v173:=zeroValue366
 t175:=underlying136
 a175:=isAgg136
 z175:=sizeOf136
 v175:=zeroValue136
 t210:=underlying333
 a210:=isAgg333
 z210:=sizeOf333
 v210:=zeroValue333
 t212:=underlying384
 a212:=isAgg384
 z212:=sizeOf384
 v212:=zeroValue384
 t213:=underlying385
 a213:=isAgg385
 z213:=sizeOf385
 t232:=underlying368
 a232:=isAgg368
 z232:=sizeOf368
 v232:=zeroValue368
 t233:=underlying369
 a233:=isAgg369
 z233:=sizeOf369
 v233:=zeroValue369
 g15:=by kernel_rfl
 g16:=by kernel_rfl
 g17:=by kernel_rfl
 g18:=by kernel_rfl
 g19:=by kernel_rfl}
open Go.RowKit in
theorem qz (s:ByteArray) (n:Int) (hl:s.size<=18) (h:Lib.atoi s.data.toList=some n) (w:World) :
 Calls prog 84 #[.string s] w λe w'=>e=.returned (.tuple #[.int .i64 n,.nilIface])/\∃t,w'=Lib.bytesWorld w 5 t:=Any.strconv_Atoi y7 s n hl h w
def rA:Go.Shelf.Ren:=⟨fun|192=>300|190=>303|125=>206|258=>304|128=>238|129=>191|302=>305|303=>306|304=>307|305=>308|306=>309|307=>310|308=>311|309=>312|310=>313|333=>314|329=>260|330=>261|334=>315|335=>316|336=>317|344=>318|n=>n,fun|31=>165|0=>0|9=>9|3=>3|46=>240|51=>237|53=>36|4=>4|183=>351|182=>350|131=>313|5=>5|218=>378|222=>225|228=>389|229=>147|n=>n,fun|n=>n⟩
def qs:Go.Proofs.Lays.n192 prog rA:={
 mixed:=by kernel_rfl
 f125:=func206.trans co
 f128:=func238.trans co
 f129:=func191.trans co
 f190:=func303.trans co
 f192:=func300.trans co
 f258:=func304.trans co
 f302:=func305.trans co
 f303:=func306.trans co
 f304:=func307.trans co
 f305:=func308.trans co
 f306:=func309.trans co
 f307:=func310.trans co
 f308:=func311.trans co
 f309:=func312.trans co
 f310:=func313.trans co
 f329:=func260.trans co
 f330:=func261.trans co
 f333:=func314.trans co
 f334:=func315.trans co
 f335:=func316.trans co
 f336:=func317.trans co
 f344:=func318.trans co
 t0:=underlying0
 a0:=isAgg0
 z0:=sizeOf0
 v0:=zeroValue0
 t3:=underlying3
 a3:=isAgg3
 z3:=sizeOf3
 v3:=zeroValue3
 t4:=underlying4
 a4:=isAgg4
 z4:=sizeOf4
 v4:=zeroValue4
 t5:=underlying5
 a5:=isAgg5
 z5:=sizeOf5
 v5:=zeroValue5
 t9:=underlying9
 a9:=isAgg9
 z9:=sizeOf9
 v9:=zeroValue9
 t31:=underlying165
 a31:=isAgg165
 z31:=sizeOf165
 v31:=zeroValue165
 t46:=underlying240
 a46:=isAgg240
 z46:=sizeOf240
 v46:=zeroValue240
 t51:=underlying237
 a51:=isAgg237
 z51:=sizeOf237
 v51:=zeroValue237
 t53:=underlying36
 a53:=isAgg36
 z53:=sizeOf36
 v53:=zeroValue36
 t131:=underlying313
 a131:=isAgg313
 z131:=sizeOf313
 v131:=zeroValue313
 t182:=underlying350
 a182:=isAgg350
 z182:=sizeOf350
 v182:=zeroValue350
 t183:=underlying351
 a183:=isAgg351
 z183:=sizeOf351
 v183:=zeroValue351
 t218:=underlying378
 a218:=isAgg378
 z218:=sizeOf378
 v218:=zeroValue378
 t222:=underlying225
 a222:=isAgg225
 z222:=sizeOf225
 v222:=zeroValue225
 t228:=underlying389
 a228:=isAgg389
 z228:=sizeOf389
 v228:=zeroValue389
 t229:=underlying147
 a229:=isAgg147
 z229:=sizeOf147
 v229:=zeroValue147}
open Go.Sort Go.RowKit in
theorem qA (blk off cap:Nat) (ss:List (List UInt8)) (w:World) (hH:Holds encStr w blk off ss.toArray) (hblk:blk<w.heap.size) (hsz:ss.length<4611686018427387904) :
 Calls prog 300 #[.slice (some ⟨blk,off,none⟩) ss.length cap] w λe w'=>
  e=.returned (.tuple #[])/\∃n os,w'=grow (putRow encStr (Sort.ahead w n) blk off (ss.mergeSort λx y=>decide (x<=y)).toArray) os:=Any.sort_Strings qs blk off cap ss w hH hblk hsz
open Go.RowKit Go.Lib in
open Go.RowKit Go.Lib in
def rC:Go.Shelf.Ren:=⟨fun|101=>85|208=>135|206=>181|n=>n,fun|9=>9|4=>4|3=>3|n=>n,fun|n=>n⟩
def y8:Go.Proofs.Lays.n101 prog rC:={
 mixed:=by kernel_rfl
 f101:=func85.trans co
 f206:=func181.trans co
 f208:=func135.trans co
 t3:=underlying3
 a3:=isAgg3
 z3:=sizeOf3
 v3:=zeroValue3
 t4:=underlying4
 a4:=isAgg4
 z4:=sizeOf4
 v4:=zeroValue4
 t9:=underlying9
 a9:=isAgg9
 z9:=sizeOf9
 v9:=zeroValue9}
open Go.RowKit Go.Lib in
theorem mI (s p:ByteArray) (w:World) :
 Calls prog 85 #[.string s,.string p] w λe w'=>e=.returned (.string ⟨(Lib.trimPrefix s.data.toList p.data.toList).toArray⟩)/\w'=w:=Any.strings_TrimPrefix y8 s p w
open Go.RowKit Go.Sort in
open Go.RowKit Go.Sort in
theorem jz (p:Option Addr) (cap:Nat) (w:World) :
 Calls prog 300 #[.slice p 0 cap] w λe w'=>e=.returned (.tuple #[])/\w'=w:=Any.sort_Strings_none qs p cap w
end Go.Proofs
namespace Go.Y
open Go.Proofs Tryz Go.RowKit Go.SL
def o7{name:ByteArray}(K:σ.down=false)(I:FK.fG σ.now name=none):dz G 295 [aY d,cX name] [aI d σ] λv m=>v=.tuple #[cB,dU 9]/\m=[aI d σ]:=by
 obtain⟨dur,now,pend,left,full,down⟩:=σ;subst K;refine bz func295 Z λE fr T=>ae<|df .head λq=>bC<|ao (l':=nh d q ⟨dur,now,pend,left,full,false⟩ fr) aQ<|df dm λM=>bC<|ao (l':=HP.pure (Names q.P M now)::dh cX q.mn (fi M)::blk d 56 (iU q ⟨dur,now,pend,left,full,false⟩)::bX q.md q.P dur::fN q.P::row 205 3 q.pv pend.length (jB pend)::fr) aQ<|eW .head λJ=>?_
 have O:FK.fG M name=none:=by
  rcases J.get name with h|⟨b,s,_,h,_⟩
  ·exact h.1
  ·rw[h]at I;cases I
 refine sS<|sA Z<|sB Z<|sQ<|sS<|cE 5 Z Z<|aL Z Z Z Z<|sN<|ag Z<|aa<|sT<|sS<|cE 1 Z Z<|aL Z Z Z Z<|sM Z<|bF (k9 (m:=fi M) (a:=name) Z lm Z Z Z (by rw[mh,O];rfl)) (jm .head)<|sM Z<|bG Z Z<|bG Z Z<|sA Z<|sB Z<|sQ<|bp Z<|sP (cA Z Z)<|sN<|aK Z<|sS<|sP (em Z Z Z)<|sA Z<|sB Z<|an<|aD<|dr [aI d ⟨dur,now,pend,left,full,false⟩] rfl Z Z ec<|Ent.trans ?_<|cU q ⟨dur,now,pend,left,full,false⟩
 refine Ent.trans (dH J) ?_;show Ent _ (_::bX q.md q.P dur::bX q.mn q.P now::fN q.P::_::fr);exact aG
def vF(K:σ.down=false)(O:σ.now=[]):dz G 294 [aY d] [aI d σ] λv m=>v=.tuple #[cB,.nilIface]/\m=[aI d σ]:=by
 obtain⟨dur,now,pend,left,full,down⟩:=σ;subst K;subst O;refine bz func294 Z λE fr T=>ae<|df .head λq=>bC<|ao (l':=nh d q ⟨dur,[],pend,left,full,false⟩ fr) aQ<|df dm λM=>bC<|ao (l':=HP.pure (Names q.P M [])::dh cX q.mn (fi M)::blk d 56 (iU q ⟨dur,[],pend,left,full,false⟩)::bX q.md q.P dur::fN q.P::row 205 3 q.pv pend.length (jB pend)::fr) aQ<|eW .head λI=>?_
 have hM:M=[]:=by cases I;rfl
 subst hM;refine sS<|sA Z<|sB Z<|sQ<|sS<|cE 5 Z Z<|aL Z Z Z Z<|sN<|ag Z<|aa<|sT<|sS<|sB Z<|sQ<|sS<|cE 1 Z Z<|aL Z Z Z Z<|sO (ol (b:=q.mn) (m:=fi []) Z Z Z .head λJ=>(sN (ai (aO (X:=Nat) (λ_=>[(15,eg J 0),(4,cB),(0,aY d)]) (λ_=>eh cX J q.mn (fi []) (fi []) none::blk d 56 (iU q ⟨dur,[],pend,left,full,false⟩)::bX q.md q.P dur::fN q.P::row 205 3 q.pv pend.length (jB pend)::fr) (λ_=>True) (λ_=>0) 0 trivial bW aQ ?_))))
 intro k hk;refine sS<|sO<|lp Z Z .head (λ_=>?_) (λj q Y=>by simp at Y)
 refine bG Z Z<|sN<|sQ<|ag Z<|aM<|aw<|az<|aq<|sT<|bp Z<|sO<|nE Z Z Z T (fg (φ:=λ_=>True) λ_ w _ _ _=>(jz none 0 w).mono λ_ _ ⟨h1,h2⟩=>⟨h1,by rw[h2];exact Below.refl _ _⟩) dp ?_
 rintro v m ⟨rfl,rfl⟩;refine aW<|sN<|bp Z<|sA Z<|sB Z<|an<|dr [aI d ⟨dur,[],pend,left,full,false⟩] rfl Z Z ec<|Ent.trans ?_<|cU q ⟨dur,[],pend,left,full,false⟩
 refine Ent.trans (Ent.ranged.trans (dH I)) ?_;show Ent _ (_::bX q.md q.P dur::bX q.mn q.P []::fN q.P::_::fr);exact aG
end Go.Y
namespace FK
def iI(ns:List ByteArray):List ByteArray:=((ns.map λs=>s.data.toList).mergeSort λx y=>decide (x<=y)).map λl=>⟨l.toArray⟩
def FZ(ns:List ByteArray):(iI ns).length=ns.length:=by unfold iI;simp
end FK
namespace Go.SL
open Go Go.RowKit
variable{l:List HP}{pos:String}
def Jp{src I e:TypeId}{x:Operand}{s:ByteArray}(hi:Nat.blt i n=true)(O:P.underlying src=some .string)(T:P.underlying I=some (.slice e))(Y:P.underlying e=some (.int .u8))(hx:ev ts x=some (.string s))
(h:∀b c fz,s.size<=c->At E n D ((i,dQ b s.size c)::ts) (ob b (.cells (bytesRow s c) e fz)::l) K):At E n D ts l (λa w=>(Oper.mk (some i) (.convert src I x) ty pos af g).wp P a w K Q):=λa w J hw=>by
 have hr:=run_bytes_of_string (P:=P) w src I e s O T Y;have:(execOp a.eval (Oper.mk (some i) (.convert src I x) ty pos af g)).run P w=.ok (.value (.slice (some ⟨w.heap.size,0,none⟩) s.size (grownCap w s.size 0 e))) (w.drew.alloc (.cells (bytesRow s (grownCap w s.size 0 e)) e ((bytesRow s (grownCap w s.size 0 e)).size,(bytesRow s (grownCap w s.size 0 e)).size+1))):=by
  simp only[execOp,J.eval hx,Sem.run_bind,hr,Result.andThen_ok,Sem.run_pure]
 show(Oper.mk (some i) (.convert src I x) ty pos af g).wp P a w K Q;unfold Oper.wp;rw[this];exact h _ _ _ (grownCap_ge _ _ _ _) _ _ (J.put i (Nat.le_of_ble_eq_true hi) _) ((hw.drawn _).alloc _)
end Go.SL
namespace Go.Y
open Go.Proofs Tryz
open Go Go.RowKit Go.SL
def LK(ns:List ByteArray):(ns.map λs=>s.data.toList).map encStr=ns.map cX:=by
 rw[List.map_map];refine List.map_congr_left λs _=>?_;show Value.string ⟨s.data.toList.toArray⟩=.string s;rw[Array.toArray_toList]
theorem G6(ns:List ByteArray):((ns.map λs=>s.data.toList).mergeSort λx y=>decide (x<=y)).map encStr=(FK.iI ns).map cX:=by
 unfold FK.iI;rw[List.map_map]
 rfl
def C0{ns:List ByteArray}(hl:ns.length<=1000000):dz G 300 [.slice A ns.length c] [row 9 1 (.slice A ns.length c) ns.length (ns.map cX)] λv m=>v=.tuple #[]/\m=[row 9 1 (.slice A ns.length c) ns.length ((FK.iI ns).map cX)]:=λE w fr hE hw=>by
 have hr:=hw.row .head;rcases hr.2 with⟨h0,O⟩|⟨g,cap,d6,hv,hb,T,O,h2,h3,h4⟩
 ·have Y:ns=[]:=List.eq_nil_of_length_eq_zero O
  subst Y;refine(jz A c w).mono λe w' ⟨K,J⟩=>?_;subst J;exact⟨_,_,K,⟨rfl,rfl⟩,by
  have e0:(FK.iI []).map cX=([]:List Value):=by simp[FK.iI]
  rw[e0];exact hw⟩
 ·have hA:A=some ⟨g,0,none⟩/\c=cap:=by injection hv with a1 _ a3;exact⟨a1,a3⟩
  obtain⟨rfl,rfl⟩:=hA;have I:(ns.map λs=>s.data.toList).length=ns.length:=List.length_map _;rw[Nat.mul_one]at h4;have hH:=holds_of_block (ss:=ns.map λs=>s.data.toList) T (by rw[I,h4,LK]);have hc:=qA g 0 c (ns.map λs=>s.data.toList) w hH (Array.getElem?_eq_some_iff.1 T).1 am;rw[I]at hc;refine hc.mono λe w' ⟨K,n,os,J⟩=>?_;subst J;refine⟨_,_,K,⟨rfl,rfl⟩,?_⟩;have ho:=ownsRow_sorted (w:=w) (base:=0) (n:=n) (os:=os) (ss:=ns.map λs=>s.data.toList) (ts:=(ns.map λs=>s.data.toList).mergeSort λx y=>decide (x<=y)) di (Nat.zero_le _) T (by rw[I];exact O) h2 h3;rw[I,G6]at ho;exact od hw (grownBy_sorted _) ho<|.inl Z
def Lv:fm prog 9 (.string ⟨#[]⟩) 1 16:=by unfold fm;kernel_rfl
def JW(s:ByteArray):Instr.fill (λi=>some (i*1,1)) (Array.map (λx=>(Value.string ⟨#[]⟩).cells[x%(Value.string ⟨#[]⟩).cells.size]!) (Array.range (1*1))) ((List.map (λx=>x.fst) [((0:Nat),Operand.tmp 21)]).zip [cX s])=some #[cX s]:=by
 have e1:Array.range (1*1)=#[0]:=rfl;rw[e1];simp[Instr.fill,Value.cells]
theorem DH(hd:σ.down=false)(hn:σ.now.length<=1000000):dz G 294 [aY d] [aI d σ] λv m=>∃ns A c,ns.Perm (σ.now.map (·.1))/\v=.tuple #[.slice A ns.length c,.nilIface]/\m=[row 9 1 (.slice A ns.length c) ns.length ((FK.iI ns).map cX),aI d σ]:=by
 obtain⟨dur,now,pend,left,full,down⟩:=σ;simp only at hd hn;subst hd;refine bz func294 Z λE fr hE=>ae<|df .head λq=>bC<|ao (l':=nh d q ⟨dur,now,pend,left,full,false⟩ fr) aQ<|df dm λM=>bC<|ao (l':=HP.pure (Names q.P M now)::dh cX q.mn (fi M)::blk d 56 (iU q ⟨dur,now,pend,left,full,false⟩)::bX q.md q.P dur::fN q.P::row 205 3 q.pv pend.length (jB pend)::fr) aQ<|eW .head λY=>?_
 have f9:M.length=now.length:=by rw[<-List.length_map (f:=(·.1)),Y.keys,List.length_map]
 refine sS<|sA Z<|sB Z<|sQ<|sS<|cE 5 Z Z<|aL Z Z Z Z<|sN<|ag Z<|aa<|sT<|sS<|sB Z<|sQ<|sS<|cE 1 Z Z<|aL Z Z Z Z<|sO (ol (b:=q.mn) (m:=fi M) Z Z Z .head λK=>(sN (ai (aO (X:=List (ByteArray×Nat)×Option (ByteArray×Value)×List ByteArray×Value) (λx=>[(15,eg K 0),(4,x.2.2.2),(0,aY d)]) (λx=>eh cX K q.mn (fi M) (fi x.1) x.2.1::row 9 1 x.2.2.2 x.2.2.1.length (x.2.2.1.map cX)::blk d 56 (iU q ⟨dur,now,pend,left,full,false⟩)::bX q.md q.P dur::fN q.P::row 205 3 q.pv pend.length (jB pend)::fr) (λx=>(M.map (·.1)).Perm (x.2.2.1++x.1.map (·.1))) (λx=>x.1.length) (M,none,[],cB) (List.Perm.refl _) bW (by show Ent _ (eh cX K q.mn (fi M) (fi M) none::row 9 1 cB 0 []::blk d 56 (iU q ⟨dur,now,pend,left,full,false⟩)::bX q.md q.P dur::fN q.P::row 205 3 q.pv pend.length (jB pend)::fr);exact(Ent.row0 (e:=9) (size:=1)).trans aG) ?_))))
 rintro⟨left',d6,ns,y⟩ I;replace I:(M.map (·.1)).Perm (ns++left'.map (·.1)):=I;have T:=I.length_eq;rw[List.length_append,List.length_map,List.length_map]at T;refine ao (l':=eh cX K q.mn (fi M) (fi left') d6::row 9 1 y ns.length (ns.map cX)::blk d 56 (iU q ⟨dur,now,pend,left,full,false⟩)::bX q.md q.P dur::fN q.P::row 205 3 q.pv pend.length (jB pend)::fr) aQ<|sQ ?_
 by_cases HL:left'=[]
 ·subst HL;refine sG<|sO<|lp Z Z .head (λ_=>?_) (λj q J=>by simp at J)
  refine bG Z Z<|sN<|sQ<|ag Z<|aM<|aw<|az<|aq<|sT<|sQ ?_
  rw[List.map_nil,List.append_nil]at I;refine aN bJ ?_;rintro A c rfl - - - - -
  refine sG<|sM Z<|bV Z (C0 (c:=c) am) gfE1<|ae<|sN<|bp Z<|sA Z<|sB Z<|an<|dr [row 9 1 (.slice A ns.length c) ns.length ((FK.iI ns).map cX),aI d ⟨dur,now,pend,left,full,false⟩] rfl Z Z ⟨ns,A,c,by rw[<-Y.keys];exact I.symm,rfl,rfl⟩ ?_
  refine Ent.cons<|Ent.trans ?_<|cU q ⟨dur,now,pend,left,full,false⟩
  refine Ent.trans (Ent.ranged.trans (dH Y)) ?_;show Ent _ (_::bX q.md q.P dur::bX q.mn q.P now::fN q.P::_::fr);exact aG
 ·refine sG<|sO<|lp Z Z .head (λh=>absurd (List.map_eq_nil_iff.1 h) HL) λj q' J=>?_
  obtain⟨x,hx,rfl⟩:∃x,left'[j]?=some x/\(x.1,aY x.2)=q':=by
   rw[List.getElem?_map]at J;cases hl:left'[j]? with
   |none=>rw[hl]at J;cases J
   |some x=>rw[hl]at J;injection J with J;exact⟨x,rfl,J⟩
  have d7:=(gfGet.1 hx).1;have d8:=lC hx;have d9:(M.map (·.1)).Perm ((ns++[x.1])++(left'.eraseIdx j).map (·.1)):=by
   rw[List.append_assoc];exact I.trans<|List.Perm.append_left ns<|d8.map (·.1)
  rw[<-iz];refine bG Z Z<|sN<|sQ<|aK Z<|aa<|sT<|ai<|sS<|bF (nQ (p:=(x.1,aY x.2)) Z) (mL .head)<|bG Z Z<|sB Z<|sG<|sM Z<|sM Z<|sO (dw (m:=1) (z:=.string ⟨#[]⟩) (size:=1) (ps:=[(0,.tmp 21)]) (vs:=[cX x.1]) (cs:=#[cX x.1]) Z Z Z Z am am Z (JW _) λf8=>dL rfl (ce rfl rfl Lv rfl am rfl rfl (HasVal.sel (v:=y)) (news:=[cX x.1]) rfl fX iy eG gk am λO f7=>sA Z<|ap<|al<|aH (left'.eraseIdx j,some (x.1,aY x.2),ns++[x.1],O) d9 (by show(left'.eraseIdx j).length<left'.length;rw[List.length_eraseIdx_of_lt d7];omega) bW ?_))
  rw[List.length_append,List.map_append];show Ent _ (eh cX K q.mn (fi M) (fi (left'.eraseIdx j)) (some (x.1,aY x.2))::row 9 1 O (ns.length+1) (ns.map cX++[cX x.1])::blk d 56 (iU q ⟨dur,now,pend,left,full,false⟩)::bX q.md q.P dur::fN q.P::row 205 3 q.pv pend.length (jB pend)::fr);exact aG
abbrev pI(b c:Nat)(s:ByteArray)(I:Nat×Nat):HP:=ob b (.cells (bytesRow s c) 5 I)
def qT{s:ByteArray}{J:Nat×Nat}:Reads (pI b c s J) (some ⟨b,0,none⟩) s.data.toList where
 form _:=⟨b,0,rfl⟩
 cell w F hp b' o he j x hx:=by
  injection he with he;injection he with e1 e2;subst e1;subst e2;have I:s.data[j]?=some x:=by simpa using hx
  have K:j<s.data.size:=by
   obtain⟨h,_⟩:=Array.getElem?_eq_some_iff.1 I;exact h
  simp[World.cell?,hp.2,bytesRow,Array.getElem?_append,I];intro h;have:s.size=s.data.size:=rfl;omega
def wR{name s:ByteArray}(hd:σ.down=false)(I:FK.fG σ.now name=some s):dz G 295 [aY d,cX name] [aI d σ] λv m=>∃b c T,s.size<=c/\v=.tuple #[dQ b s.size c,.nilIface]/\m=[pI b c s T,aI d σ]:=by
 obtain⟨dur,now,pend,left,full,down⟩:=σ;subst hd;refine bz func295 Z λE fr hE=>ae<|df .head λq=>bC<|ao (l':=nh d q ⟨dur,now,pend,left,full,false⟩ fr) aQ<|df dm λM=>bC<|ao (l':=HP.pure (Names q.P M now)::dh cX q.mn (fi M)::blk d 56 (iU q ⟨dur,now,pend,left,full,false⟩)::bX q.md q.P dur::fN q.P::row 205 3 q.pv pend.length (jB pend)::fr) aQ<|eW .head λY=>?_
 obtain⟨bs,hM,hP⟩:∃b,FK.fG M name=some b/\(b,s)∈q.P:=by
  rcases Y.get name with h|⟨b,s',h1,h2,h3⟩
  ·rw[h.2]at I;cases I
  ·rw[h2]at I;injection I with I;subst I;exact⟨b,h1,h3⟩
 refine sS<|sA Z<|sB Z<|sQ<|sS<|cE 5 Z Z<|aL Z Z Z Z<|sN<|ag Z<|aa<|sT<|sS<|cE 1 Z Z<|aL Z Z Z Z<|sM Z<|bF (kZ (m:=fi M) (a:=name) (v:=aY bs) Z lm Z Z (by rw[mh,hM];rfl)) (jm .head)<|sM Z<|bG Z Z<|bG Z Z<|sA Z<|sB Z<|sQ<|bp Z<|sP (cA Z Z)<|sN<|ag Z<|aa<|sT<|bp Z<|cZ Z<|bF (au (v:=cX s) Z) (zI hP gP)<|sO (Jp Z Z Z Z Z λJ K T O=>(sA Z (sB Z (an (dr [pI J K s T,aI d ⟨dur,now,pend,left,full,false⟩] rfl Z Z ⟨J,K,T,O,rfl,rfl⟩ (Ent.cons<|Ent.trans ?_<|cU q ⟨dur,now,pend,left,full,false⟩))))))
 refine Ent.trans (dH Y) ?_;show Ent _ (_::bX q.md q.P dur::bX q.mn q.P now::fN q.P::_::fr);exact aG
def JX(b:Nat)(x:Operand):Instr.fill (λi=>some (i*1,1)) (Array.map (λx=>(Value.pointer none).cells[x%(Value.pointer none).cells.size]!) (Array.range (1*1))) ((List.map (λx=>x.fst) [((0:Nat),x)]).zip [aY b])=some #[aY b]:=by
 have e1:Array.range (1*1)=#[0]:=rfl;rw[e1];simp[Instr.fill,Value.cells]
theorem tmRow{l:List FK.Tmr}{m:List HP}(s:Sel (jg l) m r)(J:t∈l):∀w,Holds E w m->ie t.blk 0 (ja t.key) w:=λw hw j v I=>by
 refine qH s J ?_ w hw;rw[Nat.zero_add]
 match j,I with
 |0,I|1,I|2,I=>exact I
abbrev allL(w mp I:Nat)(S:FK.WS)(sl:Nat->Value)(left:List FK.Tmr)(E:Option (FK.Pl×Value))(bs:List Nat)(v:Value)(fr:List HP):List HP:=eh jj I mp (gy S.tms) (gy left) E::eF v bs::FG w S sl mp::kD sl S.bs::jg S.tms::fr
def Lt{l:List FK.Tmr}(h:l[i]?=some t):∃r,(l.map FK.kd).take i++(t.key,t.due)::r=l.map FK.kd:=by
 obtain⟨I,J⟩:=gfGet.1 h;refine⟨(l.map FK.kd).drop (i+1),?_⟩;have E:=List.take_append_drop i (l.map FK.kd);rw[List.drop_eq_getElem_cons (by rw[List.length_map];exact I),List.getElem_map,J]at E;exact E
def Kj{S:FK.WS}{w:Nat}{cap:Array Value}(h:FK.Inv S [])(d9:S.tms.length<=100000)
(hF:eT prog F=true)
(K:∀done k a,done.length<=100000->(∃r,done++(k,a)::r=S.tms.map FK.kd)->Does prog G F (#[]++[jj k,cd (a:Nat)].toArray++cap) [U done] λv m=>v=.tuple #[]/\m=[U (done++[(k,a)])]) :
 dz G 109 [aY w,.func (.func F) #[] cap] [cJ w S,U []] λv m=>v=.tuple #[]/\m=[cJ w S,U (S.tms.map FK.kd)]:=by
 refine bz func109 Z λE fr hE=>aE (eP .head λsl mp=>(sS (sB Z (sQ (sS (sM Z (cZ Z (bm 717 Z (bF (au Z) (ah (jJ _ _ _ _ _)) (sO (ol (b:=mp) (m:=gy S.tms) Z Z Z gP λO=>(sN (ai ?_)))))))))))));refine aO (X:=List FK.Tmr×Option (FK.Pl×Value)×List Nat×Value) (λx=>[(13,eg O 0),(4,x.2.2.2),(1,.func (.func F) #[] cap),(0,aY w)]) (λx=>allL w mp O S sl x.1 x.2.1 x.2.2.1 x.2.2.2 (U []::fr)) (λx=>(S.tms.map FK.Tmr.blk).Perm (x.2.2.1++x.1.map FK.Tmr.blk)) (λx=>x.1.length) (S.tms,none,[],cB) (List.Perm.refl _) bW (by show Ent _ (eh jj O mp (gy S.tms) (gy S.tms) none::row 254 1 cB 0 []::FG w S sl mp::kD sl S.bs::jg S.tms::U []::fr);exact(Ent.row0 (e:=254) (size:=1)).trans aG) ?_;rintro⟨left,f8,bs,y⟩ I;replace I:(S.tms.map FK.Tmr.blk).Perm (bs++left.map FK.Tmr.blk):=I;have Y:=I.length_eq;rw[List.length_append,List.length_map,List.length_map]at Y;refine ao (l':=allL w mp O S sl left f8 bs y (U []::fr)) aQ ?_;refine sQ ?_
 by_cases HL:left=[]
 ·subst HL;refine sG ?_;refine sO<|lp Z Z .head (λ_=>?_) (λj q J=>by simp[gy]at J)
  refine bG Z Z<|sN<|sQ<|ag Z<|aM<|aw<|az<|aq<|sT<|sQ ?_
  rw[List.map_nil,List.append_nil]at I;have t6:=I.length_eq;rw[List.length_map]at t6;refine aN bJ ?_;rintro A c rfl f9 mt - - -
  refine sG<|sM Z ?_
  refine bV Z (vN h.seqs I.symm h.blks d9) (bo bJ gP) ?_;refine aE<|sN<|bp Z<|sP (bh Z Z)<|sM Z<|sN<|ai ?_
  refine aO (X:=Nat) (λi=>[(26,aA i),(25,aA bs.length),(24,.slice A bs.length c),(1,.func (.func F) #[] cap)]) (λi=>row 254 1 (.slice A bs.length c) bs.length ((S.tms.map FK.Tmr.blk).map aY)::cJ w S::U ((S.tms.map FK.kd).take i)::fr) (λi=>i<=bs.length) (λi=>bs.length-i) 0 (Nat.zero_le _) bW (Ent.cons (gfE1.trans (by show Ent (eh jj O mp (gy S.tms) (gy []) _::jg S.tms::FG w S sl mp::kD sl S.bs::U []::fr) (cJ w S::U []::fr);exact(Ent.ranged.trans aG).trans (dG (S:=S) (sl:=sl) (mp:=mp))))) ?_;intro i hi;replace hi:i<=bs.length:=hi;refine sS<|sP (bq Z Z Z)<|sN<|sQ ?_
  refine aC Z (λf7=>?_) λf7=>?_
  ·have t7:i<S.tms.length:=am;obtain⟨t,ht⟩:∃t,S.tms[i]?=some t:=⟨S.tms[i],by simp[t7]⟩;have d6:=cg ht;obtain⟨g,rfl⟩:∃g,A=some ⟨g,0,none⟩:=by
    cases A with
    |none=>have:=(f9 rfl).1;omega
    |some ad=>obtain⟨g,rfl⟩:=mt ad rfl;exact⟨g,rfl⟩
   refine aa<|sT<|sQ<|ai<|sS<|sP (aV (z:=1) Z Z Z Z am)<|bF (au (v:=aY t.blk) Z) (ii .head (by simp[ht]))<|sB Z (eP bJ λsl mp=>(sZ Z (ea Z Z (cC Z Z (bB Z (cI Z) (bB Z (bd 0 Z) (bN Z (bR (vs:=ja t.key) Z) (tmRow dm d6) (cC Z Z (bB Z (cI Z) ?_)))))))))
   refine dx 7 Z (bd 3 Z)<|bN Z (au (v:=cd t.due) Z) (qH dm d6 Z) ?_
   refine dI 9 Z<|iR Z Z hF Z hE (K ((S.tms.map FK.kd).take i) t.key t.due (by rw[List.length_take];omega) (Lt ht)) gfE5 ?_
   rintro v m ⟨rfl,rfl⟩;refine ae<|dK [false,false] ak<|dE<|al<|sT<|sG<|sP (bH (r:=((i+1:Nat):Int)) Z Z (iP am))<|sM Z<|ap ?_
   have t8:(S.tms.map FK.kd).take (i+1)=(S.tms.map FK.kd).take i++[(t.key,t.due)]:=by rw[List.take_add_one,List.getElem?_map,ht];rfl
   refine aH (i+1) am am bW ?_;show Ent _ (_::_::U ((S.tms.map FK.kd).take (i+1))::fr);rw[t8];refine Ent.trans (Ent.trans (b:=FG w S sl mp::kD sl S.bs::jg S.tms::dh jj mp (gy S.tms)::row 254 1 (dQ g bs.length c) bs.length ((S.tms.map FK.Tmr.blk).map aY)::U ((S.tms.map FK.kd).take i++[(t.key,t.due)])::fr) aG dG) aG
  ·refine aM<|aw<|az<|aq ?_
   have d7:(S.tms.map FK.kd).take i=S.tms.map FK.kd:=List.take_of_length_le (by rw[List.length_map];omega);exact dt [_,_] rfl ec (by rw[d7];exact Ent.drop)
 ·refine sG ?_;refine sO<|lp Z Z .head (λh=>absurd (List.map_eq_nil_iff.1 h) HL) λj q' J=>?_
  obtain⟨x,hx,rfl⟩:∃x,left[j]?=some x/\(x.key,aY x.blk)=q':=by
   unfold gy at J;rw[List.getElem?_map]at J;cases hl:left[j]? with
   |none=>rw[hl]at J;cases J
   |some x=>rw[hl]at J;injection J with J;exact⟨x,rfl,J⟩
  have wf:=(gfGet.1 hx).1;have BT:=lC hx;have Fd:(S.tms.map FK.Tmr.blk).Perm ((bs++[x.blk])++(left.eraseIdx j).map FK.Tmr.blk):=by
   rw[List.append_assoc];exact I.trans<|List.Perm.append_left bs<|BT.map FK.Tmr.blk
  have d8:(gy left).eraseIdx j=gy (left.eraseIdx j):=(iz _ _ _).symm;rw[d8];refine bG Z Z<|sN<|sQ<|aK Z<|aa<|sT<|ai<|sS<|bF (nQ (p:=(x.key,aY x.blk)) Z) (mL .head)<|bG Z Z<|sB Z<|sG<|sM Z<|sM Z ?_
  refine sO (dw (m:=1) (z:=.pointer none) (size:=1) (ps:=[(0,.tmp 19)]) (vs:=[aY x.blk]) (cs:=#[aY x.blk]) Z Z Z Z am am Z (JX _ _) λLE=>?_);refine dL rfl (ce rfl rfl Fi rfl am rfl rfl (HasVal.sel (v:=y)) (news:=[aY x.blk]) rfl fX iy eG gk am λT In=>?_);refine sA Z<|ap<|al<|aH (left.eraseIdx j,some (x.key,aY x.blk),bs++[x.blk],T) Fd (by show(left.eraseIdx j).length<left.length;rw[List.length_eraseIdx_of_lt wf];omega) bW ?_
  show Ent _ (eh jj O mp (gy S.tms) (gy (left.eraseIdx j)) (some (x.key,aY x.blk))::row 254 1 T (bs++[x.blk]).length ((bs++[x.blk]).map aY)::FG w S sl mp::kD sl S.bs::jg S.tms::U []::fr);rw[List.length_append,List.map_append];show Ent _ (eh jj O mp (gy S.tms) (gy (left.eraseIdx j)) (some (x.key,aY x.blk))::row 254 1 T (bs.length+1) (bs.map aY++[aY x.blk])::FG w S sl mp::kD sl S.bs::jg S.tms::U []::fr);exact aG
end Go.Y
namespace Go.SL
open Go.RowKit
section
variable{l:List HP}{ops:Array Oper}{fuel:Nat}{listed:Array Bool}{S:List (Nat×(World->Prop))}
def fq{ts':List (Nat×Value)}(e:ts=ts')(h:At E n D ts' l K):At E n D ts l K:=e▸h
def vk(j:Nat){o:Oper}{t:Nat}{b:Bool}(hi:ops[j]?=some o)(K:o.guard=some (i,b))(O:(ops[i]?).bind (·.dst)=some t)(T:look t ts=some (.bool b))(I:Region.ready .any ops listed=[j])
(h:At E n D ts l (λa w=>o.wp P a w (λY w'=>(∀p∈S,gQ ops j p.1=false->p.2 w')/\gt P ops (bP Q) fuel (listed.setIfInBounds j true) (S.filter λp=>!gQ ops j p.1) Y w') (bP Q))) :
 At E n D ts l (fH P ops (bP Q) (fuel+1) listed S):=λa w f hw _=>by
 refine⟨λh0=>(by rw[h0]at I;cases I),?_⟩;rw[I];intro k hk;simp at hk;subst hk;unfold wpOp;have J:Region.wanted o (yielded ops a.tmps)=true:=by simp[Region.wanted,K,yielded,O,f.get t _ T]
 simp only[hi,J,if_true];exact .inl (h a w f hw)
end
end Go.SL
namespace Go.Y
open Go.Proofs Tryz Go.RowKit Go.SL
abbrev dW(t:FR.Tmd):List Value:=[cd t.run,aA t.node,cd t.due]
abbrev zTmr:Value:=.agg #[cd 0,aA 0,cd 0]
theorem Fh:fm prog 129 zTmr 3 24:=by unfold fm;kernel_rfl
def Ae(x:Operand)(vs:List Value)(h:vs.length=3):Instr.fill (λi=>some (i*3,3)) (Array.map (λx=>zTmr.cells[x%zTmr.cells.size]!) (Array.range (1*3))) ((List.map (λx=>x.fst) [((0:Nat),x)]).zip [.agg vs.toArray])=some vs.toArray:=by
 have e1:Array.range (1*3)=#[0,1,2]:=rfl;rw[e1]
 match vs,h with
 | [v0,v1,v2],_=>simp[Instr.fill,Value.cells]
theorem GS{f:α->List Value}(I:∀x,(f x).length=3){l:List α}(hi:i<l.length)(s:α):lH (l.flatMap f) (0+i*3) (f s)=(l.set i s).flatMap f:=by
 refine rh I (by rw[iu,cV I,List.length_set]) λk x j u J K=>?_;have O:j<3:=by have:=(gfGet.1 K).1;rw[I]at this;exact this
 by_cases h:k=i
 ·subst h
  rw[List.getElem?_set_self hi]at J;injection J with J;subst J;rw[show k*3+j=(0+k*3)+j by omega];exact ou (f s) (l.flatMap f) (0+k*3) j u (by rw[cV I,I];omega) K
 ·rw[List.getElem?_set_ne (Ne.symm h)]at J
  rw[ki _ _ _ _ (by rw[I];omega)];exact fe I j J K
def tm_at(h:l[i]?=some x)(j:Nat)(u:Value)(I:(dW x)[j]?=some u):(l.flatMap dW)[0+i*3+j]?=some u:=by
 rw[Nat.zero_add];exact fe (k:=3) (λ_=>rfl) j h I
def nB(hi:i<l.length)(x:FR.Tmd):lH (l.flatMap dW) (0+i*3) (dW x)=(l.set i x).flatMap dW:=GS (λ_=>rfl) hi x
def lL:∀u∈dW x,u.oneCell'=true:=λv I=>by
 simp only[List.mem_cons,List.not_mem_nil,or_false]at I;rcases I with rfl|rfl|rfl<;>rfl
def um(a:Nat):dz G 210 [aU a] [] λv m=>v=.bool false/\m=[]:=by
 refine bz func210 Z λE fr I=>aW<|sS<|sB Z<|bp Z<|bY Z (cy (r:=false) Z Z di)<|sB Z<|an<|ar [] rfl Z ⟨rfl,rfl⟩ aQ
def Kx(a b:Nat):Int:=if a<b then -1 else if b<a then 1 else 0
def KT{a:Nat}:Kx a b<0<->a<b:=by unfold Kx;split<;>(try split)<;>omega
def yV(a b:Nat):dz G 170 [aU a,aU b] [] λv m=>v=aA (Kx a b)/\m=[]:=by
 refine bz func170 Z λE fr K=>aW<|sS<|sB Z<|bp Z<|bV Z (um a) aQ<|aW<|sB Z<|bp Z<|bV Z (um b) aQ<|aW<|sB Z<|sQ<|bp Z<|sN<|ag Z<|aa<|sT<|sQ<|bp Z<|sN<|ag Z<|aa<|sT<|sQ<|bp Z<|bY Z (bq Z Z Z)<|sN<|aC Z (λI=>?_) λI=>?_
 ·have h:a<b:=am;refine sS<|sB Z<|an<|aD<|ar [] rfl Z ⟨by unfold Kx;rw[if_pos h],rfl⟩ aQ
 ·refine aa<|sT<|sQ<|bp Z<|bY Z (dX Z Z Z)<|sN<|aC Z (λJ=>?_) λJ=>?_
  ·have h:b<a:=am;refine sS<|sB Z<|an<|aD<|ar [] rfl Z ⟨by unfold Kx;rw[if_neg am,if_pos h],rfl⟩ aQ
  ·refine aa<|sT<|sS<|sB Z<|an<|ar [] rfl Z ⟨by unfold Kx;rw[if_neg am,if_neg am],rfl⟩ aQ
def Hc(x y:FR.Tmd):dz G 169 [.agg (dW x).toArray,.agg (dW y).toArray] [] λv m=>v=aA (Kx x.due y.due)/\m=[]:=by
 refine bz func169 Z λE fr I=>aW<|sS<|sO (cP Z Z λJ=>(sO (cP Z Z λK=>(sB Z (sS (bm 2 Z (bF (au (v:=aU x.due) Z) (ah Z) (bm 2 Z (bF (au (v:=aU y.due) Z) (ah Z) (bV Z (yV x.due y.due) aQ (aW<|sB Z<|an<|ar [] rfl Z ⟨rfl,rfl⟩<|Ent.drop.trans Ent.drop)))))))))))
abbrev mJ:Value:=.func (.func 169) #[] #[]
abbrev sV(g c n:Nat):Value:=dQ g n c
abbrev ic(g c n:Nat)(l:List FR.Tmd):HP:=row 129 3 (sV g c n) n (l.flatMap dW)
def iG{g:Nat}{L:List HP}(s:Sel (ic g c n l) L r)(h:l[i]?=some x):∀w,Holds E w L->ie g (0+i*3) (dW x) w:=ne s (tm_at h)
def qO{g a:Nat}{P A M B Q:List FR.Tmd}(hP:P.length=a)(J:A.length=k)(K:B.length=k)(hM:a+k+M.length=b)(Y:(P++(A++(M++(B++Q)))).length=n)(hb:n<=100000) :
 dz G 273 [sV g c n,aA a,aA b,aA k,mJ] [ic g c n (P++(A++(M++(B++Q))))] λv m=>v=.tuple #[]/\m=[ic g c n (P++(B++(M++(A++Q))))]:=by
 have hl:=Y;simp only[List.length_append]at hl;refine bz func273 Z λE fr hE=>ae<|sS<|sB Z<|ai<|aO (X:=Nat) (λi=>[(10,aA i),(0,sV g c n),(1,aA a),(2,aA b),(3,aA k)]) (λi=>ic g c n (FR.gK P A M B Q i)::fr) (λi=>i<=k) (λi=>k-i) 0 (Nat.zero_le _) bW (by rw[FR.ym];exact aQ) ?_
 intro i hi;replace hi:i<=k:=hi;refine sQ<|bp Z<|bY Z (bq Z Z Z)<|sN<|aC Z (λO=>?_) λO=>?_
 ·have I:i<k:=am;obtain⟨x,hx⟩:∃x,A[i]?=some x:=⟨A[i],by simp[J,I]⟩;obtain⟨y,hy⟩:∃y,B[i]?=some y:=⟨B[i],by simp[K,I]⟩;obtain⟨h1,h2,h3⟩:=FR.yn (P:=P) (M:=M) (Q:=Q) (p:=a+i) (q:=b+i) (J.trans K.symm) hx hy am am;have d6:=(FR.AQ (P:=P) (M:=M) (Q:=Q) (i:=i) am (J.trans K.symm)).trans Y;refine aa<|sT<|sQ<|ai<|sZ Z<|ea Z Z<|cC Z Z<|cC Z Z<|bB Z (bH (r:=((a+i:Nat):Int)) Z Z ib)<|cC Z Z<|cC Z Z<|cC Z Z<|bB Z (bH (r:=((b+i:Nat):Int)) Z Z ib)<|cC Z Z<|cC Z Z<|cC Z Z<|bB Z (bH (r:=((b+i:Nat):Int)) Z Z ib)<|bB Z (aV (z:=3) Z Z Z Z am)<|bN Z (bR (vs:=dW y) Z) (iG .head h2)<|cC Z Z<|dx 15 Z (bg Z)<|cC Z Z<|bB Z (bH (r:=((a+i:Nat):Int)) Z Z ib)<|bB Z (aV (z:=3) Z Z Z Z am)<|bN Z (bR (vs:=dW x) Z) (iG .head h1)<|bB Z (aV (z:=3) Z Z Z Z am)<|dI 21 Z<|fD .head (k:=3) Z Z Z Z lL am ?_
  rw[nB am];refine dK [false,false] ak<|dx 22 Z (aV (z:=3) Z Z Z Z am)<|dI 23 Z<|fD .head (k:=3) Z Z Z Z lL am ?_
  rw[nB (by rw[List.length_set];omega),h3];refine dK [] ak<|dE<|al<|sT<|sG<|bY Z (dM Z Z)<|sA Z<|ap<|aH (i+1) I am bW aQ
 ·have T:i=k:=am;subst T;refine aM<|aw<|az<|aq<|dt [_] rfl ec (by rw[<-J,FR.AR (J.trans K.symm)];exact aQ)
def Bc{g a m:Nat}{fin:List FR.Tmd}(hr:FR.Rot l m (m-a) (b-m) fin)(h1:a<m)(h2:m<b)(hn:l.length=n)(Y:n<=100000) :
 dz G 264 [sV g c n,aA a,aA m,aA b,mJ] [ic g c n l] λv k=>v=.tuple #[]/\k=[ic g c n fin]:=by
 have d9:=hr.len;refine bz func264 Z λE fr hE=>ae<|bp Z<|bY Z (dd (r:=((m-a:Nat):Int)) Z Z ib)<|sB Z<|bp Z<|bY Z (dd (r:=((b-m:Nat):Int)) Z Z ib)<|sB Z<|sQ<|ai<|aO (X:=Nat×Nat×List FR.Tmd) (λx=>[(11,aA x.2.1),(10,aA x.1),(0,sV g c n),(2,aA m),(4,mJ)]) (λx=>ic g c n x.2.2::fr) (λx=>0<x.1/\0<x.2.1/\x.1<=m/\x.2.2.length=n/\FR.Rot x.2.2 m x.1 x.2.1 fin) (λx=>x.1+x.2.1) (m-a,b-m,l) ⟨Nat.sub_pos_of_lt h1,Nat.sub_pos_of_lt h2,Nat.sub_le _ _,hn,hr⟩ bW aQ ?_
 rintro⟨i,j,W⟩ ⟨hi,hj,I,J,T⟩;replace hi:0<i:=hi;replace hj:0<j:=hj;replace I:i<=m:=I;replace J:W.length=n:=J;replace T:FR.Rot W m i j fin:=T;have f7:=T.len;refine fq (ts':=[(11,aA j),(10,aA i),(0,sV g c n),(2,aA m),(4,mJ)]) Z<|ao (l':=ic g c n W::fr) aQ<|sQ<|bp Z<|bY Z (cy Z Z Z)<|sN<|aC Z (λd6=>?_) λd6=>?_
 ·have f8:i≠j:=am;refine aa<|sT<|ai<|bp Z<|bY Z (dX Z Z Z)<|sN<|aC Z (λd7=>?_) λd7=>?_
  ·have K:j<i:=am;obtain⟨P,A,M,B,Q,e1,e2,e3,e4,e5,e6⟩:=T.right K;subst e1;have O:(P++(B++(M++(A++Q)))).length=n:=by rw[<-J];simp only[List.length_append];omega
   refine bp Z<|sM Z<|bY Z (dd (r:=((P.length:Nat):Int)) Z Z ib)<|sM Z<|sM Z<|sM Z<|bV Z (qO (P:=P) (A:=A) (M:=M) (B:=B) (Q:=Q) Z e3 e4 am J Y) aQ<|ae<|sN<|sG<|sM Z<|bY Z (dd (r:=((i-j:Nat):Int)) Z Z ib)<|sA Z<|ap<|al<|aH (i-j,j,P++(B++(M++(A++Q)))) ⟨am,hj,am,O,e6⟩ (by show i-j+j<i+j;omega) bW aQ
  ·have K:i<j:=am;obtain⟨P,A,M,B,Q,e1,e2,e3,e4,e5,e6⟩:=T.left K;subst e1;have O:(P++(B++(M++(A++Q)))).length=n:=by rw[<-J];simp only[List.length_append];omega
   refine bp Z<|sM Z<|bY Z (dd (r:=((P.length:Nat):Int)) Z Z ib)<|sM Z<|bY Z (bH (r:=((m+j:Nat):Int)) Z Z ib)<|bY Z (dd (r:=((m+j-i:Nat):Int)) Z Z ib)<|sM Z<|sM Z<|bV Z (qO (P:=P) (A:=A) (M:=M) (B:=B) (Q:=Q) Z e3 e4 am J Y) aQ<|ae<|sN<|sG<|sM Z<|bY Z (dd (r:=((j-i:Nat):Int)) Z Z ib)<|sA Z<|ap<|al<|aH (i,j-i,P++(B++(M++(A++Q)))) ⟨hi,by show 0<j-i;omega,I,O,e6⟩ (by show i+(j-i)<i+j;omega) bW aQ
 ·have d8:i=j:=am;subst d8;obtain⟨P,A,B,Q,e1,e2,e3,e4,e5⟩:=T.same;subst e1;refine aM<|aw<|az<|aq<|sT<|sG<|sM Z<|sM Z<|bY Z (dd (r:=((P.length:Nat):Int)) Z Z ib)<|sM Z<|sM Z<|sM Z<|bV Z (qO (P:=P) (A:=A) (M:=[]) (B:=B) (Q:=Q) Z e3 e4 (by simp;omega) J Y) aQ<|ae<|ap<|dt [_] rfl ec (by rw[e5];exact aQ)
def EF(i n:Nat)(h:i<=n)(J:n<=100000):((IntKind.u64.wrap ((i+n:Nat):Int))).fdiv (2 ^ min ((1:Int)).toNat IntKind.u64.bits)=(((i+n)/2:Nat):Int):=by
 rw[li];have E:((i+n:Nat):Int)%18446744073709551616=((i+n:Nat):Int):=am;have I:(2:Int) ^ min ((1:Int)).toNat IntKind.u64.bits=2:=rfl;rw[E,I,Int.fdiv_eq_ediv_of_nonneg _ am];omega
def oR(x y:FR.Tmd):Does prog G 169 (#[]++[.agg (dW x).toArray,.agg (dW y).toArray].toArray++#[]) [] λv m=>v=aA (Kx x.due y.due)/\m=[]:=by
 have:=Hc (G:=G) x y;simpa using this
def tC{a:Nat}:decide (Kx a b<0)=decide (a<b):=decide_eq_decide.2 KT
def rX{g a:Nat}{P Q:List FR.Tmd}(hP:P.length=a)(hX:a+X.length=b)(hn:(P++(X++Q)).length=n)(hb:n<=100000)(hs:X.Pairwise λx y=>x.seq<y.seq) :
 dz G 239 [sV g c n,aA a,aA b,mJ] [ic g c n (P++(X++Q))] λv m=>v=.tuple #[]/\∃Y,FR.Srt X Y/\m=[ic g c n (P++(Y++Q))]:=by
 have hl:=hn;simp only[List.length_append]at hl;refine bz func239 Z λE fr hE=>ae<|bp Z<|sP (dM Z Z)<|sB Z<|ai<|aO (X:=Nat×List FR.Tmd) (λx=>[(8,aA (a+x.1:Nat)),(0,sV g c n),(1,aA a),(2,aA b),(3,mJ)]) (λx=>ic g c n x.2::fr) (λx=>(x.1<=X.length\/x.1=1)/\x.2.length=n/\FR.InsI P X Q x.1 x.2) (λx=>X.length-x.1) (1,P++(X++Q)) ⟨.inr Z,hn,FR.InsI.first P X Q⟩ bW aQ ?_
 rintro⟨k,W⟩ ⟨hk,I,hI⟩;replace hk:k<=X.length\/k=1:=hk;replace I:W.length=n:=I;replace hI:FR.InsI P X Q k W:=hI;refine fq (ts':=[(8,aA (a+k:Nat)),(0,sV g c n),(1,aA a),(2,aA b),(3,mJ)]) Z<|ao (l':=ic g c n W::fr) aQ<|sQ<|bp Z<|bY Z (bq Z Z Z)<|sN<|aC Z (λd6=>?_) λd6=>?_
 ·have K:k<X.length:=am;obtain⟨x,T⟩:∃x,X[k]?=some x:=⟨X[k],by simp[K]⟩;refine aa<|sT<|sQ<|ai<|bp Z<|sB Z<|ai<|aO (X:=Nat×List FR.Tmd) (λx=>[(9,aA x.1),(8,aA (a+k:Nat)),(0,sV g c n),(1,aA a),(2,aA b),(3,mJ)]) (λx=>ic g c n x.2::fr) (λy=>y.2.length=n/\FR.InsJ P X Q k y.1 x y.2) (λx=>x.1) (a+k,W) ⟨I,hP▸hI.start T⟩ bW aQ ?_
  rintro⟨j,W⟩ ⟨I,O⟩;replace I:W.length=n:=I;replace O:FR.InsJ P X Q k j x W:=O;refine fq (ts':=[(9,aA j),(8,aA (a+k:Nat)),(0,sV g c n),(1,aA a),(2,aA b),(3,mJ)]) Z<|ao (l':=ic g c n W::fr) aQ ?_
  obtain⟨g1,g2⟩:=O.at
  have d7:=(O.len T).2;refine sQ<|sQ ?_
  by_cases hA:a<j
  ·obtain⟨z,g3,g4,g5⟩:=g2 am;refine sZ Z<|ea Z Z<|cC Z Z<|bB Z (iT Z Z am)<|cC Z Z<|dT 4 Z (bg Z)<|dT 5 Z (bg Z)<|dT 6 Z (bg Z)<|dT 7 Z (aV (z:=3) Z Z Z Z am)<|oW 8 Z (bR (vs:=dW x) Z) (iG .head g1)<|dT 9 Z (bg Z)<|dT 10 Z (bg Z)<|dT 11 Z (dd (r:=((j-1:Nat):Int)) Z Z ib)<|dT 12 Z (aV (z:=3) Z Z Z Z am)<|oW 13 Z (bR (vs:=dW z) Z) (iG .head g3)<|vk 14 Z Z Z Z eS<|iR Z Z Z Z hE (oR x z) aQ ?_
   rintro v m ⟨rfl,rfl⟩;refine aW<|dK [false,false] ak<|dT 15 Z (bq (r:=decide (x.due<z.due)) Z Z tC)<|bB Z (aF Z Z Z)<|dE<|sT<|aC Z (λJ=>?_) λJ=>?_
   ·refine aa<|sT<|sQ<|ai<|sZ Z<|ea Z Z<|cC Z Z<|cC Z Z<|cC Z Z<|bB Z (dd (r:=((j-1:Nat):Int)) Z Z ib)<|cC Z Z<|cC Z Z<|bB Z (dd (r:=((j-1:Nat):Int)) Z Z ib)<|bB Z (aV (z:=3) Z Z Z Z am)<|bN Z (bR (vs:=dW z) Z) (iG .head g3)<|cC Z Z<|cC Z Z<|bB Z (aV (z:=3) Z Z Z Z am)<|bN Z (bR (vs:=dW x) Z) (iG .head g1)<|bB Z (aV (z:=3) Z Z Z Z am)<|dI 15 Z<|fD .head (k:=3) Z Z Z Z lL am ?_
    rw[nB am];refine dK [false,false] ak<|dx 16 Z (aV (z:=3) Z Z Z Z am)<|dI 17 Z<|fD .head (k:=3) Z Z Z Z lL am ?_
    rw[nB (by rw[List.length_set];omega)];refine dK [] ak<|dE<|al<|sT<|sG<|bY Z (dd (r:=((j-1:Nat):Int)) Z Z ib)<|sA Z<|ap<|aH (j-1,(W.set j z).set (j-1) x) ⟨by simp[I],g5 J⟩ (by show j-1<j;omega) bW aQ
   ·refine aM<|aw<|az<|aq<|al<|sT<|sG<|bY Z (bH (r:=((a+(k+1):Nat):Int)) Z Z ib)<|sA Z<|ap<|aH (k+1,W) ⟨.inl K,I,O.fin T hs λ_ z' e=>by rw[g3]at e;injection e with e;subst e;exact J⟩ (by show X.length-(k+1)<X.length-k;omega) bW aQ
  ·refine sZ Z<|ea Z Z<|cC Z Z<|bB Z (mN Z Z am)<|cC Z Z<|dZ 4 Z Z<|dZ 5 Z Z<|dZ 6 Z Z<|dZ 7 Z Z<|dZ 8 Z Z<|dZ 9 Z Z<|dZ 10 Z Z<|dZ 11 Z Z<|dZ 12 Z Z<|dZ 13 Z Z<|dZ 14 Z Z<|dZ 15 Z Z<|bB Z (aF Z Z Z)<|dE<|sT<|ag Z<|aM<|aw<|az<|aq<|al<|sT<|sG<|bY Z (bH (r:=((a+(k+1):Nat):Int)) Z Z ib)<|sA Z<|ap<|aH (k+1,W) ⟨.inl K,I,O.fin T hs λh=>by omega⟩ (by show X.length-(k+1)<X.length-k;omega) bW aQ
 ·obtain⟨Y,e,s⟩:=hI.fin am;refine aM<|aw<|az<|aq<|dt [_] rfl ⟨rfl,Y,s,rfl⟩ (by rw[e];exact aQ)
def H4(G:Env->Prop)(N:Nat):Prop:=∀{g c n a m b:Nat} {P L R Q l:List FR.Tmd},b-a<=N->FR.Mrg P L R Q l a m b->a<m->m<b->l.length=n->n<=100000->
 dz G 240 [sV g c n,aA a,aA m,aA b,mJ] [ic g c n l] λv k=>v=.tuple #[]/\∃Y,FR.Srt (L++R) Y/\k=[ic g c n (P++(Y++Q))]
theorem NG{P A Q:List FR.Tmd}{y:FR.Tmd}{p:Nat}(E:A[j]?=some y)(O:P.length+j=p) :
 (P++(A.take j++x::(A.drop j++Q)))[p]?=some x/\(P++(A.take j++x::(A.drop j++Q)))[p+1]?=some y/\((P++(A.take j++x::(A.drop j++Q))).set p y).set (p+1) x=P++(A.take (j+1)++x::(A.drop (j+1)++Q)):=by
 obtain⟨I,e1⟩:=gfGet.1 E;have J:A.drop j=y::A.drop (j+1):=by rw[List.drop_eq_getElem_cons I,e1]
 have K:A.take (j+1)=A.take j++[y]:=by rw[List.take_add_one,E];rfl
 have k:=FR.xG (U:=P++A.take j) (V:=[]) (W:=A.drop (j+1)++Q) (x:=x) (y:=y) (p:=p) (q:=p+1) (by rw[List.length_append,List.length_take];omega) rfl;rw[J,K];simpa using k
def Kl{P B Q:List FR.Tmd}{y:FR.Tmd}{p q:Nat}(E:B[j]?=some y)(T:P.length+j=p)(I:q=p+1) :
 (P++(B.take (j+1)++x::(B.drop (j+1)++Q)))[p]?=some y/\(P++(B.take (j+1)++x::(B.drop (j+1)++Q)))[q]?=some x/\((P++(B.take (j+1)++x::(B.drop (j+1)++Q))).set q y).set p x=P++(B.take j++x::(B.drop j++Q)):=by
 subst I;obtain⟨J,e1⟩:=gfGet.1 E;have K:B.drop j=y::B.drop (j+1):=by rw[List.drop_eq_getElem_cons J,e1]
 have O:B.take (j+1)=B.take j++[y]:=by rw[List.take_add_one,E];rfl
 have k:=FR.xG (U:=P++B.take j) (V:=[]) (W:=B.drop (j+1)++Q) (x:=y) (y:=x) (p:=p) (q:=p+1) (by rw[List.length_append,List.length_take];omega) rfl;rw[K,O,List.set_comm _ _ am];simpa using k
def Io(h:l.length=1):∃x,l=[x]:=by
 match l,h with
 | [x],_=>exact⟨x,rfl⟩
abbrev sr(g c n a m b:Nat):List (Nat×Value):=[(0,sV g c n),(1,aA a),(2,aA m),(3,aA b),(4,mJ)]
theorem IR{N:Nat}(ih:H4 G N):H4 G (N+1):=by
 intro g c n a m b P U V Q l hN I Od Oe hn hb;have Of:=I.len;have N3:=I.hP;have N4:=I.hL;have Og:=I.hR;refine bz func240 Z λE fr hE=>ae<|sQ<|bp Z<|bY Z (dd (r:=((m-a:Nat):Int)) Z Z ib)<|sP (bc Z Z Z)<|sN ?_
 refine aC Z (λNX=>?_) λNX=>?_
 ·obtain⟨x,rfl⟩:=Io (l:=U) am;obtain rfl:m=a+1:=am;have hx:l[a]?=some x:=by obtain⟨y,e1,e2⟩:=I.left (cx a) am;simp at e2;subst e2;exact e1
  refine bp Z<|sB Z<|bp Z<|sB Z<|sQ<|ai ?_
  refine aO (X:=Nat×Nat) (λx=>(11,aA x.2)::(10,aA x.1)::sr g c n a (a+1) b) (λ_=>ic g c n l::fr) (λy=>FR.Put1 P V Q l x a b y.1 y.2) (λx=>x.2-x.1) (a+1,b) (FR.Put1.init am) bW aQ ?_;rintro⟨i,j⟩ hI;replace hI:FR.Put1 P V Q l x a b i j:=hI;have i1:=hI.i1;have i2:=hI.i2;have i3:=hI.i3;refine fq (ts':=(11,aA j)::(10,aA i)::sr g c n a (a+1) b) Z<|sQ<|bp Z<|bY Z (bq Z Z Z)<|sN ?_
  refine aC Z (λNY=>?_) λNY=>?_
  ·have N5:i<j:=am;obtain⟨h,hh⟩:∃h,h=(i+j)/2:=⟨_,rfl⟩;obtain⟨y,J,_⟩:=I.right (i:=h) am am;refine aa<|sT<|ai<|bp Z<|bY Z (bH (r:=((i+j:Nat):Int)) Z Z ib)<|sP (cD Z Z Z Z) ?_
   refine sP (gH (r:=(h:Int)) Z Z am (by rw[hh];exact EF i j am am)) ?_;refine sP (cD (r:=(h:Int)) Z Z Z (iP am))<|sB Z<|sQ<|sZ Z<|ea Z Z<|cC Z Z<|cC Z Z<|bB Z (aV (z:=3) Z Z Z Z am)<|bN Z (bR (vs:=dW y) Z) (iG .head J)<|cC Z Z<|cC Z Z<|bB Z (aV (z:=3) Z Z Z Z am)<|bN Z (bR (vs:=dW x) Z) (iG .head hx) ?_
   refine dI 9 Z<|iR Z Z Z Z hE (oR y x) aQ ?_
   rintro v m ⟨rfl,rfl⟩;refine aW<|dK [false,false] ak<|dx 10 Z (bq (r:=decide (y.due<x.due)) Z Z tC)<|dE<|sT ?_
   refine aC Z (λIn=>?_) λIn=>?_
   ·refine sG<|bY Z (dM Z Z)<|sA Z<|ap<|al ?_
    exact aH (h+1,j) (hI.up I am am J In) (by show j-(h+1)<j-i;omega) bW aQ
   ·refine sG<|sM Z<|sA Z<|ap<|al ?_
    exact aH (i,h) (hI.down I am am J In) (by show h-i<j-i;omega) bW aQ
  ·obtain rfl:i=j:=am;obtain⟨A,B,rfl,hA,hS⟩:=hI.fin I;obtain rfl:l=P++(x::(A++(B++Q))):=by rw[I.is];simp
   refine aM<|aw<|az<|aq<|sT<|sQ<|bp Z<|sB Z<|ai ?_
   refine aO (X:=Nat) (λk=>(13,aA (a+k:Nat))::(10,aA i)::sr g c n a (a+1) b) (λk=>ic g c n (P++(A.take k++x::(A.drop k++(B++Q))))::fr) (λk=>k<=A.length) (λk=>A.length-k) 0 (Nat.zero_le _) bW aQ ?_;intro k hk;replace hk:k<=A.length:=hk;refine sQ<|bp Z<|bY Z (dd (r:=((i-1:Nat):Int)) Z Z ib)<|sP (bq Z Z Z)<|sN ?_
   refine aC Z (λNZ=>?_) λNZ=>?_
   ·have f9:k<A.length:=am;obtain⟨y,J⟩:∃y,A[k]?=some y:=⟨A[k],by simp[f9]⟩;obtain⟨k1,k2,k3⟩:=NG (P:=P) (Q:=B++Q) (x:=x) (p:=a+k) J am;have N6:(P++(A.take k++x::(A.drop k++(B++Q)))).length=n:=by rw[<-hn];simp;omega
    refine aa<|sT<|sQ<|ai<|sZ Z<|ea Z Z<|cC Z Z<|cC Z Z<|cC Z Z<|bB Z (bH (r:=((a+k+1:Nat):Int)) Z Z ib)<|cC Z Z<|cC Z Z<|bB Z (bH (r:=((a+k+1:Nat):Int)) Z Z ib)<|bB Z (aV (z:=3) Z Z Z Z am)<|bN Z (bR (vs:=dW y) Z) (iG .head k2)<|cC Z Z<|cC Z Z<|bB Z (aV (z:=3) Z Z Z Z am)<|bN Z (bR (vs:=dW x) Z) (iG .head k1)<|bB Z (aV (z:=3) Z Z Z Z am) ?_
    refine dI 15 Z<|fD .head (k:=3) Z Z Z Z lL am ?_
    rw[nB am];refine dK [false,false] ak<|dx 16 Z (aV (z:=3) Z Z Z Z am) ?_
    refine dI 17 Z<|fD .head (k:=3) Z Z Z Z lL am ?_
    rw[nB (by rw[List.length_set];omega),k3];refine dK [] ak<|dE<|al<|sT<|sG<|bY Z (bH (r:=((a+(k+1):Nat):Int)) Z Z ib)<|sA Z<|ap ?_
    exact aH (k+1) f9 am bW aQ
   ·obtain rfl:k=A.length:=am;refine aM<|aw<|az<|aq<|sT<|an<|aD ?_
    exact dt [_] rfl ⟨rfl,_,hS,rfl⟩ (by rw[List.take_length,List.drop_length];simp only[List.nil_append,List.append_assoc,List.cons_append];exact aQ)
 ·refine aa<|sT<|sQ<|bp Z<|bY Z (dd (r:=((b-m:Nat):Int)) Z Z ib)<|sP (bc Z Z Z)<|sN ?_
  refine aC Z (λN0=>?_) λN0=>?_
  ·obtain⟨x,rfl⟩:=Io (l:=V) am;obtain rfl:b=m+1:=am;have hx:l[m]?=some x:=by obtain⟨y,e1,e2⟩:=I.right (cx m) am;simp at e2;subst e2;exact e1
   refine bp Z<|sB Z<|bp Z<|sB Z<|sQ<|ai ?_
   refine aO (X:=Nat×Nat) (λx=>(15,aA x.2)::(14,aA x.1)::sr g c n a m (m+1)) (λ_=>ic g c n l::fr) (λy=>FR.Put2 P U Q l x a m y.1 y.2) (λx=>x.2-x.1) (a,m) (FR.Put2.init am) bW aQ ?_;rintro⟨i,j⟩ hI;replace hI:FR.Put2 P U Q l x a m i j:=hI;have i1:=hI.i1;have i2:=hI.i2;have i3:=hI.i3;refine fq (ts':=(15,aA j)::(14,aA i)::sr g c n a m (m+1)) Z<|sQ<|bp Z<|bY Z (bq Z Z Z)<|sN ?_
   refine aC Z (λN1=>?_) λN1=>?_
   ·have N5:i<j:=am;obtain⟨h,hh⟩:∃h,h=(i+j)/2:=⟨_,rfl⟩;obtain⟨y,J,_⟩:=I.left (i:=h) am am;refine aa<|sT<|ai<|bp Z<|bY Z (bH (r:=((i+j:Nat):Int)) Z Z ib)<|sP (cD Z Z Z Z) ?_
    refine sP (gH (r:=(h:Int)) Z Z am (by rw[hh];exact EF i j am am)) ?_;refine sP (cD (r:=(h:Int)) Z Z Z (iP am))<|sB Z<|sQ<|sZ Z<|ea Z Z<|cC Z Z<|cC Z Z<|bB Z (aV (z:=3) Z Z Z Z am)<|bN Z (bR (vs:=dW x) Z) (iG .head hx)<|cC Z Z<|cC Z Z<|bB Z (aV (z:=3) Z Z Z Z am)<|bN Z (bR (vs:=dW y) Z) (iG .head J) ?_
    refine dI 9 Z<|iR Z Z Z Z hE (oR x y) aQ ?_
    rintro v m ⟨rfl,rfl⟩;refine aW<|dK [false,false] ak<|dx 10 Z (bq (r:=decide (x.due<y.due)) Z Z tC)<|bB Z (cA (r:=decide (¬x.due<y.due)) Z (decide_not).symm)<|dE<|sT ?_
    refine aC Z (λd7=>?_) λd7=>?_
    ·refine sG<|bY Z (dM Z Z)<|sA Z<|ap<|al ?_
     exact aH (h+1,j) (hI.up I am am J d7) (by show j-(h+1)<j-i;omega) bW aQ
    ·refine sG<|sM Z<|sA Z<|ap<|al ?_
     exact aH (i,h) (hI.down I am am J (Decidable.not_not.1 d7)) (by show h-i<j-i;omega) bW aQ
   ·obtain rfl:i=j:=am;obtain⟨A,B,rfl,hA,hS⟩:=hI.fin I;rw[List.length_append]at N4;obtain rfl:l=(P++A)++(B++x::Q):=by rw[I.is];simp
    refine aM<|aw<|az<|aq<|sT<|sQ<|bp Z<|sB Z<|ai ?_
    refine aO (X:=Nat) (λk=>(17,aA (i+k:Nat))::(14,aA i)::sr g c n a m (m+1)) (λk=>ic g c n ((P++A)++(B.take k++x::(B.drop k++Q)))::fr) (λk=>k<=B.length) (λk=>k) B.length (cx _) ⟨by rw[show i+B.length=m by omega];rfl,rfl,rfl,rfl,rfl,rfl,rfl,trivial⟩ (by rw[List.take_length,List.drop_length];exact aQ) ?_;intro k hk;replace hk:k<=B.length:=hk;refine sQ<|bp Z<|bY Z (dX Z Z Z)<|sN ?_
    refine aC Z (λNT=>?_) λNT=>?_
    ·obtain⟨k,rfl⟩:∃k',k=k'+1:=⟨k-1,am⟩;have f9:k<B.length:=am;obtain⟨y,J⟩:∃y,B[k]?=some y:=⟨B[k],by simp[f9]⟩;obtain⟨k1,k2,k3⟩:=Kl (P:=P++A) (Q:=Q) (x:=x) (p:=i+k) (q:=i+(k+1)) J (by simp;omega) rfl;have N6:((P++A)++(B.take (k+1)++x::(B.drop (k+1)++Q))).length=n:=by rw[<-hn];simp;omega
     refine aa<|sT<|sQ<|ai<|sZ Z<|ea Z Z<|cC Z Z<|cC Z Z<|cC Z Z<|bB Z (dd (r:=((i+k:Nat):Int)) Z Z ib)<|cC Z Z<|cC Z Z<|bB Z (dd (r:=((i+k:Nat):Int)) Z Z ib)<|bB Z (aV (z:=3) Z Z Z Z am)<|bN Z (bR (vs:=dW y) Z) (iG .head k1)<|cC Z Z<|cC Z Z<|bB Z (aV (z:=3) Z Z Z Z am)<|bN Z (bR (vs:=dW x) Z) (iG .head k2)<|bB Z (aV (z:=3) Z Z Z Z am) ?_
     refine dI 15 Z<|fD .head (k:=3) Z Z Z Z lL am ?_
     rw[nB am];refine dK [false,false] ak<|dx 16 Z (aV (z:=3) Z Z Z Z am) ?_
     refine dI 17 Z<|fD .head (k:=3) Z Z Z Z lL am ?_
     rw[nB (by rw[List.length_set];omega),k3];refine dK [] ak<|dE<|al<|sT<|sG<|bY Z (dd (r:=((i+k:Nat):Int)) Z Z ib)<|sA Z<|ap ?_
     exact aH k am am bW aQ
    ·obtain rfl:k=0:=am;refine aM<|aw<|az<|aq<|sT<|an<|aD ?_
     exact dt [_] rfl ⟨rfl,_,hS,rfl⟩ (by simp only[List.take_zero,List.drop_zero,List.nil_append,List.append_assoc,List.cons_append];exact aQ)
  ·refine aa<|sT<|sQ ?_
   obtain⟨lh,NW⟩:∃lh,lh=(a+b)/2:=⟨_,rfl⟩;refine sG<|sM Z<|bY Z (bH (r:=((a+b:Nat):Int)) Z Z ib)<|sP (cD Z Z Z Z) ?_
   refine sP (gH (r:=(lh:Int)) Z Z am (by rw[NW];exact EF a b am am)) ?_;refine sP (cD (r:=(lh:Int)) Z Z Z (iP am))<|sB Z<|bp Z<|bY Z (bH (r:=((lh+m:Nat):Int)) Z Z ib)<|sB Z<|sS<|sA Z<|sB Z ?_
   refine sQ<|cu (X:=Nat×Nat) (λx=>(21,aA x.2)::(20,aA x.1)::(19,aA (lh+m:Nat))::(18,aA lh)::sr g c n a m b) (λ_=>ic g c n l::fr) (λx=>FR.Cut l a m b (lh+m) x.1 x.2) ?_ ?_
   ·refine bp Z<|bY Z (dX Z Z Z)<|sN ?_
    refine aC Z (λNU=>?_) λNU=>?_
    ·refine bp Z<|bY Z (dd (r:=((lh+m-b:Nat):Int)) Z Z ib)<|sB Z<|sG<|sM Z<|sA Z<|ap ?_
     exact aT (lh+m-b,lh) (FR.Cut.init am am am am am (.inr am) (.inr am)) bW aQ
    ·refine bp Z<|sB Z<|sG<|sM Z<|sA Z<|ap ?_
     exact aT (a,m) (FR.Cut.init am am am am am (.inl Z) (.inl Z)) bW aQ
   rintro⟨s0,r0⟩ LE;replace LE:FR.Cut l a m b (lh+m) s0 r0:=LE;refine fq (ts':=(21,aA r0)::(20,aA s0)::(19,aA (lh+m:Nat))::(18,aA lh)::sr g c n a m b) Z<|bp Z<|sP (dd (r:=((lh+m-1:Nat):Int)) Z Z ib)<|sB Z<|sQ<|ai ?_
   refine aO (X:=Nat×Nat) (λx=>(22,aA (lh+m-1:Nat))::(21,aA x.2)::(20,aA x.1)::(19,aA (lh+m:Nat))::(18,aA lh)::sr g c n a m b) (λ_=>ic g c n l::fr) (λx=>FR.Cut l a m b (lh+m) x.1 x.2) (λx=>x.2-x.1) (s0,r0) LE bW aQ ?_;rintro⟨s,r⟩ hC;replace hC:FR.Cut l a m b (lh+m) s r:=hC;refine fq (ts':=(22,aA (lh+m-1:Nat))::(21,aA r)::(20,aA s)::(19,aA (lh+m:Nat))::(18,aA lh)::sr g c n a m b) Z ?_;have s1:=hC.s1;have s2:=hC.s2;have s3:=hC.s3;have s4:=hC.s4;have s5:=hC.s5;refine sQ<|bp Z<|bY Z (bq Z Z Z)<|sN ?_
   refine aC Z (λNV=>?_) λNV=>?_
   ·have Oh:s<r:=am;obtain⟨h,hh⟩:∃h,h=(s+r)/2:=⟨_,rfl⟩;obtain⟨x,y,hx,J,_,_⟩:=hC.pair I (h:=h) am am;refine aa<|sT<|ai<|bp Z<|bY Z (bH (r:=((s+r:Nat):Int)) Z Z ib)<|sP (cD Z Z Z Z) ?_
    refine sP (gH (r:=(h:Int)) Z Z am (by rw[hh];exact EF s r am am)) ?_;refine sP (cD (r:=(h:Int)) Z Z Z (iP am))<|sB Z<|sQ<|sZ Z<|ea Z Z<|cC Z Z<|cC Z Z<|cC Z Z<|bB Z (dd (r:=((lh+m-1-h:Nat):Int)) Z Z ib)<|bB Z (aV (z:=3) Z Z Z Z am)<|bN Z (bR (vs:=dW y) Z) (iG .head J)<|cC Z Z<|cC Z Z<|bB Z (aV (z:=3) Z Z Z Z am)<|bN Z (bR (vs:=dW x) Z) (iG .head hx) ?_
    refine dI 11 Z<|iR Z Z Z Z hE (oR y x) aQ ?_
    rintro v m ⟨rfl,rfl⟩;refine aW<|dK [false,false] ak<|dx 12 Z (bq (r:=decide (y.due<x.due)) Z Z tC)<|bB Z (cA (r:=decide (¬y.due<x.due)) Z (decide_not).symm)<|dE<|sT ?_
    refine aC Z (λd8=>?_) λd8=>?_
    ·refine sG<|bY Z (dM Z Z)<|sA Z<|ap<|al ?_
     exact aH (h+1,r) (hC.up I am am hx J d8) (by show r-(h+1)<r-s;omega) bW aQ
    ·refine sG<|sM Z<|sA Z<|ap<|al ?_
     exact aH (s,h) (hC.down I am am hx J (Decidable.not_not.1 d8)) (by show h-s<r-s;omega) bW aQ
   ·obtain rfl:s=r:=am;obtain⟨e,he⟩:∃e,e=lh+m-s:=⟨_,rfl⟩;obtain⟨L1,L2,R1,R2,hH⟩:=hC.fin I;rw[<-he]at hH;obtain⟨eL,eR,l1,l2,l3,l4,hJ⟩:=hH;have el:l=P++(L1++(L2++(R1++(R2++Q)))):=by rw[I.is,eL,eR];simp
    have Oi:a+L1.length+R1.length=lh:=am;have sL:=I.sL;have sR:=I.sR;have bf:=I.bf;rw[eL,List.pairwise_append]at sL;rw[eR,List.pairwise_append]at sR;obtain⟨l',d6⟩:∃l',l'=P++(L1++(R1++(L2++(R2++Q)))):=⟨_,rfl⟩;have Fd:l'.length=n:=by rw[<-hn,el,d6];simp only[List.length_append];omega
    have M1:FR.Mrg P L1 R1 (L2++(R2++Q)) l' a s lh:=⟨d6,N3,l1,am,sL.1,sR.1,λx hx y J=>bf x (by rw[eL];exact List.mem_append_left _ hx) y (by rw[eR];exact List.mem_append_left _ J)⟩;refine aM<|aw<|az<|aq<|sT<|bp Z<|bY Z (dd (r:=(e:Int)) Z Z ib)<|sB Z ?_
    refine sQ<|cu (X:=Unit) (λ_=>(24,aA e)::(20,aA s)::(18,aA lh)::sr g c n a m b) (λ_=>ic g c n l'::fr) (λ_=>True) ?_ ?_
    ·refine bp Z<|sM Z (cj Z (bq Z Z Z) dp λd9 mt=>(sM Z ?_))
     refine bK d9 (by rfl) ?_;refine cz Z Z (λ_=>rfl) (bg Z) dp ?_;refine bK d9 (by rfl) ?_;refine cz Z Z (λ_=>rfl) (bg Z) dp ?_;refine bK d9 (by rfl) ?_;refine cz Z Z (λ_=>rfl) (bq Z Z Z) dp ?_;refine cj Z (dV Z Z Z) dp λOa t6=>sN ?_;refine cf Z (λK=>?_) λK=>?_
     ·rw[t6,mt]at K;have h1:s<m/\m<e:=by simpa using K
      refine sG<|sM Z<|sM Z<|sM Z<|sM Z<|sM Z ?_
      refine bV Z (Bc (a:=s) (m:=m) (b:=e) (fin:=l') ⟨P++L1,L2,R1,R2++Q,by rw[el];simp,by simp;omega,am,am,by rw[d6];simp⟩ h1.1 h1.2 hn hb) aQ ?_;exact ae<|ap<|aT () trivial bW aQ
     ·rw[t6,mt]at K;have N7:l=l':=by
       have h1:¬(s<m/\m<e):=by simpa using K
       rw[el,d6];rcases Nat.lt_or_ge s m with h|h
       ·obtain rfl:R1=[]:=List.eq_nil_of_length_eq_zero am
        simp
       ·obtain rfl:L2=[]:=List.eq_nil_of_length_eq_zero am
        simp
      refine aa ?_;exact aT () trivial bW (by rw[N7];exact aQ)
    intro _ _;refine sQ<|cu (X:=List FR.Tmd) (λ_=>(24,aA e)::(20,aA s)::(18,aA lh)::sr g c n a m b) (λY=>ic g c n (P++(Y++(L2++(R2++Q))))::fr) (λY=>FR.Srt (L1++R1) Y) ?_ ?_
    ·refine bp Z<|sM Z (cj Z (bq Z Z Z) dp λf7 t7=>(sM Z ?_))
     refine bK f7 (by rfl) ?_;refine cz Z Z (λ_=>rfl) (bg Z) dp ?_;refine bK f7 (by rfl) ?_;refine cz Z Z (λ_=>rfl) (bg Z) dp ?_;refine bK f7 (by rfl) ?_;refine cz Z Z (λ_=>rfl) (bq Z Z Z) dp ?_;refine cj Z (dV Z Z Z) dp λOb t8=>sN ?_;refine cf Z (λO=>?_) λO=>?_
     ·rw[t8,t7]at O;have h1:a<s/\s<lh:=by simpa using O
      refine sG<|sM Z<|sM Z<|sM Z<|sM Z<|sM Z ?_
      refine bQ Z (ih am M1 h1.1 h1.2 Fd hb) aQ ?_;rintro v m ⟨rfl,Y,hY,rfl⟩;exact ae<|ap<|aT Y hY bW aQ
     ·rw[t8,t7]at O;have h1:¬(a<s/\s<lh):=by simpa using O
      refine aa ?_;refine aT (L1++R1) (FR.Srt.refl ?_) bW (by rw[d6];simp only[List.append_assoc];exact aQ);rcases Nat.lt_or_ge a s with h|h
      ·obtain rfl:R1=[]:=List.eq_nil_of_length_eq_zero am
       simpa using sL.1
      ·obtain rfl:L1=[]:=List.eq_nil_of_length_eq_zero am
       simpa using sR.1
    intro Y1 LT;have N8:=LT.len;rw[List.length_append]at N8;have M2:FR.Mrg (P++Y1) L2 R2 Q (P++(Y1++(L2++(R2++Q)))) lh e b:=⟨by simp,by simp;omega,am,am,sL.2.1,sR.2.1,λx hx y J=>bf x (by rw[eL];exact List.mem_append_right _ hx) y (by rw[eR];exact List.mem_append_right _ J)⟩;have N9:(P++(Y1++(L2++(R2++Q)))).length=n:=by rw[<-Fd,d6];simp only[List.length_append];omega
    refine bp Z<|sM Z (cj Z (bq Z Z Z) dp λf8 wf=>(sM Z ?_))
    refine bK f8 (by rfl) ?_;refine cz Z Z (λ_=>rfl) (bg Z) dp ?_;refine bK f8 (by rfl) ?_;refine cz Z Z (λ_=>rfl) (bg Z) dp ?_;refine bK f8 (by rfl) ?_;refine cz Z Z (λ_=>rfl) (bq Z Z Z) dp ?_;refine cj Z (dV Z Z Z) dp λOc BT=>sN ?_;refine cf Z (λT=>?_) λT=>?_
    ·rw[BT,wf]at T;have h1:lh<e/\e<b:=by simpa using T
     refine sG<|sM Z<|sM Z<|sM Z<|sM Z<|sM Z ?_
     refine bQ Z (ih am M2 h1.1 h1.2 N9 hb) aQ ?_;rintro v m ⟨rfl,Y2,N2,rfl⟩;refine ae<|ap ?_
     exact dt [_] rfl ⟨rfl,Y1++Y2,hJ Y1 Y2 LT N2,rfl⟩ (by simp only[List.append_assoc];exact aQ)
    ·rw[BT,wf]at T;have h1:¬(lh<e/\e<b):=by simpa using T
     refine aa ?_;refine dt [_] rfl ⟨rfl,Y1++(L2++R2),hJ Y1 (L2++R2) LT (FR.Srt.refl ?_),rfl⟩ (by simp only[List.append_assoc];exact aQ);rcases Nat.lt_or_ge lh e with h|h
     ·obtain rfl:R2=[]:=List.eq_nil_of_length_eq_zero am
      simpa using sL.2.1
     ·obtain rfl:L2=[]:=List.eq_nil_of_length_eq_zero am
      simpa using sR.2.1
def lZ:∀N,H4 G N
 |0=>λh _ E I=>by omega
 |N+1=>IR (lZ N)
abbrev Mx(g c n:Nat):List (Nat×Value):=[(0,sV g c n),(1,aA n),(2,mJ)]
theorem AS{g:Nat}(hX:X.length=n)(hb:n<=100000)(hs:FR.Seqs X) :
 dz G 209 [sV g c n,aA n,mJ] [ic g c n X] λv m=>v=.tuple #[]/\∃Y,FR.Srt X Y/\m=[ic g c n Y]:=by
 refine bz func209 Z λE fr hE=>ae<|sS<|sB Z<|bp Z<|sA Z<|sB Z<|sQ<|ai<|aO (X:=Nat×List FR.Tmd×List FR.Tmd) (λx=>(8,aA (x.1+20:Nat))::(7,aA x.1)::(6,aA 20)::Mx g c n) (λx=>ic g c n x.2.1::fr) (λx=>x.2.1.length=n/\FR.BlkTo 20 X x.2.1 x.1 x.2.2 x.2.2) (λx=>n-x.1) (0,X,X) ⟨hX,FR.BlkTo.init 20 X X⟩ bW aQ ?_
 rintro⟨a,l,U⟩ ⟨J,T⟩;replace J:l.length=n:=J;replace T:FR.BlkTo 20 X l a U U:=T;have t7:=T.len;refine fq (ts':=(8,aA (a+20:Nat))::(7,aA a)::(6,aA 20)::Mx g c n) Z<|ao (l':=ic g c n l::fr) aQ<|sQ<|bp Z<|bY Z (nG Z Z Z)<|sN<|aC Z (λd8=>?_) λd8=>?_
 ·have t8:a+20<=n:=am;obtain⟨P,I,Q,e1,e2,e3,e4,e5⟩:=T.ins hs am;subst e1;refine aa<|sT<|ai<|bp Z<|sM Z<|sM Z<|sM Z<|bQ Z (rX (a:=a) (b:=a+20) e2 e3 J hb e4) aQ ?_
  rintro v m ⟨rfl,Y,O,rfl⟩;refine ae ?_;have K:=O.len;refine sN<|bp Z<|sB Z<|sG<|sM Z<|bY Z (bH (r:=((a+20+20:Nat):Int)) Z Z ib)<|sA Z<|ap<|al<|aH (a+20,P++(Y++Q),Q) ⟨by show(P++(Y++Q)).length=n;rw[<-J];simp[K],e5 Y O⟩ (by show n-(a+20)<n-a;omega) bW aQ
 ·have wf:n<a+20:=am;obtain⟨P,I,e1,e2,e3,e4,e5⟩:=T.insLast hs am;subst e1;refine aM<|aw<|az<|aq<|sT<|bp Z<|sM Z<|sM Z<|sM Z<|bQ Z (rX (a:=a) (b:=n) e2 (e3.trans J) J hb e4) aQ ?_
  rintro v m ⟨rfl,Y,O,rfl⟩;refine ae ?_;have K:=O.len;refine sN<|ai<|aO (X:=Nat×List FR.Tmd) (λx=>(6,aA x.1)::Mx g c n) (λx=>ic g c n x.2::fr) (λx=>x.2.length=n/\20<=x.1/\x.1<=200000/\FR.Blk x.1 X x.2) (λx=>n-x.1) (20,P++(Y++[])) ⟨by rw[<-J];simp[K],cx _,am,e5 Y O⟩ bW aQ ?_
  rintro⟨z,l⟩ ⟨J,hz,d7,T⟩;replace J:l.length=n:=J;replace hz:20<=z:=hz;replace d7:z<=200000:=d7;replace T:FR.Blk z X l:=T;refine fq (ts':=(6,aA z)::Mx g c n) Z<|ao (l':=ic g c n l::fr) aQ<|sQ<|bp Z<|bY Z (bq Z Z Z)<|sN<|aC Z (λd9=>?_) λd9=>?_
  ·have BT:z<n:=am;refine aa<|sT<|ai<|bp Z<|sP (lq (r:=((2*z:Nat):Int)) Z Z ib)<|sA Z<|sB Z<|sQ<|ai<|aO (X:=Nat×List FR.Tmd×List FR.Tmd×List FR.Tmd) (λx=>(8,aA (x.1+2*z:Nat))::(7,aA x.1)::(6,aA z)::Mx g c n) (λx=>ic g c n x.2.1::fr) (λx=>x.2.1.length=n/\FR.BlkTo (2*z) X x.2.1 x.1 x.2.2.1 x.2.2.2/\FR.Blk z x.2.2.1 x.2.2.2) (λx=>n-x.1) (0,l,X,l) ⟨J,FR.BlkTo.init _ X l,T⟩ ⟨by rw[Nat.zero_add];rfl,rfl,rfl,rfl,rfl,rfl,trivial⟩ aQ ?_
   rintro⟨a,l,U,V⟩ ⟨J,hT,hK⟩;replace J:l.length=n:=J;replace hT:FR.BlkTo (2*z) X l a U V:=hT;replace hK:FR.Blk z U V:=hK;have t7:=hT.len;refine fq (ts':=(8,aA (a+2*z:Nat))::(7,aA a)::(6,aA z)::Mx g c n) Z<|ao (l':=ic g c n l::fr) aQ<|sQ<|bp Z<|bY Z (nG Z Z Z)<|sN<|aC Z (λf7=>?_) λf7=>?_
   ·have t8:a+2*z<=n:=am;obtain⟨P,Lf,R,Q,U',hM,f9,hN⟩:=hT.pair hK hs am;refine aa<|sT<|ai<|bp Z<|sM Z<|sM Z<|bY Z (bH (r:=((a+z:Nat):Int)) Z Z ib)<|sM Z<|sM Z<|bQ Z (lZ _ (cx _) hM am am J hb) aQ ?_
    rintro v m ⟨rfl,Y,O,rfl⟩;refine ae ?_;have K:=O.len;have d6:l.length=(P++((Lf++R)++Q)).length:=by rw[hM.is];simp
    refine sN<|bp Z<|sB Z<|sG<|sM Z<|bY Z (lq (r:=((2*z:Nat):Int)) Z Z ib)<|sP (bH (r:=((a+2*z+2*z:Nat):Int)) Z Z ib)<|sA Z<|ap<|al<|aH (a+2*z,P++(Y++Q),U',Q) ⟨by show(P++(Y++Q)).length=n;rw[<-J,d6];simp only[List.length_append]at K ⊢;omega,hN Y O,f9⟩ (by show n-(a+2*z)<n-a;omega) bW aQ
   ·have wf:n<a+2*z:=am;refine aM<|aw<|az<|aq<|sT<|sQ<|cu (X:=List FR.Tmd) (λ_=>(6,aA z)::Mx g c n) (λY=>ic g c n Y::fr) (λY=>Y.length=n/\FR.Blk (2*z) X Y) ?_ ?_
    ·refine bp Z<|bY Z (bH (r:=((a+z:Nat):Int)) Z Z ib)<|sB Z<|bp Z<|bY Z (bq Z Z Z)<|sN<|aC Z (λf8=>?_) λf8=>?_
     ·have h1:a+z<n:=am;obtain⟨P,Lf,R,hM,hN⟩:=hT.pairLast hK hs am am;rw[J]at hM;have d6:l.length=(P++((Lf++R)++[])).length:=by rw[hM.is];simp
      refine sG<|sM Z<|sM Z<|sM Z<|sM Z<|sM Z<|bQ Z (lZ _ (cx _) hM am am J hb) aQ ?_
      rintro v m ⟨rfl,Y,O,rfl⟩;refine ae ?_;have K:=O.len;refine ap<|aT (P++(Y++[])) ⟨by rw[<-J,d6];simp only[List.length_append]at K ⊢;omega,hN Y O⟩ bW aQ
     ·have h1:n<=a+z:=am;refine aa<|aT l ⟨J,hT.rest hK am⟩ bW aQ
    rintro Y ⟨mt,t6⟩;refine sG<|bY Z (lq (r:=((2*z:Nat):Int)) Z Z ib)<|sA Z<|ap<|al<|aH (2*z,Y) ⟨mt,am,am,t6⟩ (by show n-2*z<n-z;omega) bW aQ
  ·have Fd:n<=z:=am;refine aM<|aw<|az<|aq<|dt [_] rfl ⟨rfl,l,T.all am,rfl⟩ aQ
def FY{g:Nat}(I:X.length=n)(J:n<=100000)(K:FR.Seqs X) :
 dz G 168 [sV g c n,mJ] [ic g c n X] λv m=>v=.tuple #[]/\∃Y,FR.Srt X Y/\m=[ic g c n Y]:=by
 refine bz func168 Z λE fr T=>ae<|sG<|sM Z<|bY Z (bh Z Z)<|sM Z<|bQ Z (AS I J K) aQ ?_
 rintro v m ⟨rfl,Y,O,rfl⟩;exact ae<|ap<|dt [_] rfl ⟨rfl,Y,O,rfl⟩ aQ
abbrev Ex(x:FK.KD):List Value:=[cd x.1.run,aA x.1.node,cd x.2]
abbrev eC:Value:=cB
def Ey(b:Nat)(l:List FK.KD):HP:=HP.ex λv:Value=>HP.all [HP.pure (l=[]->v=eC),blk b 79 #[v],row 129 3 v l.length (l.flatMap Ex)]
theorem L4{cap:Array Value}(Y:S.tms.length<=100000)(hF:eT prog F=true)
(I:∀done k a,done.length<=100000->(∃r,done++(k,a)::r=S.tms)->Does prog G F (#[]++[jj k,cd (a:Nat)].toArray++cap) [U done] λv m=>v=.tuple #[]/\m=[U (done++[(k,a)])]) :
 dz G 109 [aY p.w,.func (.func F) #[] cap] [aP e p S,U []] λv m=>v=.tuple #[]/\m=[aP e p S,U S.tms]:=by
 refine Does.part (pre:=[ew p.w S.now S.sets S.tms,U []]) (R:=λv m=>v=.tuple #[]/\m=[ew p.w S.now S.sets S.tms,U S.tms]) (c:=[HP.pure (fy S),fa e (lI S p) S.NP,dh aU p.rm (fF S p),gZ p S.runs,dh aU p.tm (ep S)]) ?_ ?_ ?_
 ·intro E w fr hE hw
  obtain⟨F1,F2,h1,h2,hd,hp,T⟩:=hw.star;obtain⟨W,K,hs⟩:=uL hp;have O:=congrArg List.length K.tms;rw[List.length_map]at O;refine(((Kj (w:=p.w) (cap:=cap) K.inv am hF λdone k a T hr=>I done k a T (K.tms▸hr)).mono (R':=λv m=>v=.tuple #[]/\m=[ew p.w S.now S.sets S.tms,U S.tms]) ?_)) E w fr hE ⟨hw.is,F1,F2,h1,h2,hd,hs,T⟩;rintro v m ⟨rfl,rfl⟩;refine⟨_,⟨rfl,rfl⟩,?_⟩;rw[K.tms];exact(Ent.pure K).trans ((Ent.all (m:=[HP.pure (WOk S.now S.sets S.tms W),cJ p.w W])).trans (Ent.ex (f:=λW:FK.WS=>HP.all [HP.pure (WOk S.now S.sets S.tms W),cJ p.w W]) W))
 ·exact(Ent.unall (m:=kL e p S)).trans (bo Cu Cu)
 ·rintro v m ⟨rfl,rfl⟩
  refine⟨_,⟨rfl,rfl⟩,?_⟩;refine Ent.trans ?_<|Ent.all (m:=kL e p S)
  exact(cM dm dm dm).trans (Ent.cons (Ent.cons (Ent.cons (bo dm dm))))
def CF(l:List FK.KD)(k:FK.Pl)(a:Nat)(hl:l.length<=100000):Does prog G 167 (#[]++[jj k,cd (a:Nat)].toArray++#[aY b]) [Ey b l] λv m=>v=.tuple #[]/\m=[Ey b (l++[(k,a)])]:=by
 refine bz func167 Z λE fr hE=>ae<|df .head λy=>bC<|eW .head λ_=>ao (l':=blk b 79 #[y]::row 129 3 y l.length (l.flatMap Ex)::fr) aQ<|sS<|sO (cP Z Z λb3=>(sN (sG (bF (au (v:=y) Z) (ah Z) (bm 0 Z (bF (au (v:=cd k.run) Z) (ah Z) (bm 1 Z (bF (au (v:=aA k.node) Z) (ah Z) (sM Z (sP (bI (cs:=(Ex (k,a)).toArray) Z Z Z Z Z) (sO (dw (m:=1) (z:=zTmr) (size:=3) (ps:=[(0,.tmp 11)]) (vs:=[.agg (Ex (k,a)).toArray]) (cs:=(Ex (k,a)).toArray) Z Z Z Z am am Z (Ae _ _ Z) λY=>dL rfl (ce rfl rfl Fh rfl am rfl rfl (HasVal.sel (v:=y)) (news:=Ex (k,a)) rfl fX iy eG gk am λO T=>aN (HasVal.sel (v:=O)) ?_)))))))))))))
 rintro I K rfl - - - - -
 refine bD Z Z Z Z fW ?_;refine aB b #[.slice I (l.length+1) K] rfl<|ap<|dt [Ey b (l++[(k,a)])] rfl ⟨rfl,rfl⟩<|Ent.trans ?_ ((Ent.pure (p:=l++[(k,a)]=[]->(.slice I (l.length+1) K:Value)=eC) (λh=>by simp at h)).trans ((Ent.all (m:=[HP.pure (l++[(k,a)]=[]->(.slice I (l.length+1) K:Value)=eC),blk b 79 #[.slice I (l.length+1) K],row 129 3 (.slice I (l.length+1) K) (l++[(k,a)]).length ((l++[(k,a)]).flatMap Ex)])).trans (Ent.ex (f:=λv:Value=>HP.all [HP.pure (l++[(k,a)]=[]->v=eC),blk b 79 #[v],row 129 3 v (l++[(k,a)]).length ((l++[(k,a)]).flatMap Ex)]) (.slice I (l.length+1) K))))
 rw[List.flatMap_append,List.length_append];show Ent _ (blk b 79 #[.slice I (l.length+1) K]::row 129 3 (.slice I (l.length+1) K) (l.length+1) (l.flatMap Ex++Ex (k,a))::fr);exact aG
def yF:dz G 239 [eC,aA 0,aA 0,mJ] [] λv m=>v=.tuple #[]/\m=[]:=by
 refine bz func239 Z λE fr I=>aW<|bp Z<|sP (bH (r:=1) Z Z Z)<|sB Z<|ai<|aO (X:=Unit) (λ_=>[(8,aA 1),(2,aA 0)]) (λ_=>fr) (λ_=>True) (λ_=>0) () trivial bW aQ ?_
 intro _ _;exact sQ<|bp Z<|bY Z (bq Z Z Z)<|sN<|ag Z<|aM<|aw<|az<|aq<|dt [] rfl ec aQ
def yo:dz G 209 [eC,aA 0,mJ] [] λv m=>v=.tuple #[]/\m=[]:=by
 refine bz func209 Z λE fr I=>aW<|sS<|sB Z<|bp Z<|sA Z<|sB Z<|sQ<|ai<|aO (X:=Unit) (λ_=>[(8,aA 20),(7,aA 0),(6,aA 20),(0,eC),(1,aA 0),(2,mJ)]) (λ_=>fr) (λ_=>True) (λ_=>0) () trivial bW aQ ?_
 intro _ _;refine sQ<|bp Z<|bY Z (nG Z Z Z)<|sN<|ag Z<|aM<|aw<|az<|aq<|sT<|bp Z<|sM Z<|sM Z<|sM Z<|bV Z yF aQ<|aW<|sN<|ai<|aO (X:=Unit) (λ_=>[(6,aA 20),(1,aA 0)]) (λ_=>fr) (λ_=>True) (λ_=>0) () trivial bW aQ ?_
 intro _ _;exact sQ<|bp Z<|bY Z (bq Z Z Z)<|sN<|ag Z<|aM<|aw<|az<|aq<|dt [] rfl ec aQ
def sort0_does:dz G 168 [eC,mJ] [] λv m=>v=.tuple #[]/\m=[]:=by
 refine bz func168 Z λE fr I=>aW<|sG<|sM Z<|bY Z (bh Z Z)<|sM Z<|bV Z yo aQ<|aW<|ap<|dt [] rfl ⟨rfl,rfl⟩ aQ
def C3(T:X.length<=100000)(hs:FR.Seqs X) :
 dz G 168 [v,mJ] [row 129 3 v X.length (X.flatMap dW)] λu m=>u=.tuple #[]/\∃Y,FR.Srt X Y/\m=[row 129 3 v Y.length (Y.flatMap dW)]:=by
 intro E w fr K hw;rcases(hw.row .head).2 with⟨h0,I⟩|⟨g,cap,d6,hv,_⟩
 ·obtain rfl:X=[]:=List.eq_nil_of_length_eq_zero I
  subst h0;exact((sort0_does.frame [row 129 3 eC 0 []]).mono λu m ⟨m',⟨I,h2⟩,hm⟩=>⟨_,⟨I,[],FR.Srt.nil,rfl⟩,by rw[hm,h2];exact aQ⟩) E w fr K hw
 ·subst hv
  refine((FY (g:=g) (c:=cap) Z T hs).mono ?_) E w fr K hw;rintro u m ⟨rfl,Y,O,rfl⟩;exact⟨_,⟨rfl,Y,O,rfl⟩,by rw[O.len];exact aQ⟩
def AN(hτ:∀x,dW (τ x)=Ex x)(I:S.tms.length<=100000)(hs:FR.Seqs (S.tms.map τ)) :
 dz G 117 [aY e] [aP e p S] λv m=>∃Y,FR.Srt (S.tms.map τ) Y/\(S.tms=[]->v=eC)/\m=[aP e p S,row 129 3 v Y.length (Y.flatMap dW)]:=by
 have T:S.tms.flatMap Ex=(S.tms.map τ).flatMap dW:=by
  rw[List.flatMap_map];exact congrArg (λf=>S.tms.flatMap f) (funext λx=>(hτ x).symm)
 refine bz func117 Z λE fr hE=>ae<|sS<|sB Z<|sS<|sO (cO (z:=cB) Z λO=>(sN (sS (sM Z (cZ Z (bm 6 Z ?_))))))
 refine bF (au (v:=aY p.w) Z) eN ?_;refine sP (gj Z Z) ?_;refine bV Z (L4 (U:=Ey O) I Z λl k a hl _=>CF l k a hl) (Ent.trans gfE1 (Ent.cons ((Ent.row0 (e:=129) (size:=3)).trans (gfE1.trans ((Ent.pure (p:=([]:List FK.KD)=[]->eC=eC) λ_=>rfl).trans ((Ent.all (m:=[HP.pure (([]:List FK.KD)=[]->eC=eC),blk O 79 #[eC],row 129 3 eC 0 []])).trans (Ent.ex (f:=λv:Value=>HP.all [HP.pure (([]:List FK.KD)=[]->v=eC),blk O 79 #[v],row 129 3 v 0 []]) eC))))))) ?_;refine aE<|sN<|sQ ?_
 refine df bJ λy=>bC (eW .head λK=>?_);rw[T];refine ao (l':=blk O 79 #[y]::row 129 3 y (S.tms.map τ).length ((S.tms.map τ).flatMap dW)::aP e p S::fr) (by rw[List.length_map];exact aQ) ?_;refine sG<|bF (au (v:=y) Z) (ah Z) ?_
 refine bQ Z (C3 (v:=y) (by rw[List.length_map];exact I) hs) gfE1 ?_;rintro v m ⟨rfl,Y,hY,rfl⟩;refine ae<|sN<|sS<|bF (au (v:=y) Z) (ah Z)<|sB Z<|an ?_
 exact ar [aP e p S,row 129 3 y Y.length (Y.flatMap dW)] rfl Z ⟨Y,hY,K,rfl⟩ (by show Ent _ (_::_::fr);exact aG)
section
variable{h f:Nat}
def yL(O:∀x,dW (τ x)=Ex x)(K:S.tms.length<=100000)(T:FR.Seqs (S.tms.map τ)):dS 59 [aY f] (ch f e j d p S J σ) λv m=>∃Y,FR.Srt (S.tms.map τ) Y/\(S.tms=[]->v=eC)/\m=row 129 3 v Y.length (Y.flatMap dW)::ch f e j d p S J σ:=by
 refine bz func59 Z λE fr hE=>bT<|sS<|sB Z<|sS<|cE 0 Z Z<|aL Z Z Z Z<|bQ Z (AN O K T) gfE1 ?_
 rintro v m ⟨Y,hY,I,rfl⟩;refine aE<|sB Z<|an<|ar (row 129 3 v Y.length (Y.flatMap dW)::ch f e j d p S J σ) Z Z ⟨Y,hY,I,rfl⟩ ?_
 exact aG
def yG(O:∀x,dW (τ x)=Ex x)(K:S.tms.length<=100000)(T:FR.Seqs (S.tms.map τ)):dS 23 [aY h] (cr h f e j d p S J σ) λv m=>∃Y,FR.Srt (S.tms.map τ) Y/\(S.tms=[]->v=eC)/\m=row 129 3 v Y.length (Y.flatMap dW)::cr h f e j d p S J σ:=by
 refine bz func23 Z λE fr hE=>du<|sS<|sB Z<|sQ<|sS<|cE 1 Z Z<|aL Z Z Z Z<|sP (eo Z Z Z)<|sN<|ag Z<|aa<|sT<|sQ<|sG<|cE 1 Z Z<|aL Z Z Z Z<|bQ Z (yL O K T) (Ent.trans gfE1 (Ent.cons (cM bJ bJ bJ))) ?_
 rintro v m ⟨Y,hY,I,rfl⟩;refine du<|sB Z<|an<|ar (row 129 3 v Y.length (Y.flatMap dW)::cr h f e j d p S J σ) Z Z ⟨Y,hY,I,rfl⟩ ?_
 exact aG
end
section
variable{f:α->List Value}
def JR(hk:0<k)(I:∀x,(f x).length=k){l:List α}{L:List Value}(hl:L.length=l.length*k)(h:∀(i:Nat) x (j:Nat) u,l[i]?=some x->(f x)[j]?=some u->L[i*k+j]?=some u):L=l.flatMap f:=by
 apply List.ext_getElem?;intro n
 by_cases Y:n<l.length*k
 ·have h1:n/k<l.length:=Nat.div_lt_of_lt_mul (by rw[Nat.mul_comm];exact Y)
  have h2:n%k<k:=Nat.mod_lt _ hk;have J:l[n/k]?=some l[n/k]:=List.getElem?_eq_getElem h1;have h3:(f l[n/k])[n%k]?=some ((f l[n/k])[n%k]'(by rw[I];exact h2)):=List.getElem?_eq_getElem _;have O:=h (n/k) _ (n%k) _ J h3;have T:=fe I (n%k) J h3;rw[Nat.mul_comm,Nat.div_add_mod]at O T;rw[O,T]
 ·rw[List.getElem?_eq_none am,List.getElem?_eq_none (by rw[cV I];omega)]
theorem eI(I:∀x,(f x).length=k){l:List α}{x:α}(h:l[i]?=some x)(j:Nat)(u:Value)(J:(f x)[j]?=some u):(l.flatMap f)[0+i*k+j]?=some u:=by
 rw[Nat.zero_add];exact fe I j h J
def xa(hk:0<k)(I:∀x,(f x).length=k){l:List α}{s s':α}(hs:l[i]?=some s)(hj:j<k)(h:(f s).set j v=f s'):(l.flatMap f).set (0+i*k+j) v=(l.set i s').flatMap f:=by
 have hi:=(gfGet.1 hs).1;have d7:i*k+k<=l.length*k:=by rw[<-Nat.succ_mul];exact Nat.mul_le_mul_right _ hi
 refine JR hk I (by rw[List.length_set,cV I,List.length_set]) λn x m u O J=>?_;have hm:m<k:=by have:=(gfGet.1 J).1;rwa [I]at this
 by_cases Y:n=i
 ·subst Y
  rw[List.getElem?_set_self hi]at O;injection O with O;subst O;rw[<-h]at J
  by_cases T:m=j
  ·subst T
   rw[List.getElem?_set_self (by rw[I];exact hm)]at J;rw[show 0+n*k+m=n*k+m by omega,List.getElem?_set_self (by rw[cV I];omega)];exact J
  ·rw[List.getElem?_set_ne (Ne.symm T)]at J
   rw[List.getElem?_set_ne am];exact fe I m hs J
 ·rw[List.getElem?_set_ne (Ne.symm Y)]at O
  have d6:0+i*k+j≠n*k+m:=by
   rcases Nat.lt_or_gt_of_ne Y with h|h
   ·have:=Nat.mul_le_mul_right k h
    rw[Nat.succ_mul]at this;omega
   ·have:=Nat.mul_le_mul_right k h
    rw[Nat.succ_mul]at this;omega
  rw[List.getElem?_set_ne d6];exact fe I m O J
end
abbrev sU(s:FR.St):List Value:=[aA s.state,aA s.NM,cd s.token,cd s.fin,cd s.sign,aA s.finAt,aA s.signAt]
abbrev Cm(l:List FR.St):List Value:=l.flatMap sU
abbrev kw(p:Nat×Int):List Value:=[cd p.1,aA p.2]
structure ND where
 gn:Nat
 cn:Nat
 vs:List Value
 ns:List FK.Node
abbrev ND.nv(x:ND):Value:=.slice (some ⟨x.gn,0,none⟩) x.ns.length x.cn
abbrev ndL(x:ND):List HP:=[HP.pure (x.vs.length=x.ns.length),row 51 7 x.nv x.ns.length (dc x.ns x.vs),fS x.vs x.ns]
def My(x:ND):HP:=HP.all (ndL x)
def bx(l:List ND):HP:=HP.all (l.map My)
structure RP where
 nd:ND
 gs:Nat
 cs:Nat
structure RfA where
 rg:Option Nat
 rc:Nat
 qg:Option Nat
 qc:Nat
 ra:Nat->RP
abbrev Cp(o:Option Nat):Option Addr:=o.map λg=>⟨g,0,none⟩
abbrev jV(p:RP)(r:FR.Rn):Value:=.slice (some ⟨p.gs,0,none⟩) r.NN.length p.cs
abbrev iD(p:RP)(r:FR.Rn):List Value:=[cd r.id,aA r.fl.deadline,p.nd.nv,aA r.state,cd r.till,aA r.tillAt,jV p r,aA r.ended]
abbrev iF(a:RfA)(l:List FR.Rn):List Value:=l.flatMap λr=>iD (a.ra r.id) r
abbrev kv(a:RfA)(M:FR.En):Value:=.slice (Cp a.rg) M.runs.length a.rc
abbrev lT(a:RfA)(M:FR.En):Value:=.slice (Cp a.qg) M.NP.length a.qc
abbrev sm(a:RfA)(M:FR.En):Array Value:=#[cd M.time,cd M.seed,kv a M,lT a M,cd M.NL,cd M.NK,aA M.timers,aA M.ends]
abbrev jk(a:RfA)(r:FR.Rn):HP:=row 125 7 (jV (a.ra r.id) r) r.NN.length (Cm r.NN)
def kb(a:RfA)(l:List FR.Rn):HP:=HP.all (l.map (jk a))
abbrev kM(a:RfA)(l:List ND)(M:FR.En):Prop:=∀r∈M.runs,(a.ra r.id).nd∈l/\(a.ra r.id).nd.ns=r.fl.NO
abbrev kG(a:RfA)(M:FR.En):HP:=row 77 8 (kv a M) M.runs.length (iF a M.runs)
abbrev Cn(a:RfA)(M:FR.En):HP:=row 133 2 (lT a M) M.NP.length (M.NP.flatMap kw)
abbrev qE(e:Nat)(a:RfA)(l:List ND)(M:FR.En):List HP:=[HP.pure (kM a l M),blk e 40 (sm a M),kG a M,Cn a M,kb a M.runs]
def aZ(e:Nat)(a:RfA)(l:List ND)(M:FR.En):HP:=HP.all (qE e a l M)
class HasRef(l:List HP)(e:outParam Nat)(a:outParam RfA)(ns:outParam (List ND))(M:outParam FR.En)(r:outParam (List HP)):Prop where
 sel:Sel (aZ e a ns M) l r
instance HasRef.head{e:Nat}{a:RfA}{ns:List ND}{M:FR.En}{l:List HP}:HasRef (aZ e a ns M::l) e a ns M l:=⟨.head⟩
instance (priority:=low) HasRef.tail{e:Nat}{a:RfA}{ns:List ND}{M:FR.En}{l r:List HP}{x:HP}[h:HasRef l e a ns M r]:HasRef (x::l) e a ns M (x::r):=⟨.tail h.sel⟩
class HasPool(l:List HP)(ns:outParam (List ND)):Prop where
 sel:∃r,Sel (bx ns) l r
instance HasPool.head{ns:List ND}{l:List HP}:HasPool (bx ns::l) ns:=⟨⟨_,.head⟩⟩
instance (priority:=low) HasPool.tail{ns:List ND}{l:List HP}{x:HP}[h:HasPool l ns]:HasPool (x::l) ns:=⟨let⟨_,h⟩:=h.sel;⟨_,.tail h⟩⟩
def Star.nd{l:List ND}{F:Nat->Prop}{x:ND}(h:(bx l).sat w F)(I:x∈l):Star w (ndL x) F:=
 Star.mem (p:=My x) (l:=l.map My) h (List.mem_map_of_mem I)
section
variable{l:List HP}{a:RfA}{ns:List ND}[H:HasRef l e a ns M r]
section
include H
theorem jY(hw:Holds E w l):∃F,Star w (qE e a ns M) F:=by
 obtain⟨F1,_,_,_,_,I,_⟩:=(hw.sel H.sel).star;exact⟨F1,I⟩
theorem ng(hw:Holds E w l):kM a ns M:=by
 obtain⟨F,h⟩:=jY (H:=H) hw;exact Star.mem (p:=HP.pure (kM a ns M)) h di
theorem ck(I:(sm a M)[i]?=some v):∀w,Holds E w l->cw ⟨e,i,none⟩ v w:=λw hw=>by
 obtain⟨F,h⟩:=jY (H:=H) hw;have J:(blk e 40 (sm a M)).sat w F:=Star.mem h di;have:=J.2;simp only[cw,World.cell?,this];exact I
theorem tR(hw:Holds E w l):∃F,(kG a M).sat w F:=by
 obtain⟨F,h⟩:=jY (H:=H) hw;exact⟨F,Star.mem h di⟩
theorem iJ(hi:M.runs[i]?=some u)(hw:Holds E w l):∃g,a.rg=some g:=by
 obtain⟨F,h⟩:=tR (H:=H) hw;have T:=(gfGet.1 hi).1;cases hg:a.rg with
 |some g=>exact⟨g,rfl⟩
 |none=>
  rcases h.1.2 with⟨_,O⟩|⟨g,cap,J,I,_⟩
  ·omega
  ·unfold kv at I
   rw[hg]at I;injection I with I;cases I
theorem lW{g:Nat}(hi:M.runs[i]?=some u)(I:a.rg=some g):∀w,Holds E w l->ie g (0+i*8) (iD (a.ra u.id) u) w:=λw hw=>by
 obtain⟨F,h⟩:=tR (H:=H) hw;unfold kG kv at h;rw[I]at h;exact nC h λj v J=>eI (k:=8) (λ_=>rfl) hi j v J
theorem cR{g:Nat}(hi:M.runs[i]?=some u)(I:a.rg=some g)(J:(iD (a.ra u.id) u)[j]?=some v):∀w,Holds E w l->cw ⟨g,0+i*8+j,none⟩ v w:=λw hw=>lW (H:=H) hi I w hw j v J
theorem s9(hi:M.runs[i]?=some u)(I:u.id=id)(J:u.NN[k]?=some s):∀w,Holds E w l->ie (a.ra id).gs (0+k*7) (sU s) w:=λw hw=>by
 subst I;obtain⟨F,h⟩:=jY (H:=H) hw;have T:Star w (M.runs.map (jk a)) F:=Star.mem (p:=kb a M.runs) h di;have Y:(jk a u).sat w F:=Star.mem T (List.mem_map_of_mem (cg hi));exact nC Y λj v O=>eI (k:=7) (λ_=>rfl) J j v O
theorem ee(hi:M.runs[i]?=some u)(I:u.id=id)(J:u.NN[k]?=some s)(O:(sU s)[j]?=some v):∀w,Holds E w l->cw ⟨(a.ra id).gs,0+k*7+j,none⟩ v w:=λw hw=>s9 (H:=H) hi I J w hw j v O
theorem Ez{u:Nat×Int}(hi:M.NP[i]?=some u)(hw:Holds E w l):∃g,a.qg=some g:=by
 obtain⟨F,h⟩:=jY (H:=H) hw;have h:(Cn a M).sat w F:=Star.mem h di;have T:=(gfGet.1 hi).1;cases hg:a.qg with
 |some g=>exact⟨g,rfl⟩
 |none=>
  rcases h.1.2 with⟨_,O⟩|⟨g,cap,J,I,_⟩
  ·omega
  ·unfold lT at I
   rw[hg]at I;injection I with I;cases I
theorem Kz{g:Nat}{u:Nat×Int}(hi:M.NP[i]?=some u)(I:a.qg=some g):∀w,Holds E w l->ie g (0+i*2) (kw u) w:=λw hw=>by
 obtain⟨F,h⟩:=jY (H:=H) hw;have h:(Cn a M).sat w F:=Star.mem h di;unfold Cn lT at h;rw[I]at h;exact nC h λj v J=>eI (k:=2) (λ_=>rfl) hi j v J
end
end
section
variable{l:List HP}{ns:List ND}[H:HasPool l ns]
include H
theorem tg(hw:Holds E w l){x:ND}(I:x∈ns):∃F,Star w (ndL x) F:=by
 obtain⟨r,J⟩:=H.sel;obtain⟨F1,_,_,_,_,O,_⟩:=(hw.sel J).star;exact⟨F1,Star.nd O I⟩
theorem Mc(hw:Holds E w l){x:ND}(I:x∈ns):x.vs.length=x.ns.length:=by
 obtain⟨F,h⟩:=tg (H:=H) hw I;exact Star.mem (p:=HP.pure (x.vs.length=x.ns.length)) h di
theorem tS{x:ND}(J:x∈ns){nd:FK.Node}{u:Value}(T:x.ns[k]?=some nd)(Y:x.vs[k]?=some u):∀w,Holds E w l->ie x.gn (0+k*7) (bn nd u) w:=λw hw=>by
 obtain⟨F,h⟩:=tg (H:=H) hw J;exact nC (Star.mem (p:=row 51 7 x.nv x.ns.length (dc x.ns x.vs)) h di) (λj v O=>by
  have I:j<7:=by have:=(gfGet.1 O).1;simpa[bn]using this
  rw[Nat.zero_add,mD _ _ _ _ _ _ (Mc (H:=H) hw J) T Y I];exact O)
theorem th{x:ND}(I:x∈ns){nd:FK.Node}{u:Value}(J:x.ns[k]?=some nd)(O:x.vs[k]?=some u)(T:(bn nd u)[j]?=some v):∀w,Holds E w l->cw ⟨x.gn,0+k*7+j,none⟩ v w:=λw hw=>tS (H:=H) I J O w hw j v T
theorem tT{x:ND}(I:x∈ns){nd:FK.Node}(Y:x.ns[k]?=some nd)(hw:Holds E w l):∃A c,x.vs[k]?=some (.slice A nd.after.length c)/\(A=none->nd.after.length=0/\c=0)/\(∀O,A=some O->∃g,O=⟨g,0,none⟩)/\nd.after.length<=c/\c<=maxLen:=by
 have hv:=Mc (H:=H) hw I;have hk:=(gfGet.1 Y).1;obtain⟨u,T⟩:∃u,x.vs[k]?=some u:=⟨x.vs[k]'am,by simp[hv,hk]⟩;obtain⟨F,h⟩:=tg (H:=H) hw I;have h1:=Star.mem (p:=fS x.vs x.ns) h di;have hz:(x.vs.zip x.ns)[k]?=some (u,nd):=by simp[List.getElem?_zip_eq_some,Y,T]
 have h2:(bL u nd.after).sat w F:=Star.mem (l:=dC x.vs x.ns) h1 (List.mem_map.2 ⟨(u,nd),cg hz,rfl⟩);obtain⟨d6,J⟩:=h2.1;rcases J with⟨rfl,h0⟩|⟨g,cap,d7,rfl,_,hg,hm,hc,hs,ht⟩
 ·exact⟨none,0,by rw[T,h0],λ_=>⟨h0,rfl⟩,λ_ I=>(by cases I),am,Nat.zero_le _⟩
 ·exact⟨_,cap,T,λI=>(by cases I),λO I=>(by injection I with I;exact⟨g,I.symm⟩),hm,hc⟩
theorem zJ{x:ND}(I:x∈ns){g:Nat}{nd:FK.Node}{y:Int}(J:x.ns[k]?=some nd)(O:x.vs[k]?=some (dQ g nd.after.length c))(T:nd.after[j]?=some y):∀w,Holds E w l->cw ⟨g,0+j*1,none⟩ (aA y) w:=λw hw=>by
 obtain⟨F,h⟩:=tg (H:=H) hw I;have Y:=Star.mem (p:=fS x.vs x.ns) h di;have hz:(x.vs.zip x.ns)[k]?=some (dQ g nd.after.length c,nd):=by simp[List.getElem?_zip_eq_some,J,O]
 have h2:(bL (dQ g nd.after.length c) nd.after).sat w F:=Star.mem (l:=dC x.vs x.ns) Y (List.mem_map.2 ⟨_,cg hz,rfl⟩);have h3:=nC (o:=0) (vs:=eO nd.after) h2 (λj u hj=>by rwa [Nat.zero_add]);have h4:=h3 j (aA y) (by simp[eO,T])
 rwa [Nat.mul_one]
end
def dY{l:List HP}{a:RfA}{ns:List ND}[H:HasRef l e a ns M r](J:a.rg=some i):∀w,Holds E w l->cw ⟨e,2,none⟩ (dQ i M.runs.length a.rc) w:=
 ck (by show some (kv a M)=_;unfold kv;rw[J];rfl)
def we{l:List HP}{a:RfA}{ns:List ND}[H:HasRef l e a ns M r](J:a.qg=some i):∀w,Holds E w l->cw ⟨e,3,none⟩ (dQ i M.NP.length a.qc) w:=
 ck (by show some (lT a M)=_;unfold lT;rw[J];rfl)
abbrev M7(I:Nat)(a:RfA)(M:FR.En):HP:=row 77 8 (dQ I M.runs.length a.rc) M.runs.length (iF a M.runs)
def td{a:RfA}(J:a.rg=some i):kG a M=M7 i a M:=by unfold kG kv;rw[J];rfl
def jw{l:List HP}{a:RfA}{ns:List ND}[H:HasRef l e a ns M r]:Ent l (blk e 40 (sm a M)::kG a M::Cn a M::kb a M.runs::r):=
 ((Ent.sel H.sel).trans (Ent.unall (m:=qE e a ns M))).trans Ent.drop
def jT{a:RfA}{ns:List ND}(h:kM a ns M):Ent (blk e 40 (sm a M)::kG a M::Cn a M::kb a M.runs::r) (aZ e a ns M::r):=
 (Ent.pure h).trans (Ent.all (m:=qE e a ns M))
def po(h:∀I,A=some I->∃g,I=⟨g,0,none⟩):∃o,A=Cp o:=by
 cases A with
 |none=>exact⟨none,rfl⟩
 |some I=>obtain⟨g,rfl⟩:=h I rfl;exact⟨some g,rfl⟩
def I5{l:List FR.Rn}{u':FR.Rn}(hi:l[i]?=some u):∃I J,l=I++u::J/\l.set i u'=I++u'::J:=by
 have O:=(gfGet.1 hi).1;refine⟨l.take i,l.drop (i+1),?_,by rw[List.set_eq_take_append_cons_drop,if_pos O]⟩;have e:l[i]=u:=(gfGet.1 hi).2;rw[<-e,<-List.drop_eq_getElem_cons O,List.take_append_drop]
theorem Ent.rfOpen{a:RfA}{I J:List FR.Rn}:Ent (kb a (I++u::J)::r) (jk a u::kb a (I++J)::r):=by
 refine(Ent.unall (m:=(I++u::J).map (jk a))).trans ?_;have O:=(List.perm_middle (a:=u) (l₁:=I) (l₂:=J)).map (jk a);rw[List.map_cons]at O;exact(Ent.perm (O.append_right r)).trans (Ent.cons (Ent.all (m:=(I++J).map (jk a))))
def Ck{a:RfA}{I J:List FR.Rn}:Ent (jk a u::kb a (I++J)::r) (kb a (I++u::J)::r):=by
 refine(Ent.cons (Ent.unall (m:=(I++J).map (jk a)))).trans ?_;have O:=((List.perm_middle (a:=u) (l₁:=I) (l₂:=J)).map (jk a)).symm;rw[List.map_cons]at O;exact(Ent.perm (O.append_right r)).trans (Ent.all (m:=(I++u::J).map (jk a)))
section
variable{l:List HP}{pos:String}{t:TypeId}{x y:Operand}{a:RfA}{ns:List ND}[H:HasRef l e a ns M r]
section
variable{u':FR.Rn}{s':FR.St}
theorem tO{M':FR.En}(J:dq P t 1)(O:ev ts x=some (eg e i))(T:ev ts y=some v)(hi:i<8)(Y:v.oneCell'=true)(I:(sm a M).setIfInBounds i v=sm a M')(hr:M'.runs=M.runs)(hq:M'.NP=M.NP)
(hk:At E n D ts (aZ e a ns M'::r) K):At E n D ts l (λac w=>(Oper.mk none (.store t x y) ty pos af g).wp P ac w K Q):=by
 refine ao (Ent.sel H.sel)<|bC<|ao gfE1<|cq (b:=e) (cs:=sm a M) Z J O T Y (by simpa using hi) ?_
 rw[I];refine ao ?_ hk;refine gfE1.trans<|Ent.trans ?_<|Ent.all (m:=qE e a ns M')
 unfold qE kM kG Cn kv lT;rw[hr,hq];exact aQ
theorem zD(h:kM a ns M)(hi:M.runs[i]?=some u)(I:u'.id=u.id)(J:u'.fl=u.fl):kM a ns (M.setR i u'):=λv T=>by
 rcases List.mem_or_eq_of_mem_set T with O|O
 ·exact h v O
 ·rw[O,I,J]
  exact h u<|cg hi
theorem EV(i:Nat)(u':FR.Rn):sm a (M.setR i u')=sm a M:=by
 unfold sm kv lT;have I:(M.setR i u').runs.length=M.runs.length:=by simp[FR.En.setR]
 rw[I]
 rfl
theorem wQ(O:a.rg=some k)(i:Nat)(u':FR.Rn):kG a (M.setR i u')=row 77 8 (dQ k M.runs.length a.rc) M.runs.length (iF a (M.setR i u').runs):=by
 unfold kG kv;have I:(M.setR i u').runs.length=M.runs.length:=by simp[FR.En.setR]
 rw[O,I]
 rfl
theorem Md{o:Nat}(hi:M.runs[i]?=some u)(hg:a.rg=some d)(hz:dq P t 1)(hx:ev ts x=some (eg d o))(hy:ev ts y=some v)(ho:o=0+i*8+j)(hj:j<8)(hv:v.oneCell'=true)(I:u'.id=u.id)(Y:u'.NN=u.NN)(d6:u'.fl=u.fl)(J:(iD (a.ra u.id) u).set j v=iD (a.ra u.id) u')
(hk:At E n D ts (aZ e a ns (M.setR i u')::r) K):At E n D ts l (λac w=>(Oper.mk none (.store t x y) ty pos af g).wp P ac w K Q):=by
 have d8:=(gfGet.1 hi).1;refine bA (p:=kM a ns M) (λw hw=>ng hw) λd7=>ao (Ent.sel H.sel)<|bC ?_
 have O:kG a M=row 77 8 (dQ d M.runs.length a.rc) M.runs.length (iF a M.runs):=by unfold kG kv;rw[hg];rfl
 unfold qE;rw[O];refine gc dm hz hx hy hv am<|ao ?_ hk
 subst ho;have h1:(iF a M.runs).set (0+i*8+j) v=iF a (M.setR i u').runs:=xa (k:=8) am (λ_=>rfl) hi hj (by rw[I];exact J);rw[h1];have hS:kb a (M.setR i u').runs=kb a M.runs:=by
  have:(M.setR i u').runs.map (jk a)=M.runs.map (jk a):=by
   unfold FR.En.setR;simp only[List.map_set];have e1:jk a u'=jk a u:=by unfold jk jV;rw[I,Y]
   rw[e1];refine List.ext_getElem? λm=>?_;rw[List.getElem?_set]
   split
   ·rename_i hm
    subst hm;rw[if_pos (by simpa using d8),List.getElem?_map,hi]
    rfl
   ·rfl
  unfold kb;rw[this]
 refine Ent.trans ?_<|Ent.all (m:=qE e a ns (M.setR i u'))
 unfold qE;rw[wQ hg,EV,hS];exact((bo dm .head).trans (Ent.cons (Ent.cons Ent.drop))).trans (Ent.pure (zD d7 hi I d6))
theorem Di(T:kM a ns M)(hi:M.runs[i]?=some u)(hg:a.rg=some d){J O:List FR.Rn}(h1:M.runs=J++u::O)(h2:M.runs.set i (u.setS k s')=J++u.setS k s'::O){r:List HP}:Ent (row 125 7 (jV (a.ra u.id) u) u.NN.length (Cm (u.NN.set k s'))::HP.pure (kM a ns M)::blk e 40 (sm a M)::kG a M::Cn a M::kb a (J++O)::r) (aZ e a ns (M.setR i (u.setS k s'))::r):=by
 refine Ent.trans ?_<|Ent.all (m:=qE e a ns (M.setR i (u.setS k s')))
 unfold qE;have I:kG a M=row 77 8 (dQ d M.runs.length a.rc) M.runs.length (iF a M.runs):=by unfold kG kv;rw[hg];rfl
 have hl:(u.setS k s').NN.length=u.NN.length:=by simp[FR.Rn.setS]
 have Y:iF a (M.setR i (u.setS k s')).runs=iF a M.runs:=by
  have e1:iD (a.ra (u.setS k s').id) (u.setS k s')=iD (a.ra u.id) u:=by unfold iD jV;rw[hl];rfl
  show(M.runs.set i (u.setS k s')).flatMap _=M.runs.flatMap _;rw[h2,h1,List.flatMap_append,List.flatMap_append,List.flatMap_cons,List.flatMap_cons,e1]
 rw[wQ hg,Y,EV,I];have d6:jk a (u.setS k s')=row 125 7 (jV (a.ra u.id) u) u.NN.length (Cm (u.NN.set k s')):=by unfold jk jV;rw[hl];rfl
 have d7:(M.setR i (u.setS k s')).runs=J++u.setS k s'::O:=h2;rw[d7];refine(gfE1.trans Ent.drop).trans<|Ent.trans ?_<|Ent.pure<|zD (u':=u.setS k s') T hi Z Z
 refine(cM bJ bJ bJ).trans (Ent.cons (Ent.cons (Ent.cons ?_)));rw[<-d6];exact Ck
theorem jl{o:Nat}(hi:M.runs[i]?=some u)(J:u.id=id)(Y:u.NN[k]?=some s)(hz:dq P t 1)(hx:ev ts x=some (eg ((a.ra id).gs) o))(hy:ev ts y=some v)(ho:o=0+k*7+j)(hj:j<7)(hv:v.oneCell'=true)(I:(sU s).set j v=sU s')
(hk:At E n D ts (aZ e a ns (M.setR i (u.setS k s'))::r) K):At E n D ts l (λac w=>(Oper.mk none (.store t x y) ty pos af g).wp P ac w K Q):=by
 subst J;have d6:=(gfGet.1 Y).1;refine bA (p:=kM a ns M) (λw hw=>ng hw) λO=>bA (p:=∃g,a.rg=some g) (λw hw=>iJ hi hw) λ⟨gr,hg⟩=>?_;obtain⟨l1,l2,h1,h2⟩:=I5 (u':=u.setS k s') hi;refine ao (Ent.sel H.sel)<|bC ?_
 have T:kb a M.runs=kb a (l1++u::l2):=by rw[h1]
 unfold qE;rw[T];refine ao (gfE4.trans Ent.rfOpen)<|gc .head hz hx hy hv am<|ao ?_ hk
 subst ho;rw[xa (k:=7) am (λ_=>rfl) Y hj I];exact(Ent.cons ((cM bJ bJ bJ).trans (Ent.cons (Ent.cons (Ent.cons gfE1))))).trans (Di O hi hg h1 h2)
end
end
end Go.Y
variable{ns:List Go.Y.ND}{a:Go.Y.RfA}
namespace Go.Y
open Go.Proofs Tryz Go.RowKit Go.SL
def ku(now:Nat)(span:Int)(J:now<=4611686018427387904)(K:0<=span)(h3:span<=4611686018427387904):dz G 65 [cd (now:Int),aA span] [] λv m=>v=cd ((min (now+span.toNat) 4611686018427387904:Nat):Int)/\m=[]:=by
 refine bz func65 Z λE fr O=>aW<|sS<|sB Z<|bp Z<|bY Z (cD (r:=span) Z Z Z (by rw[li];omega))<|sP (bH (r:=((now+span.toNat:Nat):Int)) Z Z (by rw[li];omega))<|sB Z<|sQ<|bp Z<|sP (dX Z Z Z)<|sN<|aC Z (λI=>?_) λI=>?_
 ·refine sG<|sB Z<|bp Z<|sB Z<|an<|ar [] rfl Z ⟨by congr 1;omega,rfl⟩ aQ
 ·refine aa<|sT<|bp Z<|sB Z<|an<|ar [] rfl Z ⟨by congr 1;omega,rfl⟩ aQ
def kr(h:M.timers<9223372036854775807):dz G 66 [aY e] [aZ e a ns M] λv m=>v=aA ((M.timers+1:Nat):Int)/\m=[aZ e a ns {M with timers:=M.timers+1}]:=by
 refine bz func66 Z λE fr I=>ae<|sS<|sB Z<|sS<|cE 6 Z Z<|bF (au (v:=aA (M.timers:Int)) Z) (ck Z)<|sP (bH (r:=((M.timers+1:Nat):Int)) Z Z ib)<|cZ Z<|bm 6 Z<|sO<|tO (a:=a) (M:=M) (M':={M with timers:=M.timers+1}) Z Z Z am Z Z Z Z<|sN<|sS<|cE 6 Z Z<|bF (au (v:=aA ((M.timers+1:Nat):Int)) Z) (ck Z)<|sB Z<|an<|ar [aZ e a ns {M with timers:=M.timers+1}] rfl Z ⟨rfl,rfl⟩ aQ
def ve(id:Nat)(h:M.runs.length<=100):dz G 57 [aY e,aU id] [aZ e a ns M] λv m=>((∃(i:Nat) (u:FR.Rn),M.runs[i]?=some u/\u.id=id/\v=aA (i:Int))\/(∀u∈M.runs,u.id≠id)/\v=aA (-1))/\m=[aZ e a ns M]:=by
 refine bz func57 Z λE fr hE=>ae<|sS<|sB Z<|sQ<|sS<|sB Z<|ai<|aO (X:=Nat) (λk=>[(5,aA k),(0,aY e),(1,aU id)]) (λ_=>aZ e a ns M::fr) (λk=>k<=M.runs.length/\∀(j:Nat) (u:FR.Rn),j<k->M.runs[j]?=some u->u.id≠id) (λk=>M.runs.length-k) 0 ⟨Nat.zero_le _,λj u h=>by omega⟩ bW aQ ?_
 rintro k ⟨hk,hno⟩;refine sQ<|bp Z<|cE 2 Z Z<|bF (au (v:=kv a M) Z) (ck Z)<|sP (bh Z Z)<|sP (bq Z Z Z)<|sN<|aC Z (λI=>?_) λI=>?_
 ·have K:k<M.runs.length:=by have:(k:Int)<(M.runs.length:Int):=I;omega
  obtain⟨u,T⟩:∃u,M.runs[k]?=some u:=⟨M.runs[k],by simp[K]⟩;refine bA (p:=∃g,a.rg=some g) (λw hw=>iJ T hw) λ⟨gr,hg⟩=>aa<|sT<|sQ<|ai<|sS<|cE 2 Z Z<|bF (au (v:=dQ gr M.runs.length a.rc) Z) (dY hg)<|bY Z (aV (z:=8) Z Z Z Z K)<|bm 0 Z<|bF (au (v:=aU u.id) Z) (cR (j:=0) T hg Z)<|bY Z (bc Z Z Z)<|sN<|aC Z (λJ=>?_) λJ=>?_
  ·refine bp Z<|sB Z<|an<|aJ<|aD<|bM<|aJ<|aD<|ar [aZ e a ns M] rfl Z ⟨.inl ⟨k,u,T,by have:(u.id:Int)=(id:Int):=J;omega,rfl⟩,rfl⟩ aQ
  ·refine aa<|al<|sT<|sG<|bY Z (dM Z Z)<|sA Z<|ap<|aH (k+1) ⟨K,λj v O Y=>(by
    rcases Nat.lt_succ_iff_lt_or_eq.1 O with O|rfl
    ·exact hno j v O Y
    ·rw[T]at Y;injection Y with Y;subst Y;have:¬(u.id:Int)=(id:Int):=J;omega)⟩ am ⟨rfl,rfl,rfl,trivial⟩ aQ
 ·have d6:k=M.runs.length:=by have:¬(k:Int)<(M.runs.length:Int):=I;omega
  refine aM<|aw<|az<|aq<|sT<|sS<|sB Z<|an<|ar [aZ e a ns M] rfl rfl ⟨.inr ⟨λu T=>(by obtain⟨j,O⟩:=List.getElem?_of_mem T;exact hno j u (by rw[d6];exact(gfGet.1 O).1) O),rfl⟩,rfl⟩ aQ
def tu:fm prog 133 (.agg #[cd 0,aA 0]) 2 16:=by unfold fm;kernel_rfl
def Af(x:Operand)(p:Nat×Int):Instr.fill (λi=>some (i*2,2)) (Array.map (λx=>(Value.agg #[cd 0,aA 0]).cells[x%(Value.agg #[cd 0,aA 0]).cells.size]!) (Array.range (1*2))) ((List.map (λx=>x.fst) [((0:Nat),x)]).zip [.agg (kw p).toArray])=some (kw p).toArray:=by
 have e1:Array.range (1*2)=#[0,1]:=rfl;rw[e1];simp[Instr.fill,Value.cells]
abbrev RfA.q(a:RfA)(g:Option Nat)(c:Nat):RfA:={a with qg:=g,qc:=c}
def rL(hi:M.runs[i]?=some u)(hs:u.NN[k]?=some s)(hq:M.NP.length<=1000):dz G 80 [aY e,aA i,aA k] [aZ e a ns M] λv m=>v=.tuple #[]/\∃g c,m=[aZ e (a.q g c) ns (M.ready i k u s)]:=by
 have T:=(gfGet.1 hi).1;have f8:=(gfGet.1 hs).1;refine bz func80 Z λE fr hE=>ae<|bA (p:=∃g,a.rg=some g) (λw hw=>iJ hi hw) λ⟨gr,O⟩=>sS<|cE 2 Z Z<|bF (au (v:=dQ gr M.runs.length a.rc) Z) (dY O)<|bY Z (aV (z:=8) Z Z Z Z T)<|bm 6 Z<|bF (au (v:=jV (a.ra u.id) u) Z) (cR (j:=6) hi O Z)<|bY Z (aV (z:=7) Z Z Z Z f8)<|bm 0 Z<|sO<|jl (j:=0) (s':={s with state:=2}) hi Z hs Z Z Z Z am Z Z<|sN ?_
 obtain⟨I,K⟩:∃I,I=M.setR i (u.setS k {s with state:=2}):=⟨_,rfl⟩;rw[<-K];obtain⟨J,d7⟩:∃J,J=u.setS k {s with state:=2}:=⟨_,rfl⟩;have Y:I.runs[i]?=some J:=by rw[K,d7];unfold FR.En.setR;simp[T]
 have f9:J.id=u.id:=by rw[d7];rfl
 have d6:I.runs.length=M.runs.length:=by rw[K];simp[FR.En.setR]
 have d8:I.NP=M.NP:=by rw[K];rfl
 refine sZ Z<|ea Z Z<|cC Z Z<|dy 3 Z Z Z<|bN Z (au (v:=lT a I) Z) (ck Z)<|cC Z Z<|dy 2 Z Z Z<|bN Z (au (v:=dQ gr I.runs.length a.rc) Z) (dY O)<|cC Z Z<|dx 10 Z (aV (z:=8) Z Z Z Z (by rw[d6];exact T))<|dx 11 Z (bd 0 Z)<|bN Z (au (v:=aU J.id) Z) (cR (j:=0) Y O Z)<|cC Z Z<|bB Z (bI (cs:=(kw (J.id,(k:Int))).toArray) Z Z Z Z Z)<|dI 15 Z (dw (m:=1) (z:=.agg #[cd 0,aA 0]) (size:=2) (ps:=[(0,.tmp 31)]) (vs:=[.agg (kw (J.id,(k:Int))).toArray]) (cs:=(kw (J.id,(k:Int))).toArray) Z Z Z Z am am Z (Af _ _) λt6=>dK [true,true,true] (aj (cR (j:=0) Y O Z) (aj (dY O) (aj (ck Z) ak))) (bA (p:=kM a ns I) (λw hw=>ng hw) λd9=>ao (jw (a:=a) (M:=I)) ?_))
 rw[td O];refine dR 16 rfl rfl (ce rfl rfl tu rfl am rfl rfl dm (news:=kw (J.id,(k:Int))) rfl fX iy eG (by unfold maxLen;rw[d8];omega) (by rw[d8];omega) λt7 mt=>dK [true,true,false] (aj (gI (eI (k:=8) (f:=λr:FR.Rn=>iD (a.ra r.id) r) (λ_=>rfl) Y 0 _ Z)) (aj (ah (show some (kv a I)=_ by unfold kv;rw[O];rfl)) ak)) (dx 17 Z (cI Z)<|bB Z (bd 3 Z) (aN .head λA c hA t8 f7 _ _ _=>?_)));obtain⟨o,rfl⟩:=po f7;subst hA;refine dI 19 Z<|cq (b:=e) (cs:=sm a I) Z Z Z Z Z di<|dK [false,false] ak<|dE<|bt [aZ e (a.q o c) ns (M.ready i k u s)] rfl ⟨rfl,o,c,rfl⟩ ?_
 have hR:M.ready i k u s={I with NP:=I.NP++[(J.id,(k:Int))]}:=by rw[K,f9];rfl
 have hL:(I.NP++[(J.id,(k:Int))]).length=I.NP.length+1:=by simp
 rw[hR];refine Ent.trans ?_<|jT d9
 unfold Cn lT sm lT;simp only[hL,List.flatMap_append];rw[td O];exact Ent.cons<|gfE1.trans<|Ent.cons<|Ent.cons<|Ent.cons Ent.drop
def Do(id:Nat)(hq:M.NP.length<=1000):dz G 132 [aY e,aU id] [aZ e a ns M] λv m=>v=.tuple #[]/\∃g c,m=[aZ e (a.q g c) ns (M.drop id)]:=by
 obtain⟨J,K⟩:∃J:Nat->List (Nat×Int),J=λk=>(M.NP.take k).filter λp=>p.1 !=id:=⟨_,rfl⟩;have d6:∀k,(J k).length<=1000:=λk=>by
  rw[K];have h1:=List.length_filter_le (λp:Nat×Int=>p.1 !=id) (M.NP.take k);have h2:(M.NP.take k).length<=M.NP.length:=by rw[List.length_take];omega
  simp only;omega
 refine bz func132 Z λE fr hE=>ae<|sS<|sB Z<|sQ<|sS<|sB Z<|ai<|aO (X:=Nat×Value) (λx=>[(5,aA x.1),(4,x.2),(0,aY e),(1,aU id)]) (λx=>row 133 2 x.2 (J x.1).length ((J x.1).flatMap kw)::aZ e a ns M::fr) (λx=>x.1<=M.NP.length) (λx=>M.NP.length-x.1) (0,cB) (Nat.zero_le _) bW (by rw[K];exact Ent.row0) ?_
 rintro⟨k,v4⟩ hk;replace hk:k<=M.NP.length:=hk;refine ao (l':=row 133 2 v4 (J k).length ((J k).flatMap kw)::aZ e a ns M::fr) aQ<|sQ<|bp Z<|cE 3 Z Z<|bF (au (v:=lT a M) Z) (ck Z)<|sP (bh Z Z)<|sP (bq Z Z Z)<|sN<|aC Z (λO=>?_) λO=>?_
 ·have I:k<M.NP.length:=by have:(k:Int)<(M.NP.length:Int):=O;omega
  obtain⟨u,hu⟩:∃u,M.NP[k]?=some u:=⟨M.NP[k],by simp[I]⟩;have hs:J (k+1)=J k++[u].filter λp=>p.1 !=id:=by rw[K];simp only;rw[List.take_add_one,hu,List.filter_append];rfl
  refine bA (p:=∃g,a.qg=some g) (λw hw=>Ez hu hw) λ⟨gr,hg⟩=>aa<|sT<|sQ<|ai<|sS<|cE 3 Z Z<|bF (au (v:=dQ gr M.NP.length a.qc) Z) (we hg)<|bY Z (aV (z:=2) Z Z Z Z I)<|bm 0 Z<|bF (au (v:=aU u.1) Z) (λw hw=>Kz hu hg w hw 0 _ Z)<|bY Z (cy Z Z Z)<|sN<|aC Z (λT=>?_) λT=>?_
  ·have Y:([u].filter λp=>p.1 !=id)=[u]:=by have h:(u.1:Int)≠(id:Int):=T;have h:u.1≠id:=am;simp[h]
   rw[Y]at hs;refine sG<|sM Z<|cE 3 Z Z<|bF (au (v:=dQ gr M.NP.length a.qc) Z) (we hg)<|bY Z (aV (z:=2) Z Z Z Z I)<|bF (bR (vs:=kw u) Z) (Kz hu hg)<|sO (dw (m:=1) (z:=.agg #[cd 0,aA 0]) (size:=2) (ps:=[(0,.tmp 32)]) (vs:=[.agg (kw u).toArray]) (cs:=(kw u).toArray) Z Z Z Z am am Z (Af _ _) λf9=>dL rfl (ce rfl rfl tu rfl am rfl rfl (HasVal.sel (v:=v4)) (news:=kw u) rfl fX iy eG (by have:=d6 k;unfold maxLen;omega) (by have:=d6 k;omega) λd7 f8=>sA Z<|ap<|al<|sT<|sG<|bY Z (dM Z Z)<|sA Z<|ap ?_))
   exact aH (k+1,d7) I (by show M.NP.length-(k+1)<M.NP.length-k;omega) bW (by
    simp only[hs,List.flatMap_append,List.length_append];exact Ent.cons (gfE1.trans (Ent.cons Ent.drop)))
  ·have Y:([u].filter λp=>p.1 !=id)=[]:=by have h:¬(u.1:Int)≠(id:Int):=T;have h:u.1=id:=am;simp[h]
   rw[Y,List.append_nil]at hs;refine aa<|al<|sT<|sG<|bY Z (dM Z Z)<|sA Z<|ap<|aH (k+1,v4) I (by show M.NP.length-(k+1)<M.NP.length-k;omega) bW (by
    simp only[hs];exact aQ)
 ·have f7:k=M.NP.length:=by have:¬(k:Int)<(M.NP.length:Int):=O;omega
  have hD:J k=(M.drop id).NP:=by rw[K,f7];simp only[List.take_length];rfl
  rw[hD];refine aM<|aw<|az<|aq<|sT<|sG<|sM Z<|cE 3 Z Z<|bA (p:=kM a ns M) (λw hw=>ng hw) λd8=>ao (jw (a:=a) (M:=M))<|aN kK λA c hA mt d9 _ _ _=>?_
  obtain⟨o,rfl⟩:=po d9;subst hA;refine sO<|cq (b:=e) (cs:=sm a M) Z Z Z Z Z di<|ap<|bt [aZ e (a.q o c) ns (M.drop id)] rfl ⟨rfl,o,c,rfl⟩<|Ent.trans ?_<|jT d8
  exact Ent.cons<|Ent.cons<|Ent.drop.trans gfE1
end Go.Y
namespace FR
def wakeK_on{r:Rn}(hi:M.runs[i]?=some r)(k:Nat):∃r',(En.wakeK i M k).runs[i]?=some r'/\r'.id=r.id/\r'.fl=r.fl/\r'.NN.length=r.NN.length/\(En.wakeK i M k).NP.length<=M.NP.length+1:=by
 unfold En.wakeK;rw[hi];simp only
 split
 ·split
  ·refine⟨_,zF hi,rfl,rfl,by simp[Rn.setS],?_⟩
   unfold En.ready;simp
  ·exact⟨r,hi,rfl,rfl,rfl,Nat.le_succ _⟩
 ·exact⟨r,hi,rfl,rfl,rfl,Nat.le_succ _⟩
def wakeN_on{M:En}{i:Nat}{r:Rn}(hi:M.runs[i]?=some r):∀n,∃r',(M.wakeN i n).runs[i]?=some r'/\r'.id=r.id/\r'.fl=r.fl/\r'.NN.length=r.NN.length/\(M.wakeN i n).NP.length<=M.NP.length+n
 |0=>⟨r,hi,rfl,rfl,rfl,cx _⟩
 |n+1=>by
  obtain⟨r1,E,I,h3,J,h5⟩:=wakeN_on hi n;obtain⟨K,O,T,Y,k4,k5⟩:=wakeK_on E n;rw[wakeN_succ];exact⟨K,O,T.trans I,Y.trans h3,k4.trans J,am⟩
end FR
namespace Go.Y
open Go.Proofs Tryz
open Go Go.RowKit Go.SL
def uZ(hi:M.runs[i]?=some u)(T:u.NN.length=u.fl.NO.length)(t8:vK u.fl)(hn:u.fl.NO.length<=12)(hq:M.NP.length<=500):dz G 67 [aY e,aA i] [aZ e a ns M,bx ns] λv m=>v=.tuple #[]/\∃g c,m=[aZ e (a.q g c) ns (M.wakeN i u.NN.length),bx ns]:=by
 have NY:=(gfGet.1 hi).1;refine bz func67 Z λE fr hE=>aE<|bA (p:=∃g,a.rg=some g) (λw hw=>iJ hi hw) λ⟨gr,hg⟩=>bA (p:=kM a ns M) (λw hw=>ng hw) λNT=>?_
 obtain⟨J,mt⟩:=NT u (cg hi);refine sS<|cE 2 Z Z<|bF (au (v:=dQ gr M.runs.length a.rc) Z) (dY hg)<|bY Z (aV (z:=8) Z Z Z Z NY)<|bF (bR (vs:=iD (a.ra u.id) u) Z) (lW hi hg)<|sO (cO (z:=.agg #[cd 0,aA 0,cB,aA 0,cd 0,aA 0,cB,aA 0]) Z λb4=>sO<|bk (vs:=iD (a.ra u.id) u) Z (m:=8) Z Z Z Z eG (by show 0+8<=8;omega) ?_)
 refine aB b4 (iD (a.ra u.id) u).toArray Z<|sN<|sS<|sB Z<|ai<|aO (X:=Nat×Option Nat×Nat) (λx=>[(5,aA x.1),(4,aY b4),(0,aY e),(1,aA i)]) (λx=>blk b4 77 (iD (a.ra u.id) u).toArray::aZ e (a.q x.2.1 x.2.2) ns (M.wakeN i x.1)::bx ns::fr) (λx=>x.1<=u.NN.length) (λx=>u.NN.length-x.1) (0,a.qg,a.qc) (Nat.zero_le _) bW aQ ?_
 rintro⟨k,qg,qc⟩ hk;replace hk:k<=u.NN.length:=hk;refine sQ<|bp Z<|bm 6 Z<|bF (au (v:=jV (a.ra u.id) u) Z) (ah Z)<|sP (bh Z Z)<|sP (bq Z Z Z)<|sN<|aC Z (λd9=>?_) λd9=>?_
 ·have I:k<u.NN.length:=by have:(k:Int)<(u.NN.length:Int):=d9;omega
  obtain⟨K,d6,wf,NU,NV,N3⟩:=FR.wakeN_on hi k;obtain⟨s,hs⟩:∃s,K.NN[k]?=some s:=⟨K.NN[k]'am,by simp[NV,I]⟩;obtain⟨nd,hnd⟩:∃nd,u.fl.NO[k]?=some nd:=⟨u.fl.NO[k]'am,by simp[<-T,I]⟩;have In:K.ab.fl.NO[k]?=some nd:=by show K.fl.NO[k]?=_;rw[NU];exact hnd
  have O:(a.ra u.id).nd.ns[k]?=some nd:=by rw[mt];exact hnd
  have Y:=FK.oL (FR.gg hs) In;have t7:M.wakeN i (k+1)=if FK.kz K.ab k then(M.wakeN i k).ready i k K s else M.wakeN i k:=by
   rw[FR.wakeN_succ];unfold FR.En.wakeK;rw[d6];simp only[hs]
  refine aa<|sT<|sQ<|ai<|sQ<|sS<|bm 6 Z<|bF (au (v:=jV (a.ra u.id) u) Z) (ah Z)<|bY Z (aV (z:=7) Z Z Z Z I)<|bm 0 Z<|bF (au (v:=aA s.state) Z) (ee (a:=a.q qg qc) (j:=0) d6 wf hs Z)<|sP (cy Z Z Z)<|sN<|aC Z (λf7=>?_) λf7=>?_
  ·have NZ:s.state≠1:=f7;refine aM<|aw<|aq<|sT<|sG<|bY Z (dM Z Z)<|sA Z<|ap<|aH (k+1,qg,qc) I (by show u.NN.length-(k+1)<u.NN.length-k;omega) bW (by
    have h0:(s.ab.state==1)=false:=by simpa[FR.St.ab]using NZ
    have h1:FK.kz K.ab k=false:=by rw[Y,h0];rfl
    rw[t7,if_neg (by rw[h1];decide)];exact aQ)
  ·have hs1:s.state=1:=by have h:¬s.state≠1:=f7;omega
   refine bA (λw hw=>tT J O hw) λhA=>?_;obtain⟨A,c,t6,NW,NX,N4,BT⟩:=hA;replace BT:c<=9223372036854775807:=BT;refine aa<|sT<|sS<|sB Z<|sQ<|sS<|sB Z<|ai<|aO (X:=Nat×Bool) (λx=>[(7,aA x.1),(6,.bool x.2),(5,aA k),(4,aY b4),(0,aY e),(1,aA i)]) (λ_=>blk b4 77 (iD (a.ra u.id) u).toArray::aZ e (a.q qg qc) ns (M.wakeN i k)::bx ns::fr) (λx=>x.1<=nd.after.length/\x.2=(nd.after.take x.1).all λy=>FK.cY K.ab.NN y.toNat 5) (λx=>nd.after.length-x.1) (0,true) ⟨Nat.zero_le _,rfl⟩ bW aQ ?_
   rintro⟨j,b⟩ ⟨hj,d7⟩;replace hj:j<=nd.after.length:=hj;replace d7:b=(nd.after.take j).all λy=>FK.cY K.ab.NN y.toNat 5:=d7;refine sQ<|bp Z<|bm 1 Z<|bm 1 Z<|bF (au (v:=(a.ra u.id).nd.nv) Z) (ah Z)<|sM Z<|sP (aV (z:=7) Z Z Z Z (show k<(a.ra u.id).nd.ns.length by rw[mt,<-T];exact I))<|bm 6 Z<|bF (au (v:=.slice A nd.after.length c) Z) (th (j:=6) J O t6 Z)<|sP (bh Z Z)<|sP (bq Z Z Z)<|sN<|aC Z (λf8=>?_) λf8=>?_
   ·have d8:j<nd.after.length:=by have:(j:Int)<(nd.after.length:Int):=f8;omega
    obtain⟨g,rfl⟩:∃g,A=some ⟨g,0,none⟩:=by
     cases A with
     |none=>have:=(NW rfl).1;omega
     |some ad=>obtain⟨g,rfl⟩:=NX ad rfl;exact⟨g,rfl⟩
    obtain⟨x,hx⟩:∃x,nd.after[j]?=some x:=⟨nd.after[j],by simp[d8]⟩;obtain⟨N5,N6⟩:=t8 nd (cg hnd) x (cg hx);obtain⟨y,rfl⟩:∃y:Nat,x=(y:Int):=⟨x.toNat,am⟩;obtain⟨s2,Fd⟩:∃s2,K.NN[y]?=some s2:=⟨K.NN[y]'am,by simp⟩;have N0:y<u.NN.length:=am;have LE:((nd.after.take (j+1)).all λy=>FK.cY K.ab.NN y.toNat 5)=(b&&decide (s2.state=5)):=by
     rw[List.take_add_one,hx,List.all_append,<-d7];have:FK.cY K.ab.NN y 5=decide (s2.state=5):=by rw[FK.fO (FR.gg Fd)];rfl
     simp[this]
    refine aa<|sT<|sQ<|ai ?_
    by_cases hb:b=true
    ·subst hb;refine sZ Z<|ea Z Z<|cC Z Z<|dT 2 Z (bd 6 Z)<|oW 3 Z (au (v:=jV (a.ra u.id) u) Z) (ah Z)<|dT 4 Z (bd 1 Z)<|dT 5 Z (bd 1 Z)<|oW 6 Z (au (v:=(a.ra u.id).nd.nv) Z) (ah Z)<|dT 7 Z (bg Z)<|dT 8 Z (aV (z:=7) Z Z Z Z (show k<(a.ra u.id).nd.ns.length by rw[mt,<-T];exact I))<|dT 9 Z (bd 6 Z)<|oW 10 Z (au (v:=dQ g nd.after.length c) Z) (th (j:=6) J O t6 Z)<|dT 11 Z (bg Z)<|dT 12 Z (aV (z:=1) Z Z Z Z d8)<|oW 13 Z (au (v:=aA (y:Int)) Z) (zJ J O t6 hx)<|dT 14 Z (aV (z:=7) Z Z Z Z N0)<|dT 15 Z (bd 0 Z)<|oW 16 Z (au (v:=aA s2.state) Z) (ee (a:=a.q qg qc) (j:=0) d6 wf Fd Z)<|dT 17 Z (bc (r:=decide (s2.state=5)) Z Z Z)<|bB Z (aF Z Z Z)<|bB Z (aX Z)<|dE<|al<|sT<|sG<|bY Z (dM Z Z)<|sA Z<|ap<|aH (j+1,_) ⟨d8,LE.symm⟩ (by show nd.after.length-(j+1)<nd.after.length-j;omega) bW aQ
    ·have hb:b=false:=by simpa using hb
     subst hb;refine sZ Z<|ea Z Z<|cC Z Z<|dZ 2 Z Z<|dZ 3 Z Z<|dZ 4 Z Z<|dZ 5 Z Z<|dZ 6 Z Z<|dZ 7 Z Z<|dZ 8 Z Z<|dZ 9 Z Z<|dZ 10 Z Z<|dZ 11 Z Z<|dZ 12 Z Z<|dZ 13 Z Z<|dZ 14 Z Z<|dZ 15 Z Z<|dZ 16 Z Z<|dZ 17 Z Z<|bB Z (aF Z Z Z)<|dx 19 Z (aX Z)<|dE<|al<|sT<|sG<|bY Z (dM Z Z)<|sA Z<|ap<|aH (j+1,_) ⟨d8,LE.symm⟩ (by show nd.after.length-(j+1)<nd.after.length-j;omega) bW aQ
   ·have N1:j=nd.after.length:=by have:¬(j:Int)<(nd.after.length:Int):=f8;omega
    have LT:FK.kz K.ab k=b:=by
     rw[Y,d7,N1,List.take_length];have:(s.ab.state==1)=true:=by simpa[FR.St.ab]using hs1
     rw[this,Bool.true_and]
    refine aM<|aw<|az<|aq<|sT<|bp Z<|sN<|cf Z (λf9=>?_) λf9=>?_
    ·refine sG<|sM Z<|sM Z<|sM Z<|bQ Z (rL d6 hs am) gfE1 ?_
     rintro v m ⟨rfl,g1,c1,rfl⟩;refine ae<|ap<|al<|sT<|sG<|bY Z (dM Z Z)<|sA Z<|ap<|aH (k+1,g1,c1) I (by show u.NN.length-(k+1)<u.NN.length-k;omega) bW (by
      rw[t7,if_pos (by rw[LT];exact f9)];exact gfE1)
    ·refine aa<|al<|sT<|sG<|bY Z (dM Z Z)<|sA Z<|ap<|aH (k+1,qg,qc) I (by show u.NN.length-(k+1)<u.NN.length-k;omega) bW (by
      show Ent _ (_::aZ e (a.q qg qc) ns (M.wakeN i (k+1))::_);rw[t7,if_neg (by rw[LT];simpa using f9)];exact aQ)
 ·have N2:k=u.NN.length:=by have:¬(k:Int)<(u.NN.length:Int):=d9;omega
  refine aM<|aw<|az<|aq<|bt [aZ e (a.q qg qc) ns (M.wakeN i u.NN.length),bx ns] rfl ⟨rfl,qg,qc,rfl⟩ (by rw[<-N2];exact Ent.drop)
end Go.Y
namespace FR
def Rn.finK(r:Rn)(st:Int)(e k:Nat):Rn:={r with state:=st,ended:=e,NN:=(r.NN.take k).map endS++r.NN.drop k}
def JT(r:Rn)(st:Int)(e k:Nat):(r.finK st e k).NN.length=r.NN.length:=by
 unfold Rn.finK;simp only[List.length_append,List.length_map,List.length_take,List.length_drop];omega
def LA{r:Rn}{st:Int}(E:r.NN[k]?=some s):(r.finK st e k).NN[k]?=some s/\r.finK st e (k+1)=(r.finK st e k).setS k (endS s):=by
 have hk:=(gfGet.1 E).1;have I:((r.NN.take k).map endS).length=k:=by simp;omega
 have J:r.NN.drop k=s::r.NN.drop (k+1):=by
  rw[List.drop_eq_getElem_cons hk]
  congr 1
  exact(gfGet.1 E).2
 refine⟨?_,?_⟩
 ·unfold Rn.finK
  rw[List.getElem?_append_right am,I,Nat.sub_self,J]
  rfl
 ·unfold Rn.finK Rn.setS
  simp only
  congr 1
  rw[List.set_append_right _ _ am,I,Nat.sub_self,J,List.set_cons_zero,List.take_add_one,E,List.map_append,List.append_assoc]
  rfl
def ri(r:Rn)(st:Int)(e:Nat):r.finK st e 0={r with state:=st,ended:=e}:=by
 unfold Rn.finK;simp
def JU(r:Rn)(st:Int)(e:Nat):r.finK st e r.NN.length=r.fin st e:=by
 unfold Rn.finK Rn.fin;simp
def setR_setR(M:En)(i:Nat)(a b:Rn):(M.setR i a).setR i b=M.setR i b:=by
 unfold En.setR;simp
def iQ{r:Rn}(hi:M.runs[i]?=some r)(r':Rn):(M.setR i r').runs[i]?=some r':=by
 have:=(gfGet.1 hi).1;unfold En.setR;simp[this]
theorem ug(M:En)(i:Nat)(r:Rn):(M.setR i r).runs.length=M.runs.length:=by
 unfold En.setR;simp
end FR
namespace Go.Y
open Go.Proofs Tryz
open Go Go.RowKit Go.SL
def oG(st:Int)(hi:M.runs[i]?=some u)(he:M.ends<9223372036854775807)(hl:u.NN.length<=100)(hq:M.NP.length<=1000):dz G 78 [aY e,aA i,aA st] [aZ e a ns M] λv m=>v=.tuple #[]/\∃g c,m=[aZ e (a.q g c) ns (M.endr i u st)]:=by
 have T:=(gfGet.1 hi).1;refine bz func78 Z λE fr hE=>ae<|bA (p:=∃g,a.rg=some g) (λw hw=>iJ hi hw) λ⟨gr,hg⟩=>sS<|cE 2 Z Z<|bF (au (v:=dQ gr M.runs.length a.rc) Z) (dY hg)<|sM Z<|bY Z (aV (z:=8) Z Z Z Z T)<|bm 3 Z<|sO<|Md (j:=3) (u':={u with state:=st}) hi hg Z Z Z Z am Z Z Z Z Z<|sN<|sQ ?_
 obtain⟨M1,K⟩:∃M1,M1=M.setR i {u with state:=st}:=⟨_,rfl⟩;rw[<-K];have BT:M1.ends=M.ends:=by rw[K];rfl
 have Fd:M1.runs.length=M.runs.length:=by rw[K];exact FR.ug _ _ _
 have In:M1.runs[i]?=some {u with state:=st}:=by rw[K];exact FR.iQ hi _
 refine sG<|cE 7 Z Z<|bF (au (v:=aA (M1.ends:Int)) Z) (ck Z)<|sP (bH (r:=((M.ends+1:Nat):Int)) Z Z (by rw[BT,iP am];omega))<|cZ Z<|bm 7 Z<|sO<|tO (a:=a) (M:=M1) (M':={M1 with ends:=M.ends+1}) Z Z Z am Z Z Z Z<|sN<|sQ ?_
 obtain⟨M2,O⟩:∃M2,M2={M1 with ends:=M.ends+1}:=⟨_,rfl⟩;rw[<-O];have LE:M2.ends=M.ends+1:=by rw[O]
 have t7:M2.runs.length=M.runs.length:=by rw[O];exact Fd
 have t8:M2.runs[i]?=some {u with state:=st}:=by rw[O];exact In
 refine sZ Z<|ea Z Z<|dy 2 Z Z Z<|bN Z (au (v:=dQ gr M2.runs.length a.rc) Z) (dY hg)<|cC Z Z<|cC Z Z<|dy 7 Z Z Z<|bN Z (au (v:=aA (M2.ends:Int)) Z) (ck Z)<|dx 9 Z (aV (z:=8) Z Z Z Z (by rw[t7];exact T))<|dx 10 Z (bd 7 Z)<|dI 11 Z<|Md (j:=7) (u':=u.finK st (M.ends+1) 0) t8 hg Z Z Z Z am Z Z (by rw[FR.ri]) (by rw[FR.ri]) (by rw[FR.ri,LE];rfl)<|dK [false,false] ak<|dE<|sT<|sQ<|sS<|sB Z<|ai<|aO (X:=Nat) (λk=>[(6,aA k),(0,aY e),(1,aA i)]) (λk=>aZ e a ns (M2.setR i (u.finK st (M.ends+1) k))::fr) (λk=>k<=u.NN.length) (λk=>u.NN.length-k) 0 (Nat.zero_le _) bW aQ ?_
 intro k hk;obtain⟨I,d6⟩:∃I,I=u.finK st (M.ends+1) k:=⟨_,rfl⟩;obtain⟨M3,J⟩:∃M3,M3=M2.setR i I:=⟨_,rfl⟩;rw[<-d6,<-J];have Y:M3.runs[i]?=some I:=by rw[J];exact FR.iQ t8 _
 have d9:M3.runs.length=M.runs.length:=by rw[J,FR.ug];exact t7
 have LT:I.id=u.id:=by rw[d6];rfl
 have wf:I.NN.length=u.NN.length:=by rw[d6];exact FR.JT _ _ _ _
 refine sQ<|bp Z<|cE 2 Z Z<|bF (au (v:=dQ gr M3.runs.length a.rc) Z) (dY hg)<|sM Z<|sP (aV (z:=8) Z Z Z Z (by rw[d9];exact T))<|bm 6 Z<|bF (au (v:=jV (a.ra I.id) I) Z) (cR (j:=6) Y hg Z)<|sP (bh Z Z)<|sP (bq Z Z Z)<|sN<|aC Z (λf7=>?_) λf7=>?_
 ·have d7:k<u.NN.length:=by have:(k:Int)<(I.NN.length:Int):=f7;omega
  obtain⟨s,hs⟩:∃s,u.NN[k]?=some s:=⟨u.NN[k],by simp[d7]⟩;obtain⟨d8,f8⟩:=FR.LA (st:=st) (e:=M.ends+1) hs;rw[<-d6]at d8 f8;refine aa<|sT<|sQ<|ai<|sS<|cE 2 Z Z<|bF (au (v:=dQ gr M3.runs.length a.rc) Z) (dY hg)<|sM Z<|sP (aV (z:=8) Z Z Z Z (by rw[d9];exact T))<|bm 6 Z<|bF (au (v:=jV (a.ra I.id) I) Z) (cR (j:=6) Y hg Z)<|sM Z<|sP (aV (z:=7) Z Z Z Z (by rw[wf];exact d7))<|bm 0 Z<|bF (au (v:=aA s.state) Z) (ee (j:=0) Y Z d8 Z)<|sB Z<|sS<|sM Z (cj Z (cy Z Z Z) dp λmt NU=>(sM Z ?_))
  refine bK mt (by rfl)<|cz Z Z (λ_=>rfl) (bg Z) dp<|bK mt (by rfl)<|cz Z Z (λ_=>rfl) (cy Z Z Z) dp<|cj Z (dV Z Z Z) dp λt6 NV=>sN<|cf Z (λt6=>?_) λt6=>?_
  ·have f9:¬(s.state=5\/s.state=6):=by first|(simp_all;done)|(simp_all;omega)
   refine sG<|cE 2 Z Z<|bF (au (v:=dQ gr M3.runs.length a.rc) Z) (dY hg)<|sM Z<|sP (aV (z:=8) Z Z Z Z (by rw[d9];exact T))<|bm 6 Z<|bF (au (v:=jV (a.ra I.id) I) Z) (cR (j:=6) Y hg Z)<|sM Z<|sP (aV (z:=7) Z Z Z Z (by rw[wf];exact d7))<|bm 0 Z<|sO<|jl (j:=0) (s':={s with state:=7}) Y Z d8 Z Z Z Z am Z Z<|ap<|al<|sT<|sG<|bY Z (dM Z Z)<|sA Z<|ap<|aH (k+1) d7 am bW (by
    rw[f8,J,FR.setR_setR];have:FR.endS s={s with state:=7}:=if_neg f9;rw[this];exact aQ)
  ·have f9:s.state=5\/s.state=6:=by first|(simp_all;done)|(simp_all;omega)
   refine aa<|al<|sT<|sG<|bY Z (dM Z Z)<|sA Z<|ap<|aH (k+1) d7 am bW (by
    have h0:FR.endS s=s:=if_pos f9;have h1:I.setS k (FR.endS s)=I:=by
     rw[h0];unfold FR.Rn.setS;have h2:=gfGet.1 d8;obtain⟨h2,h3⟩:=h2;rw[<-h3,List.set_getElem_self]
    rw[f8,h1,J];exact aQ)
 ·have NT:k=u.NN.length:=by have:¬(k:Int)<(I.NN.length:Int):=f7;omega
  refine aM<|aw<|az<|aq<|sT<|sG<|sM Z<|cE 2 Z Z<|bF (au (v:=dQ gr M3.runs.length a.rc) Z) (dY hg)<|sM Z<|sP (aV (z:=8) Z Z Z Z (by rw[d9];exact T))<|bm 0 Z<|bF (au (v:=aU I.id) Z) (cR (j:=0) Y hg Z)<|bQ Z (Do (M:=M3) I.id (show M3.NP.length<=1000 by rw[J,O,K];exact hq)) aQ ?_
  rintro v m ⟨rfl,g1,c1,rfl⟩;refine ae<|ap<|bt [aZ e (a.q g1 c1) ns (M.endr i u st)] rfl ⟨rfl,g1,c1,rfl⟩ ?_
  have:M.endr i u st=M3.drop I.id:=by
   rw[LT,J,d6,NT,FR.JU,O,K];unfold FR.En.endr FR.En.setR;simp
  rw[this];exact aQ
def qh(hi:M.runs[i]?=some u)(he:M.ends<9223372036854775807)(hl:u.NN.length<=100)(hq:M.NP.length<=1000):dz G 76 [aY e,aA i] [aZ e a ns M] λv m=>v=.tuple #[]/\∃g c,m=[aZ e (a.q g c) ns (M.settle i)]:=by
 have f7:=(gfGet.1 hi).1;have f8:∀s:FR.St,FK.over s.ab=(decide (s.state=5)||decide (s.state=6)||decide (s.state=7)):=λs=>rfl;refine bz func76 Z λE fr hE=>ae<|bA (p:=∃g,a.rg=some g) (λw hw=>iJ hi hw) λ⟨gr,hg⟩=>sS<|sB Z<|sQ<|sS<|sB Z<|ai<|aO (X:=Nat×Bool) (λx=>[(5,aA x.1),(4,.bool x.2),(0,aY e),(1,aA i)]) (λ_=>aZ e a ns M::fr) (λx=>x.1<=u.NN.length/\((u.NN.take x.1).all λs=>FK.over s.ab)=true/\x.2=!((u.NN.take x.1).all λs=>s.state==5)) (λx=>u.NN.length-x.1) (0,false) ⟨Nat.zero_le _,rfl,rfl⟩ bW aQ ?_
 rintro⟨k,b⟩ ⟨hk,I,hb⟩;replace hk:k<=u.NN.length:=hk;replace hb:b=!((u.NN.take k).all λs=>s.state==5):=hb;replace I:((u.NN.take k).all λs=>FK.over s.ab)=true:=I;refine sQ<|bp Z<|cE 2 Z Z<|bF (au (v:=dQ gr M.runs.length a.rc) Z) (dY hg)<|bY Z (aV (z:=8) Z Z Z Z f7)<|bm 6 Z<|bF (au (v:=jV (a.ra u.id) u) Z) (cR (j:=6) hi hg Z)<|sP (bh Z Z)<|sP (bq Z Z Z)<|sN<|aC Z (λK=>?_) λK=>?_
 ·have T:k<u.NN.length:=by have:(k:Int)<(u.NN.length:Int):=K;omega
  obtain⟨s,hs⟩:∃s,u.NN[k]?=some s:=⟨u.NN[k],by simp[T]⟩;have f9:u.NN.take (k+1)=u.NN.take k++[s]:=by rw[List.take_add_one,hs];rfl
  refine aa<|sT<|sQ<|ai<|sS<|cE 2 Z Z<|bF (au (v:=dQ gr M.runs.length a.rc) Z) (dY hg)<|bY Z (aV (z:=8) Z Z Z Z f7)<|bm 6 Z<|bF (au (v:=jV (a.ra u.id) u) Z) (cR (j:=6) hi hg Z)<|bY Z (aV (z:=7) Z Z Z Z T)<|bm 0 Z<|bF (au (v:=aA s.state) Z) (ee (j:=0) hi Z hs Z)<|sA Z<|ap<|sT<|sQ<|sS<|sM Z (cj Z (cy Z Z Z) dp λd6 t8=>(sM Z ?_))
  refine bK d6 (by rfl)<|cz Z Z (λ_=>rfl) (bg Z) dp<|bK d6 (by rfl)<|cz Z Z (λ_=>rfl) (cy Z Z Z) dp<|cj Z (dV Z Z Z) dp λd7 wf=>sM Z ?_
  refine bK d7 (by rfl)<|cz Z Z (λ_=>rfl) (bg Z) dp<|bK d7 (by rfl)<|cz Z Z (λ_=>rfl) (cy Z Z Z) dp<|cj Z (dV Z Z Z) dp λd8 BT=>sN<|cf Z (λd8=>?_) λd8=>?_
  ·have hno:FK.over s.ab=false:=by rw[f8];simp_all
   refine an<|aD<|aJ<|aD<|bM<|aJ<|aD<|bt [aZ e a ns (M.settle i)] rfl ⟨rfl,a.qg,a.qc,rfl⟩ ?_
   have h1:u.ab.NN.all FK.over=false:=by
    rw[List.all_eq_false];exact⟨s.ab,cg (FR.gg hs),by rw[hno];decide⟩
   have:M.settle i=M:=by
    unfold FR.En.settle;rw[hi];simp only[h1]
    rfl
   rw[this];exact aQ
  ·have mt:FK.over s.ab=true:=by rw[f8];simp_all;omega
   refine aa<|sT<|sG<|sM Z (cj Z (bg Z) dp λd9 Fd=>?_)
   refine bK d9 (by rfl)<|cz Z Z (λ_=>rfl) (bg Z) dp<|bK d9 (by rfl)<|cz Z Z (λ_=>rfl) (cy Z Z Z) dp<|cj Z (xf Z Z Z) dp λt6 In=>sA Z<|ap<|al<|sT<|sG<|bY Z (dM Z Z)<|sA Z<|ap<|aH (k+1,_) ⟨T,by rw[f9,List.all_append,I];simp[mt],by show t6=_;rw[f9,List.all_append];simp_all;rfl⟩ (by show u.NN.length-(k+1)<u.NN.length-k;omega) bW aQ
 ·have t7:k=u.NN.length:=by have:¬(k:Int)<(u.NN.length:Int):=K;omega
  rw[t7,List.take_length]at I hb;have h1:u.ab.NN.all FK.over=true:=by
   show(u.NN.map FR.St.ab).all _=true;rw[List.all_map];exact I
  have h5:(u.ab.NN.all λs=>s.state==5)=!b:=by
   show(u.NN.map FR.St.ab).all _=_;rw[List.all_map,hb,Bool.not_not]
   rfl
  have J:M.settle i=M.endr i u (if (!b)=true then 2 else 3):=by
   unfold FR.En.settle;rw[hi];simp only[h1,h5,if_true]
  refine aM<|aw<|az<|aq<|sT<|bp Z<|sN<|cf Z (λO=>?_) λO=>?_
  ·refine sG<|sM Z<|sM Z<|bQ Z (oG 3 hi he hl hq) aQ ?_
   rintro v m ⟨rfl,g1,c1,rfl⟩;refine ae<|ap<|bt [aZ e (a.q g1 c1) ns (M.settle i)] rfl ⟨rfl,g1,c1,rfl⟩ (by
    have Y:b=true:=O;rw[J,Y];exact aQ)
  ·refine sG<|sM Z<|sM Z<|bQ Z (oG 2 hi he hl hq) aQ ?_
   rintro v m ⟨rfl,g1,c1,rfl⟩;refine ae<|ap<|bt [aZ e (a.q g1 c1) ns (M.settle i)] rfl ⟨rfl,g1,c1,rfl⟩ (by
    have Y:b=false:=O;rw[J,Y];exact aQ)
end Go.Y
