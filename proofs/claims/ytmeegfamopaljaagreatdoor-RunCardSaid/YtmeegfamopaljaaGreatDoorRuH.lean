/- The engine's fails, walked. -/
import Derived.Test.YtmeegfamopaljaaGreatDoorRuG
import Derived.Test.YtmeegfamopaljaaGreatDoorRuF
import Derived.Test.YtmeegfamopaljaaGreatDoorRuE
import Derived.Laws.BitsAllLaws
import Derived.Test.YtmeegfamopaljaaGreatDoorRuA
import Derived.WalkKit
import Derived.Laws.IdiomStrings
import Derived.Shelf.Strconv.Itoa3
import Derived.Shelf.Strconv.AtoiErr
import Derived.Test.YtmeegfamopaljaaGreatDoorChecked
import Derived.Lib.ItoaLen
import Derived.Lib.ItoaMem
import Derived.Lib.AppendIntMem
import Derived.Test.YtmeegfamopaljaaGreatDoorRuB
set_option maxHeartbeats 4000000
set_option maxRecDepth 10000
variable {G:Go.SL.Env->Prop} {bs:List UInt8} {A:Option Go.Addr} {P:List (Nat×ByteArray)} {S:FK.En} {Q:Go.Exit->Go.Act->Go.World->Prop} {R:FK.Rn} {b c d e i id j k n:Nat} {M:List (ByteArray×Nat)} {p:Go.Y.EA} {ts:List (Nat×Go.Value)} {g:Option (Nat×Bool)} {l r:List Go.SL.HP} {s:FK.Sp} {E:Go.SL.Env} {x:Go.Operand} {D:List Go.Deferred} {af:Array Go.Edge} {wh:Int} {ty:Go.TypeId} {f:FK.Flow} {v:Go.Value} {K:Type}
namespace Go.Y
open Go.Proofs Go.RowKit Go.SL
theorem aft_lt {fl:FK.Flow} (h:tU fl):∀i,∀k∈FK.aft fl.KW i,k<fl.KW.length:=λi k hk=>by
 unfold FK.aft at hk
 split at hk
 · rename_i n I
   obtain⟨x,E,rfl⟩:=List.mem_map.1 hk;obtain⟨J,K⟩:=h n (bY I) x E;omega
 · cases hk
theorem sX {st:Int} {T:List Nat}:((R.turned k s st).skips T).KV.length=R.KV.length:=by
 unfold FK.Rn.skips;rw[show({R.turned k s st with KV:=T.foldl (FK.skipK (R.turned k s st).fl.KW) (R.turned k s st).KV}:FK.Rn).KV=T.foldl (FK.skipK (R.turned k s st).fl.KW) (R.turned k s st).KV from rfl,FK.lq];unfold FK.Rn.turned FK.Rn.setS;simp
theorem BZ {nd:FK.Node} (hG:∀E w,G E->E.is w->Tab w) (J:S.getR id=some R) (hs:R.KV[k]?=some s) (hnd:R.fl.KW[k]?=some nd) (K3:R.KV.length=R.fl.KW.length) (hn:R.fl.KW.length<=12) (Y:tU R.fl) (K7:∀n∈R.fl.KW,(i64 n.KZ/\i64 n.close/\i64 n.beat/\i64 n.base/\i64 n.cap/\i64 n.K0)/\∀x∈n.after,i64 x)
 (hq:S.KX.length<=300) (hl:S.tms.length<=99997) (Fd:S.ends<9223372036854775807) (Le:S.now<=4611686018427387904) (K8:S.sets+1<9223372036854775807) (mt:S.seed<18446744073709551616) (h1:1<=nd.base) (h2:nd.base<=nd.cap) (h3:nd.cap<=1048576) (h4:0<=nd.K0) (h5:nd.K0<=1048576) (K:0<=fW nd.base nd.cap nd.K0 s.KU S.seed/\fW nd.base nd.cap nd.K0 s.KU S.seed<=4611686018427387904) :
 dx G 234 [aX e,iz ⟨id,(k:Int),wh⟩] [aN e p S] λv m=>v=.tuple #[]/\((s.KU<nd.KZ/\m=[aN e p (S.rests id k R s (fW nd.base nd.cap nd.K0 s.KU S.seed).toNat)])\/(nd.KZ<=s.KU/\∃left T,FK.Ordering R.fl.KW left T/\(∀i,left.testBit i=true->∃j∈FK.aft R.fl.KW i,left.testBit j=true)/\m=[aN e p (S.dies id k R s T)])):=by
 have Lc:=(gfGet.1 hnd).1;have I:=FK.jm J hs;have BT:=FK.setS_at (R:=R) (s':={s with token:=0}) hs;refine bA Tryz.func234 Z λE fr hE=>aa ?_;refine bt (λw hw=>mL J hnd hw) λhA=>?_;obtain⟨A,c,hu,-⟩:=hA;refine sS<|sO (cR Z Z λb3=>(sN (sQ (sZ Z (dT Z Z (bC Z (cI Z) (bC Z (bl 1 Z) ?_)))))))
 refine jh 3 Z (au Z) (bE λ_ _ _=>rfl) ?_;refine dj 4 Z (bl 0 Z)<|bQ Z (au Z) (ah Z)<|bQ Z (gy (a:=id) (v:=aX (p.fb id)) Z fc Z Z (gi J)) dZ<|vw Z (cH (z:=.pointer none) Z λb4=>?_)
 refine dK [true,true,true] (ai dZ (ai (ah Z) (ai (bE λ_ _ _=>rfl) ak))) ?_;refine dA 8 Z<|co Z Z Z Z Z (by show 0<1;omega) ?_
 refine dK [false,false,false] ak<|dE<|sT ?_
 refine sQ<|cw (X:=Nat) (λb=>[(0,aX e),(3,aX b3),(4,aX b4),(5,.pointer (some ⟨(p.ra id).gs,0+k*3,none⟩)),(6,aX b)]) (λb=>aN e p (S.leave id k)::blk b3 268 (ir ⟨id,(k:Int),wh⟩).toArray::ik b4 (aX (p.fb id))::blk b 46 (bk nd (.slice A nd.after.length c)).toArray::fr) (λ_=>True) ?_ ?_
 ·
  refine aG b4 #[aX (p.fb id)] rfl<|sZ Z<|dT Z Z<|bQ Z (bO (vs:=ir ⟨id,(k:Int),wh⟩) Z) (bm Z)<|jh 3 Z (au Z) (ah Z)<|dt 0 Z Z Z<|bC Z (bl 1 Z)<|bQ Z (au (v:=(p.ra id).nv R) Z) (cK J Z)<|bC Z (bl 1 Z)<|bQ Z (au Z) (ah Z)<|bC Z (aS (z:=7) Z Z Z Z Lc)<|bQ Z (bO (vs:=bk nd (.slice A nd.after.length c)) Z) (fw J hnd hu) ?_
  refine io 2 12 Z Z Z Z eA (ed Z (lO (wh:=wh) J hs am) (Ent.trans (Ent.sel HasEng.sel) aT) ?_) (cH (z:=.agg #[aw 0,aw 0,aw 0,aw 0,aw 0,aw 0,cx]) Z λb6=>?_)
  ·
   rintro v m ⟨rfl,rfl⟩;refine aa ?_;refine dK [true,true,true,true,false] (ai (by first|exact fw I hnd hu|exact fw J hnd hu) (ai (ah Z) (ai (by first|exact cK I Z|exact cK J Z) (ai (ah Z) ak)))) ?_;refine dA 12 Z (cH (z:=.agg #[aw 0,aw 0,aw 0,aw 0,aw 0,aw 0,cx]) Z λb6=>?_);refine dK [true,true,true,true] (ai (by first|exact fw I hnd hu|exact fw J hnd hu) (ai (ah Z) (ai (by first|exact cK I Z|exact cK J Z) (ai (ah Z) ak)))) ?_;refine dj 13 Z (aU Z) ?_;refine dA 14 Z<|bh (vs:=bk nd (.slice A nd.after.length c)) Z (m:=7) Z Z Z Z (by simp[bk,Value.oneCell']) (by show 0+7<=7;omega) ?_
   exact dK [false,false,false,false] ak<|dE<|aG b6 (bk nd (.slice A nd.after.length c)).toArray Z<|aG b3 (ir ⟨id,(k:Int),wh⟩).toArray Z<|aW b6 trivial bV aJ
  ·
   refine dK [true,true,true,true,true] (ai (by first|exact fw I hnd hu|exact fw J hnd hu) (ai (ah Z) (ai (by first|exact cK I Z|exact cK J Z) (ai (ah Z) (ai (bm Z) ak))))) ?_;refine dA 2 Z<|ed Z (lO (wh:=wh) J hs am) (Ent.trans (Ent.sel HasEng.sel) aT) ?_
   rintro v m ⟨rfl,rfl⟩;refine aa ?_;refine dK [true,true,true,true,false] (ai (by first|exact fw I hnd hu|exact fw J hnd hu) (ai (ah Z) (ai (by first|exact cK I Z|exact cK J Z) (ai (ah Z) ak)))) ?_;refine dj 13 Z (aU Z) ?_;refine dA 14 Z<|bh (vs:=bk nd (.slice A nd.after.length c)) Z (m:=7) Z Z Z Z (by simp[bk,Value.oneCell']) (by show 0+7<=7;omega) ?_
   exact dK [false,false,false,false] ak<|dE<|aG b6 (bk nd (.slice A nd.after.length c)).toArray Z<|aG b3 (ir ⟨id,(k:Int),wh⟩).toArray Z<|aW b6 trivial bV aJ
 rintro b6 -
 refine sQ<|sQ<|sZ Z<|dT Z Z<|dt 1 Z Z Z<|bQ Z (au (v:=aw s.KU) Z) (e9 I BT Z)<|bC Z (bl 0 Z)<|bQ Z (au Z) (ah Z)<|bC Z (bz Z Z Z)<|dE<|sT ?_
 refine aB Z (λK9=>?_) λK9=>?_
 ·
  refine sS<|cG 0 Z Z ?_
  refine sO<|li (S:=S.leave id k) (R:=R.setS k {s with token:=0}) (s:={s with token:=0}) (j:=0) (s':={s with token:=0,state:=4}) I BT Z Z Z Z am Z Z ?_
  refine sN<|sQ ?_
  obtain⟨T,hT⟩:∃T,T=(S.leave id k).setR id (R.turned k s 4):=⟨_,rfl⟩;have O:T.getR id=some (R.turned k s 4):=by rw[hT];exact FK.dO I
  have Ld:(R.turned k s 4).KV[k]?=some {s with token:=0,state:=4}:=FK.setS_at BT;have Lg:T.now=S.now:=by rw[hT,FK.fe J hs];rfl
  have Lh:T.sets=S.sets:=by rw[hT,FK.fe J hs];rfl
  have K5:T.seed=S.seed:=by rw[hT,FK.fe J hs];rfl
  have Li:T.tms.length<=S.tms.length:=by rw[hT];exact FK.np
  refine aq (l':=aN e p T::blk b3 268 (ir ⟨id,(k:Int),wh⟩).toArray::ik b4 (aX (p.fb id))::blk b6 46 (bk nd (.slice A nd.after.length c)).toArray::fr) (by rw[hT];exact aT) ?_;rw[<-K5] at K mt;refine sZ Z<|dT Z Z<|dt 6 Z Z Z ?_
  refine jh 3 Z (au Z) (bE λ_ _ _=>rfl) ?_;refine dj 4 Z (bl 0 Z)<|bQ Z (au Z) (ah Z)<|bC Z (bl 1 Z)<|bQ Z (au Z) (ah Z)<|bC Z (bI (cs:=#[.int .u64 id,aw (k:Int),aw 1]) Z Z Z Z Z)<|cv Z Z<|bQ Z (bO (vs:=bk nd (.slice A nd.after.length c)) Z) (bm Z)<|cv Z Z<|dt 1 Z Z Z<|bQ Z (au (v:=aw s.KU) Z) (e9 O Ld Z)<|cv Z Z<|dt 0 Z Z Z ?_
  refine jh 18 Z (au (v:=.int .u64 T.seed) Z) (bE λ_ _ _=>rfl) ?_;refine dA 19 Z<|ed Z (DN nd A nd.after.length c s.KU T.seed h1 h2 h3 h4 h5 mt) aT ?_
  rintro v m ⟨rfl,rfl⟩;rw[List.nil_append];refine dK [false,false,false,true,true,true] (ai (ah Z) (ai (ah Z) (ai (bE λ_ _ _=>rfl) ak))) ?_;refine dA 20 Z<|ed Z (lS (S:=T) (fW nd.base nd.cap nd.K0 s.KU T.seed) am K.1 K.2) aT ?_
  rintro v m ⟨rfl,rfl⟩;refine aa ?_;refine dK [true,true,true] (ai (ah Z) (ai (ah Z) (ai (bE λ_ _ _=>rfl) ak))) ?_;refine dA 21 Z<|ed Z (qT (S:=T) ⟨id,(k:Int),1⟩ (T.later (fW nd.base nd.cap nd.K0 s.KU T.seed).toNat) (by unfold FK.En.later;omega) (by unfold FK.En.later;omega) am am) aT ?_
  rintro v m ⟨rfl,rfl⟩;refine aa<|dK [true,true,false] (ai (ah Z) (ai (ah Z) ak))<|dE<|sT<|an<|aC<|bD [_] rfl ⟨rfl,.inl ⟨am,rfl⟩⟩ ?_
  have K6:T.setT ⟨id,(k:Int),1⟩ (T.later (fW nd.base nd.cap nd.K0 s.KU T.seed).toNat)=S.rests id k R s (fW nd.base nd.cap nd.K0 s.KU S.seed).toNat:=by rw[K5,hT];rfl
  rw[<-K6];exact Ent.cons<|Ent.drop.trans<|Ent.drop.trans Ent.drop
 ·
  refine ae<|sT<|sS<|cG 0 Z Z ?_
  refine sO<|li (S:=S.leave id k) (R:=R.setS k {s with token:=0}) (s:={s with token:=0}) (j:=0) (s':={s with token:=0,state:=6}) I BT Z Z Z Z am Z Z ?_
  refine sN<|sQ ?_
  have O:∀T,((S.leave id k).setR id ((R.turned k s 6).skips T)).getR id=some ((R.turned k s 6).skips T):=λT=>FK.dO I;refine aq (l':=aN e p ((S.leave id k).setR id ((R.turned k s 6).skips []))::ik b4 (aX (p.fb id))::blk b3 268 (ir ⟨id,(k:Int),wh⟩).toArray::blk b6 46 (bk nd (.slice A nd.after.length c)).toArray::fr) (Ent.cons gfE1) ?_;refine sG<|aR Z Z Z Z<|da Z<|bn 0 Z<|bn 1 Z<|bF (au (v:=(p.ra id).nv R) Z) (cK (O []) Z) ?_
  refine sP (gP Z Z) ?_;refine sO (nR Z Z Z hE (Bo (l:=R.fl.KW) (F:=255) (cap:=#[aX b4]) (L:=λT=>[aN e p ((S.leave id k).setR id ((R.turned k s 6).skips T)),ik b4 (aX (p.fb id))]) hn (aft_lt Y) (λn hn x hx=>(Y n hn x hx).1) (λ_ _=>rfl) hG (λn T w F Lb hF=>(by
 obtain⟨F1,F2,f1,_,_,hp,_⟩:=Lb;exact Ew (R:=(R.turned k s 6).skips T) (O T) hp (λq hq=>hF q (f1 q hq)) K7)) (λn T j hj _ _=>(by
 refine(zI (h:=n) (c:=b4) (O T) (by rw[sX];exact K3) Y (by show R.fl.KW.length<=100;omega) hj).mono ?_;rintro v m ⟨rfl,rfl⟩;refine⟨_,⟨rfl,rfl⟩,?_⟩;rw[FK.setR_setR];have In:({(R.turned k s 6).skips T with KV:=FK.skipK ((R.turned k s 6).skips T).fl.KW ((R.turned k s 6).skips T).KV j}:FK.Rn)=(R.turned k s 6).skips (T++[j]):=by
  unfold FK.Rn.skips;rw[List.foldl_append]
  rfl
 rw[In];exact aT))) aT ?_)
  rintro v m ⟨left,T,rfl,K4,wf,rfl⟩;refine aD<|sN<|sG<|sM Z<|bn 0 Z<|aR Z Z Z Z ?_
  refine bW Z (pX (O T) (by rw[sX];omega) (by show(S.leave id k).KX.length<=400;rw[FK.mT];omega) (by show(S.leave id k).tms.length<=99999;have:=FK.np (S:=S) (id:=id) (k:=k);omega) (by show(S.leave id k).ends<_;rw[FK.fe J hs];exact Fd)) aT ?_;refine aa<|ao ?_
  exact bD [aN e p (S.dies id k R s T)] rfl ⟨rfl,.inr ⟨am,left,T,K4,wf,rfl⟩⟩<|Ent.cons<|Ent.drop.trans<|Ent.drop.trans Ent.drop
theorem CC (up:Nat) (T:S.now<=up) (J:up<=4611686018427387904) (Y:S.sets<9223372036854775808) (mt:S.tms.length<=99999) :
 dQ 236 [aX p.w,.int .u64 up] [aN e p S] λv m=>(∃(x:FK.KD) (E:List FK.KD),FK.IsMin S.tms x E/\x.2<=up/\v=.tuple #[iz x.1,.int .u64 x.2,.bool true]/\m=[aN e p {S with now:=x.2,tms:=E}])\/
  ((∀y∈S.tms,up<y.2)/\v=.tuple #[iz ⟨0,0,0⟩,.int .u64 0,.bool false]/\m=[aN e p {S with now:=up}]):=by
 refine lT λW I=>(Gi p.w up I.inv (by rw[I.now];exact T) J (Nat.lt_of_le_of_lt I.seq Y) (by have:=congrArg List.length I.tms;rw[List.length_map] at this;omega)).mono ?_;rintro v m (⟨S',x,K,O,h3,h4,h5,rfl,rfl⟩|⟨S',K,O,h3,h4,h5,rfl,rfl⟩)
 · rw[I.tms] at K
   exact⟨_,⟨S',x.2,S.sets,S'.tms.map FK.kd,rfl,⟨h4,h5▸I.seq,h3,rfl⟩,.inl ⟨x,_,K,O,rfl,rfl⟩⟩,aT⟩
 · rw[I.tms] at K O
   exact⟨_,⟨S',up,S.sets,S.tms,rfl,⟨h4,h5▸I.seq,h3,O⟩,.inr ⟨K,rfl,rfl⟩⟩,aT⟩
theorem zP (J:S.getR id=some R) (K:R.KV.length<=100) (O:S.KX.length<=400) (T:S.tms.length<=99999) (I:S.ends<9223372036854775807):dx G 209 [aX e,aQ id] [aN e p S] λv m=>v=.tuple #[]/\m=[aN e p (S.finish id 4)]:=by
 refine bA Tryz.func209 Z λE fr Y=>aa<|sG<|sM Z<|sM Z ?_
 refine bW Z (mV J K O T I) aT ?_;exact aa<|ao<|bD [_] rfl ⟨rfl,rfl⟩ aT
end Go.Y
namespace FK
def vM (p:Nat×Nat) (c:UInt8):Nat×Nat:=((p.1+c.toNat)%65521,(p.2+(p.1+c.toNat)%65521)%65521)
def fY (bs:List UInt8):Nat×Nat:=bs.foldl vM (1,0)
def ut (bs:List UInt8):Nat:=(fY bs).2*65536+(fY bs).1
theorem vt (bs:List UInt8):(fY bs).1<65521/\(fY bs).2<65521:=by
 have h:∀(l:List UInt8) (p:Nat×Nat),p.1<65521/\p.2<65521->(l.foldl vM p).1<65521/\(l.foldl vM p).2<65521:=by
  intro l
  induction l with
  | nil=>exact λp h=>h
  | cons c l E=>exact λp _=>E _ ⟨Nat.mod_lt _ am,Nat.mod_lt _ am⟩
 exact h bs (1,0) ⟨by decide,by decide⟩
end FK
namespace Go.Y
open Go.Proofs
open Go Go.RowKit Go.SL
theorem wu32 {a:Nat} (h:a<4294967296):IntKind.u32.wrap (a:Int)=(a:Int):=by
 simp only[IntKind.wrap,IntKind.bits,IntKind.signed];simp;omega
theorem FP {p:HP} (c:Nat) (T:Reads p A bs) (hl:bs.length<=9223372036854775807):dx G 201 [.slice A bs.length c] [p] λv m=>v=.int .u32 (FK.ut bs)/\m=[p]:=by
 refine bA Tryz.func201 Z λE fr hE=>aa<|sS<|sB Z<|sS<|sA Z<|sB Z<|sQ<|bq Z<|sP (bp Z Z)<|sM Z<|sN ?_
 refine ag ?_;refine aO (X:=Nat) (λk=>[(9,aw k),(8,aw bs.length),(7,.slice A bs.length c),(3,.int .u32 (FK.fY (bs.take k)).1),(4,.int .u32 (FK.fY (bs.take k)).2)]) (λ_=>p::fr) (λk=>k<=bs.length) (λk=>bs.length-k) 0 (Nat.zero_le _) bV aT ?_;intro k hk;refine sS<|sP (bz Z Z Z)<|sN<|sQ ?_
 refine aB Z (λK=>?_) λK=>?_
 ·
  have I:k<bs.length:=am;obtain⟨x,Y⟩:∃x,bs[k]?=some x:=⟨bs[k],by simp[I]⟩;obtain⟨g,o,hA⟩:=T.form (by intro h;rw[h] at I;simp at I);subst hA;have J:FK.fY (bs.take (k+1))=FK.vM (FK.fY (bs.take k)) x:=by rw[List.take_add_one,Y];unfold FK.fY;rw[List.foldl_append];rfl
  obtain⟨h1,h2⟩:=FK.vt (bs.take k);have mt:x.toNat<256:=x.toNat_lt;refine ae<|sT<|sQ<|ag<|sS<|sP (aS (z:=1) Z Z Z Z I) ?_
  refine bF (au (v:=.int .u8 x.toNat) Z) (λw hw=>by have:=T.at .head Z Y w hw;simpa using this) ?_;refine sB Z<|bq Z<|ch Z (dN (r:=(x.toNat:Int)) Z Z Z (wu32 am))<|sP (bc (r:=(((FK.fY (bs.take k)).1+x.toNat:Nat):Int)) Z Z (wu32 am))<|sP (nT (r:=((((FK.fY (bs.take k)).1+x.toNat)%65521:Nat):Int)) Z Z am (ou (b:=65521) am am))<|sB Z<|sG<|sM Z<|ch Z (bc (r:=(((FK.fY (bs.take k)).2+((FK.fY (bs.take k)).1+x.toNat)%65521:Nat):Int)) Z Z (wu32 am))<|sP (nT (r:=((((FK.fY (bs.take k)).2+((FK.fY (bs.take k)).1+x.toNat)%65521)%65521:Nat):Int)) Z Z am (ou (b:=65521) am am))<|sA Z<|ao ?_
  refine al<|sT<|sG<|sP (bc (r:=((k+1:Nat):Int)) Z Z dP)<|sM Z<|ao ?_
  exact aE (k+1) I am ⟨rfl,rfl,rfl,by rw[J];rfl,by rw[J];rfl,trivial⟩ aT
 ·
  have O:k=bs.length:=am;rw[O,List.take_length];obtain⟨h1,h2⟩:=FK.vt bs;refine aL<|aA<|az<|ap<|sT<|bq Z<|sP (nS (r:=(((FK.fY bs).2*65536:Nat):Int)) Z Z am (by rw[<-wu32 (a:=(FK.fY bs).2*65536) am];congr 1))<|sM Z ?_
  refine sP (Cp (r:=((FK.ut bs:Nat):Int)) Z Z (by
 rw[u32_or_nat _ _ am am];unfold FK.ut
 congr 1
 have:=Nat.two_pow_add_eq_or_of_lt (i:=16) (b:=(FK.fY bs).1) am (FK.fY bs).2;rw[Nat.mul_comm,<-this])) ?_
  exact sB Z<|an<|ar [_] rfl Z ⟨rfl,rfl⟩ aT
end Go.Y
namespace FK
def xb (s:Nat):List UInt8:=[UInt8.ofNat (s/16777216),UInt8.ofNat (s/65536),UInt8.ofNat (s/256),UInt8.ofNat s]
def frame (bs:List UInt8):List UInt8:=(dW bs.length++bs)++xb (ut (dW bs.length++bs))
end FK
namespace Go.Y
open Go.Proofs
open Go Go.RowKit Go.SL
theorem Reads.row (h:bs≠[]->∃g,A=some ⟨g,0,none⟩):Reads (dd (.slice A bs.length c) bs) A bs where
 form hb:=let⟨g,h⟩:=h hb;⟨g,0,h⟩
 cell w F hp b o hA j x hx:=by
  obtain⟨E,_⟩:=hp;obtain⟨g,I⟩:=h (by intro h;simp[h] at hx);rw[hA] at I;injection I with I;injection I with J K;subst J;subst K;subst hA;have:=E.cells (g:=b) rfl j (.int .u8 x.toNat) (by simp[dm,hx])
  rwa [add_plain] at this
theorem Reads.src {p:HP} (h:Reads p A bs) (s:Sel p l r):∀w,Holds E w l->mr A (dm bs) w:=λw hw T J j u K=>by
 simp only[dm,List.getElem?_map,Option.map_eq_some_iff] at K;obtain⟨x,O,rfl⟩:=K;obtain⟨b,o,I⟩:=h.form (by intro h;simp[h] at O);have:=h.at s I O w hw;rw[J] at I;injection I with I;subst I;rw[add_plain];exact this
theorem JR (s k:Nat):(s:Int).fdiv ((2:Int) ^ k)=((s/2 ^ k:Nat):Int):=by
 rw[Int.fdiv_eq_ediv_of_nonneg _ (Int.pow_nonneg am)];rw[show((2:Int) ^ k)=((2 ^ k:Nat):Int) from(Int.natCast_pow 2 k).symm]
 rfl
theorem fill4 (a b c d:UInt8):Instr.fill (λi=>some (i*1,1)) (Array.map (λx=>(Value.int .u8 0).cells[x%(Value.int .u8 0).cells.size]!) (Array.range (4*1))) ((List.map (λx=>x.fst) [((0:Nat),Operand.tmp 16),(1,.tmp 19),(2,.tmp 22),(3,.tmp 24)]).zip (dm [a,b,c,d]))=some (dm [a,b,c,d]).toArray:=by
 have e1:Array.range (4*1)=#[0,1,2,3]:=rfl;rw[e1];simp[Instr.fill,Value.cells,dm]
theorem rQ (m:Nat):IntKind.u8.wrap (m:Int)=((UInt8.ofNat m).toNat:Int):=by
 rw[<-xK];simp[IntKind.wrap,IntKind.bits,IntKind.signed]
theorem zv {p:HP} (c:Nat) (hp:Reads p A bs) (hA:A=none->bs=[]) (hl:bs.length<=1099511627776):dx G 156 [.slice A bs.length c] [p] λv m=>m=[dd v (FK.frame bs),p]:=by
 refine bA Tryz.func156 Z λE fr hE=>aa<|sS<|sB Z<|bq Z<|sP (bp Z Z)<|sP (dN (r:=((bs.length:Nat):Int)) Z Z Z (by rw[km];omega)) ?_
 refine bU Z (qe cx [] bs.length am cY) Ent.row0 ?_;rintro v m rfl;refine aa ?_;rw[List.nil_append];have hN:(FK.dW bs.length).length<=10:=iy am;refine sM Z ?_;refine dq rfl (bZ rfl rfl jC rfl am rfl rfl (HasVal.sel (v:=v)) (news:=dm bs) (by rw[ld];omega) (λh=>by rw[hA h];rfl) (Reads.src hp bJ) (by intro u hu;obtain⟨x,_,rfl⟩:=List.mem_map.1 hu;rfl) (by unfold maxLen;omega) am λmt BT=>?_);refine aK (HasVal.sel (v:=mt)) ?_;rintro J K rfl f1 f2 f3 f4 -
 refine aq (l':=dd (.slice J ((FK.dW bs.length).length+bs.length) K) (FK.dW bs.length++bs)::p::fr) ?_ ?_
 · show Ent _ (row 5 1 _ (FK.dW bs.length++bs).length (dm (FK.dW bs.length++bs))::p::fr)
   rw[List.length_append,js];exact aT
 have O:(FK.dW bs.length++bs).length=(FK.dW bs.length).length+bs.length:=List.length_append;have I:FK.dW bs.length++bs≠[]->∃g,J=some ⟨g,0,none⟩:=λwf=>by
  have hp:=List.length_pos_iff.2 wf;cases J with
  | none=>have:=(f1 rfl).1;omega
  | some ad=>obtain⟨g,rfl⟩:=f2 ad rfl;exact⟨g,rfl⟩
 rw[<-O];refine sB Z<|bq Z ?_
 refine bW Z (FP K (Reads.row (c:=K) I) am) aT ?_;refine aa<|sB Z<|sQ ?_
 obtain⟨X,hX⟩:∃X,X=FK.dW bs.length++bs:=⟨_,rfl⟩;have Y:FK.frame bs=X++FK.xb (FK.ut X):=by rw[hX];rfl
 rw[<-hX] at O I ⊢;obtain⟨s,hs⟩:∃s,s=FK.ut X:=⟨_,rfl⟩;rw[<-hs] at Y ⊢;refine sG<|sM Z<|sM Z ?_
 refine sP (iS (r:=((s/16777216:Nat):Int)) Z Z am (by exact JR s 24)) ?_;refine sP (dN (r:=((UInt8.ofNat (s/16777216)).toNat:Int)) Z Z Z (rQ _))<|sM Z ?_
 refine sP (iS (r:=((s/65536:Nat):Int)) Z Z am (by exact JR s 16)) ?_;refine sP (dN (r:=((UInt8.ofNat (s/65536)).toNat:Int)) Z Z Z (rQ _))<|sM Z ?_
 refine sP (iS (r:=((s/256:Nat):Int)) Z Z am (by exact JR s 8)) ?_;refine sP (dN (r:=((UInt8.ofNat (s/256)).toNat:Int)) Z Z Z (rQ _))<|ch Z (dN (r:=((UInt8.ofNat s).toNat:Int)) Z Z Z (rQ _)) ?_
 refine sO (dh (m:=4) (z:=.int .u8 0) (size:=1) (ps:=[(0,.tmp 16),(1,.tmp 19),(2,.tmp 22),(3,.tmp 24)]) (vs:=dm (FK.xb s)) (cs:=(dm (FK.xb s)).toArray) Z Z Z Z am am Z (fill4 _ _ _ _) λIn=>?_);refine dq rfl (bZ rfl rfl jC rfl am rfl rfl (HasVal.sel (v:=.slice J X.length K)) (news:=dm (FK.xb s)) rfl (λh=>by cases h) (eO (λj u h=>by rw[Nat.zero_add];simpa using h)) (by intro u hu;obtain⟨x,_,rfl⟩:=List.mem_map.1 hu;rfl) (by unfold maxLen;omega) am λT Fd=>?_);refine sB Z<|an<|ar [dd T (FK.frame bs),p] rfl Z Z ?_
 rw[Y];show Ent _ (row 5 1 T (X++FK.xb s).length (dm (X++FK.xb s))::p::fr);rw[List.length_append,js];exact Ent.cons Ent.drop
end Go.Y
namespace FK
def jL {K V:Type} [BEq K] (m:List (K×V)) (a:K) (v:V):List (K×V):=match m.findIdx? (·.1==a) with
 | some j=>m.set j (a,v)
 | none=>m++[(a,v)]
def gO {K V:Type} [BEq K] (m:List (K×V)) (a:K):Option V:=(m.find? (·.1==a)).map (·.2)
theorem wU {V W:Type} [BEq K] (m:List (K×V)) (f:V->W) (a:K):(m.map λp=>(p.1,f p.2)).findIdx? (·.1==a)=m.findIdx? (·.1==a):=by
 induction m with
 | nil=>rfl
 | cons p m E=>simp only[List.map_cons,List.findIdx?_cons,E]
theorem Ea {V W:Type} [BEq K] (m:List (K×V)) (f:V->W) (a:K) (v:V):jL (m.map λp=>(p.1,f p.2)) a (f v)=(jL m a v).map λp=>(p.1,f p.2):=by
 unfold jL;rw[wU];cases m.findIdx? (·.1==a) with
 | none=>simp
 | some j=>simp[List.map_set]
structure DOp where
 kind:Int
 name:ByteArray
 data:ByteArray
abbrev qB:=List (ByteArray×ByteArray)
structure Dsk where
 dur:qB
 now:qB
 pend:List DOp
 left:Int
 full:Int
 down:Bool
def fj (fs:qB) (o:DOp):qB:=if o.kind=2 then jL fs o.name (match gO fs o.name with|some w=>w++o.data|none=>o.data) else if o.kind=1 then jL fs o.name o.data else if o.kind=3 then fs.eraseP (·.1==o.name) else fs
def Dsk.writes (d:Dsk):Dsk×Int:=if d.down=true\/d.left=0 then({d with down:=true},11) else if d.full=0 then({d with left:=Go.IntKind.i64.wrap (d.left-1),full:=-1},10) else({d with left:=Go.IntKind.i64.wrap (d.left-1),full:=Go.IntKind.i64.wrap (d.full-1)},0)
def Dsk.tell (d:Dsk) (o:DOp):Dsk×Int:=
 if d.writes.2=11 then({d.writes.1 with pend:=d.writes.1.pend++[o]},11) else if d.writes.2≠0 then d.writes else if o.kind=3/\gO d.writes.1.now o.name=none then(d.writes.1,9) else({d.writes.1 with now:=fj d.writes.1.now o,pend:=d.writes.1.pend++[o]},0)
def Dsk.sync (d:Dsk):Dsk×Int:=if d.writes.2≠0 then d.writes else({d.writes.1 with dur:=d.writes.1.pend.foldl fj d.writes.1.dur,pend:=[]},0)
def pQ (fs:qB):Nat:=(fs.map λx=>x.2.size).sum
def kl (l:List DOp):Nat:=(l.map λo=>o.data.size).sum
theorem vQ {fs:qB} {n w:ByteArray} (h:gO fs n=some w):w.size<=pQ fs:=by
 unfold gO at h
 induction fs with
 | nil=>cases h
 | cons x fs E=>
  rw[List.find?_cons] at h;unfold pQ at E ⊢;rw[List.map_cons,List.sum_cons];cases hx:x.1==n with
  | true=>rw[hx] at h;simp at h;subst h;omega
  | false=>rw[hx] at h;have:=E h;omega
theorem uX {V:Type} [BEq K] {m:List (K×V)} {a:K} (h:gO m a=none) (v:V):jL m a v=m++[(a,v)]:=by
 unfold jL;have:m.findIdx? (·.1==a)=none:=by
  rw[List.findIdx?_eq_none_iff];intro x E;unfold gO at h;cases hf:m.find? (·.1==a) with
  | none=>
   have:=List.find?_eq_none.1 hf x E;simpa using this
  | some y=>rw[hf] at h;cases h
 rw[this]
theorem FO {l:List Nat}:∀{j x y:Nat},l[j]?=some x->(l.set j y).sum+x=l.sum+y:=by
 induction l with
 | nil=>intro j x y h;simp at h
 | cons a l E=>
  intro j x y h;cases j with
  | zero=>simp at h;subst h;simp;omega
  | succ j=>have:=E (y:=y) (by simpa using h);simp only[List.set_cons_succ,List.sum_cons];omega
theorem GE {V:Type} [BEq K] {m:List (K×V)} {a:K} (h:m.findIdx? (·.1==a)=some j):∃x,m[j]?=some x/\gO m a=some x.2:=by
 induction m generalizing j with
 | nil=>simp at h
 | cons y m E=>
  rw[List.findIdx?_cons] at h;unfold gO at E ⊢;rw[List.find?_cons];cases hy:y.1==a with
  | true=>rw[hy] at h;simp at h;subst h;exact⟨y,rfl,rfl⟩
  | false=>
   rw[hy] at h;simp only[Bool.false_eq_true,if_false,Option.map_eq_some_iff] at h;obtain⟨i,hi,rfl⟩:=h;obtain⟨x,I,J⟩:=E hi;exact⟨x,by simpa using I,J⟩
theorem Cv {fs:qB} {n s:ByteArray}:pQ (jL fs n s)+(match gO fs n with|some w=>w.size|none=>0)=pQ fs+s.size:=by
 cases hf:fs.findIdx? (·.1==n) with
 | none=>
  have J:gO fs n=none:=by
   unfold gO;cases h:fs.find? (·.1==n) with
   | none=>rfl
   | some y=>
    have I:=List.find?_some h;have E:=List.findIdx?_eq_none_iff.1 hf y (List.mem_of_find?_eq_some h);rw[I] at E;cases E
  rw[uX J,J];simp[pQ]
 | some j=>
  obtain⟨x,I,E⟩:=GE hf;rw[E];have:jL fs n s=fs.set j (n,s):=by unfold jL;rw[hf]
  rw[this];unfold pQ;rw[List.map_set];exact FO (by rw[List.getElem?_map,I];rfl)
theorem Ia {fs:qB} {n:ByteArray}:pQ (fs.eraseP (·.1==n))<=pQ fs:=by
 induction fs with
 | nil=>exact cu _
 | cons x fs E=>
  rw[List.eraseP_cons];unfold pQ at E ⊢;cases x.1==n with
  | true=>simp
  | false=>simp;omega
theorem Ah (fs:qB) (o:DOp):pQ (fj fs o)<=pQ fs+o.data.size:=by
 unfold fj
 split
 · have:=@Cv fs o.name (match gO fs o.name with|some w=>w++o.data|none=>o.data)
   cases h:gO fs o.name with
   | none=>rw[h] at this;simp at this ⊢;omega
   | some w=>rw[h] at this;simp[ByteArray.size_append] at this ⊢;omega
 · split
   · have:=@Cv fs o.name o.data
     omega
   · split
     · have:=@Ia fs o.name
       omega
     · omega
theorem xo:∀(l:List DOp) (fs:qB),pQ (l.foldl fj fs)<=pQ fs+kl l
 | [],_=>cu _
 | o::l,fs=>by
  have E:=xo l (fj fs o);have I:=Ah fs o;have h3:kl (o::l)=o.data.size+kl l:=by simp[kl]
  rw[List.foldl_cons,h3];omega
end FK
variable {σ:FK.Dsk} {fs:FK.qB} {o:FK.DOp}
namespace Go.SL
open Go.RowKit
section
variable {P:Program} {ops:Array Oper} {pos:String} [BEq K] {enc:K->Value}
theorem yr {m:List (K×Value)} {a:K} (h:m.findIdx? (·.1==a)=none):eh m a=none:=by
 have:=gM m a;rw[h] at this;simpa using this.symm
theorem vG {t kt et:TypeId} {y z:Operand} {m:List (K×Value)} {a:K} {d:Option Tmp} {Kk:Act->World->Prop} (hd:d=none) (ht:P.underlying t=some (.map kt et)) (hk:KeyK P kt K enc) (hx:ev ts x=some (.map (some b))) (hy:ev ts y=some (enc a)) (hz:ev ts z=some v)
 (s:Sel (cP enc b m) l r) (h:At E n D ts (cP enc b (FK.jL m a v)::r) Kk):At E n D ts l (λac w=>(Oper.mk d (.mapUpdate t x y z) ty pos af g).wp P ac w Kk Q):=by
 cases hf:m.findIdx? (·.1==a) with
 | none=>
  have hp:FK.jL m a v=m++[(a,v)]:=by unfold FK.jL;rw[hf]
  rw[hp] at h;exact vH hd ht hk hx hy hz s (yr hf) h
 | some j=>
  have hp:FK.jL m a v=m.set j (a,v):=by unfold FK.jL;rw[hf]
  rw[hp] at h;intro ac w f hw;subst hd;have wf:=hw.sel s;obtain⟨I,c,hb,hm,hs1,Fd⟩:=iQ .head w wf;have h1:=hk.find w I.toList m a hm;rw[hf] at h1;have hg:=MapKept.run_getObj_map (P:=P) hb;obtain⟨mt,In,_⟩:=List.findIdx?_eq_some_iff_getElem.1 hf;have K5:m[j]?=some m[j]:=List.getElem?_eq_getElem mt;have K7:I.toList.length=m.length:=by simpa using congrArg List.length hm
  have K6:∃e,I[j]?=some e/\e.key=enc m[j].1:=by
   have:=congrArg (λl=>l[j]?) hm;simp only[List.getElem?_map,K5,Option.map_some] at this;cases he:I.toList[j]? with
   | none=>rw[he] at this;cases this
   | some e=>
    rw[he] at this;simp only[Option.map_some,Option.some.injEq,Prod.mk.injEq] at this;exact⟨e,by rw[<-Array.getElem?_toList];exact he,this.1⟩
  obtain⟨e,he,K3⟩:=K6;have T:(Instr.keyThatStays (((I[j]?).map (·.key)).getD (enc a)) (enc a)).run P w=.ok (enc a) w:=by
   rw[he];simp[Instr.keyThatStays,K3,hk.bits _ _ In]
  have hs:=MapKept.run_setObj_map (P:=P) (.map (I.modify j λe=>{e with key:=enc a,val:=v}) c) hb;have hr:(execOp ac.eval (Oper.mk none (.mapUpdate t x y z) ty pos af g)).run P w=.ok .skip {w with heap:=w.heap.setIfInBounds b (.map (I.modify j λe=>{e with key:=enc a,val:=v}) c)}:=by
   simp only[execOp,f.eval hx,f.eval hy,f.eval hz,Instr.mapUpdate,Sem.run_bind,run_underlying ht,Result.andThen_ok,hg,hk.check,h1,Option.map_some,T,hs,Sem.run_pure]
  show(Oper.mk none (.mapUpdate t x y z) ty pos af g).wp P ac w Kk Q;unfold Oper.wp;rw[hr];have O:∀k,((I.modify j λe=>{e with key:=enc a,val:=v}).toList)[k]?=(I.toList[k]?).map λe=>if j=k then {e with key:=enc a,val:=v} else e:=λk=>by
   rw[Array.toList_modify,List.getElem?_modify]
   rfl
  have J:(I.modify j λe=>{e with key:=enc a,val:=v}).toList.map (·.born)=I.toList.map (·.born):=by
   apply List.ext_getElem?;intro k;rw[List.getElem?_map,List.getElem?_map,O,Option.map_map]
   congr 1
   funext e
   simp only[Function.comp_apply]
   split<;>rfl
  refine h ac _ f<|wf.setVMap ?_ (λy hy=>?_) ?_
  · apply List.ext_getElem?
    intro k;rw[List.getElem?_map,O,List.getElem?_map];have BT:=congrArg (λl=>l[k]?) hm;simp only[List.getElem?_map] at BT
    by_cases Y:j=k
    · subst Y
      rw[List.getElem?_set_self mt];rw[Array.getElem?_toList,he];simp
    · rw[List.getElem?_set_ne Y,<-BT,Option.map_map]
      congr 1
      funext e
      simp[Y]
  · have:y.born∈(I.modify j λe=>{e with key:=enc a,val:=v}).toList.map (·.born):=List.mem_map_of_mem (f:=(·.born)) hy
    rw[J] at this;obtain⟨e',K4,hq⟩:=List.mem_map.1 this;rw[<-hq];exact hs1 e' K4
  · rw[J]
    exact Fd
end
end Go.SL
namespace Go.Y
open Go.Proofs Go.RowKit Go.SL
abbrev eY (e:Int):Value:=if e=0 then .nilIface else .iface 48 (aw e)
abbrev fm (s:ByteArray):Value:=.string s
theorem kW:KeyK Tryz.prog 9 ByteArray fm:=Kv eA
def gB (P:List (Nat×ByteArray)):HP:=HP.all (P.map λc=>blk c.1 9 #[fm c.2])
inductive Names (P:List (Nat×ByteArray)):List (ByteArray×Nat)->FK.qB->Prop where
 | nil:Names P [] []
 | cons {M:List (ByteArray×Nat)} {fs:FK.qB} {n s:ByteArray} {b:Nat} (h:(b,s)∈P) (t:Names P M fs):Names P ((n,b)::M) ((n,s)::fs)
theorem Names.mono {P I:List (Nat×ByteArray)} (h:∀c∈P,c∈I):∀{M:List (ByteArray×Nat)} {fs:FK.qB},Names P M fs->Names I M fs
 | _,_,.nil=>.nil
 | _,_,.cons a t=>.cons (h _ a) (t.mono h)
theorem Names.get {P:List (Nat×ByteArray)} (n:ByteArray):∀{M:List (ByteArray×Nat)} {fs:FK.qB},Names P M fs->(FK.gO M n=none/\FK.gO fs n=none)\/∃b s,FK.gO M n=some b/\FK.gO fs n=some s/\(b,s)∈P
 | _,_,.nil=>.inl ⟨rfl,rfl⟩
 | _,_,.cons (M:=M) (fs:=fs) (n:=k) (s:=s) (b:=b) a t=>by
  have I:=t.get n;unfold FK.gO at I ⊢;rw[List.find?_cons,List.find?_cons];cases hk:k==n with
  | true=>exact .inr ⟨b,s,by simp,by simp,a⟩
  | false=>exact I
theorem Names.idx {P:List (Nat×ByteArray)} (n:ByteArray):∀{M:List (ByteArray×Nat)} {fs:FK.qB},Names P M fs->M.findIdx? (·.1==n)=fs.findIdx? (·.1==n)
 | _,_,.nil=>rfl
 | _,_,.cons _ t=>by
  rw[List.findIdx?_cons,List.findIdx?_cons,t.idx n]
theorem Names.set {P:List (Nat×ByteArray)} {n s:ByteArray} {b:Nat} (h:(b,s)∈P):∀{M:List (ByteArray×Nat)} {fs:FK.qB} (j:Nat),Names P M fs->Names P (M.set j (n,b)) (fs.set j (n,s))
 | _,_,_,.nil=>.nil
 | _,_,0,.cons _ t=>.cons h t
 | _,_,j+1,.cons a t=>.cons a (t.set h j)
theorem Names.snoc {P:List (Nat×ByteArray)} {n s:ByteArray} {b:Nat} (h:(b,s)∈P):∀{M:List (ByteArray×Nat)} {fs:FK.qB},Names P M fs->Names P (M++[(n,b)]) (fs++[(n,s)])
 | _,_,.nil=>.cons h .nil
 | _,_,.cons a t=>.cons a (t.snoc h)
theorem Names.put {n s:ByteArray} (t:Names P M fs) (h:(b,s)∈P):Names P (FK.jL M n b) (FK.jL fs n s):=by
 unfold FK.jL;rw[t.idx n];cases fs.findIdx? (·.1==n) with
 | none=>exact t.snoc h
 | some j=>exact t.set h j
theorem Names.del {P:List (Nat×ByteArray)} (n:ByteArray):∀{M:List (ByteArray×Nat)} {fs:FK.qB},Names P M fs->Names P (M.eraseP (·.1==n)) (fs.eraseP (·.1==n))
 | _,_,.nil=>.nil
 | _,_,.cons (n:=k) a t=>by
  rw[List.eraseP_cons,List.eraseP_cons];cases k==n with
  | true=>exact t
  | false=>exact .cons a (t.del n)
abbrev fO (M:List (ByteArray×Nat)):List (ByteArray×Value):=M.map λx=>(x.1,aX x.2)
def cr (mb:Nat) (P:List (Nat×ByteArray)) (fs:FK.qB):HP:=HP.ex λM:List (ByteArray×Nat)=>HP.all [HP.pure (Names P M fs),cP fm mb (fO M)]
abbrev nD (o:FK.DOp):List Value:=[aw o.kind,fm o.name,fm o.data]
abbrev kE (l:List FK.DOp):List Value:=l.flatMap nD
theorem mH (M:List (ByteArray×Nat)) (n:ByteArray):eh (fO M) n=(FK.gO M n).map aX:=by
 unfold eh FK.gO;rw[List.find?_map];show Option.map _ (Option.map _ (M.find? (·.1==n)))=_;cases M.find? (·.1==n)<;>rfl
theorem xB (M:List (ByteArray×Nat)) (n:ByteArray) (b:Nat):FK.jL (fO M) n (aX b)=fO (FK.jL M n b):=FK.Ea M (λb=>aX b) n b
theorem Gg (M:List (ByteArray×Nat)) (n:ByteArray):(fO M).eraseP (·.1==n)=fO (M.eraseP (·.1==n)):=by
 unfold fO;rw[List.eraseP_map]
 rfl
section
variable {s:ByteArray} {mb:Nat}
theorem Gj (h:(b,s)∈P) (S:Sel (gB P) l r):∀w,Holds E w l->cq ⟨b,0,none⟩ (fm s) w:=λw hw=>by
 obtain⟨F1,_,_,_,_,J,_⟩:=(hw.sel S).star;have I:Star w (P.map λc:Nat×ByteArray=>blk c.1 9 #[fm c.2]) F1:=J;have K:(blk b 9 #[fm s]).sat w F1:=Star.mem I (List.mem_map.2 ⟨(b,s),h,rfl⟩);have:=K.2;simp[cq,World.cell?,this]
theorem Cg:Ent (blk b 9 #[fm s]::gB P::r) (gB ((b,s)::P)::r):=by
 refine(Ent.cons (Ent.unall (m:=P.map λc=>blk c.1 9 #[fm c.2]))).trans ?_;exact Ent.all (m:=((b,s)::P).map λc=>blk c.1 9 #[fm c.2])
theorem dM (h:Names P M fs):Ent (cP fm mb (fO M)::r) (cr mb P fs::r):=
 (Ent.pure h).trans ((Ent.all (m:=[HP.pure (Names P M fs),cP fm mb (fO M)])).trans (Ent.ex (f:=λM:List (ByteArray×Nat)=>HP.all [HP.pure (Names P M fs),cP fm mb (fO M)]) M))
theorem l5 {n:ByteArray} (h:Names P M fs):Ent (cP fm mb (FK.jL (fO M) n (aX b))::blk b 9 #[fm s]::gB P::r) (cr mb ((b,s)::P) (FK.jL fs n s)::gB ((b,s)::P)::r):=by
 rw[xB];exact(Ent.cons Cg).trans (dM ((h.mono λc hc=>.tail _ hc).put (.head _)))
theorem lf {I:List (Nat×ByteArray)} (h:∀c∈P,c∈I):Ent (cr mb P fs::r) (cr mb I fs::r):=λw F ⟨F1,F2,K,O,T,⟨M,J⟩,Y⟩=>by
 have hn:Names P M fs:=Star.mem (p:=HP.pure (Names P M fs)) (l:=[HP.pure (Names P M fs),cP fm mb (fO M)]) J cY;obtain⟨G1,G2,g1,g2,gd,_,g4⟩:=J;exact⟨F1,F2,K,O,T,⟨M,G1,G2,g1,g2,gd,hn.mono h,g4⟩,Y⟩
end
theorem vg {P:Program} {t:TypeId} {y:Operand} {a b:ByteArray} (O:ev ts x=some (.string a)) (T:ev ts y=some (.string b)) (Y:a.size+b.size<=9223372036854775807):Ev P ts (.binOp .add t x y ty) (.string (a++b)) Any:=by
 intro ac w _ _ _ _ _ J _;refine ff (J.eval O) (J.eval T) (by simp[eqGuard]) ?_;have:¬(((a.size+b.size:Nat):Int)>IntKind.i64.max):=by
  rw[show IntKind.i64.max=9223372036854775807 from rfl];omega
 simp only[binOp,Op.stringOp];rw[if_neg this]
 rfl
structure DA where
 md:Nat
 mn:Nat
 pv:Value
 P:List (Nat×ByteArray)
abbrev jW (q:DA) (σ:FK.Dsk):Array Value:=#[.map (some q.md),.map (some q.mn),q.pv,aw σ.left,aw σ.full,.bool σ.down]
abbrev E6 (d:Nat) (q:DA) (σ:FK.Dsk):List HP:=[blk d 131 (jW q σ),cr q.md q.P σ.dur,cr q.mn q.P σ.now,gB q.P,row 211 3 q.pv σ.pend.length (kE σ.pend)]
def aI (d:Nat) (σ:FK.Dsk):HP:=HP.ex λq:DA=>HP.all (E6 d q σ)
abbrev pS (d:Nat) (q:DA) (σ:FK.Dsk) (r:List HP):List HP:=blk d 131 (jW q σ)::cr q.md q.P σ.dur::cr q.mn q.P σ.now::gB q.P::row 211 3 q.pv σ.pend.length (kE σ.pend)::r
theorem dw (q:DA) (σ:FK.Dsk):Ent (E6 d q σ++r) (aI d σ::r):=Ent.all.trans (Ent.ex (f:=λq:DA=>HP.all (E6 d q σ)) q)
theorem pU:dx G 335 [aX d] [aI d σ] λv m=>v=eY σ.writes.2/\m=[aI d σ.writes.1]:=by
 obtain⟨dur,now,pend,left,full,down⟩:=σ;refine bA Tryz.func335 Z λE fr hE=>aa ?_;refine dI .head λq=>bH ?_;refine aq (l':=pS d q ⟨dur,now,pend,left,full,down⟩ fr) aT ?_;refine sS<|sB Z<|sQ<|sS<|cG 5 Z Z (ck Z (au Z) (ah Z) λK T=>(sM Z ?_))
 refine bN K (by rfl) ?_;refine cB Z Z (λ_=>rfl) (bd Z) (λ_ _=>trivial) ?_;refine bN K (by rfl) ?_;refine cB Z Z (λ_=>rfl) (cI Z) (λ_ _=>trivial) ?_;refine bN K (by rfl) ?_;refine cB Z Z (λ_=>rfl) (bl 3 Z) (λ_ _=>trivial) ?_;refine bN K (by rfl) ?_;refine cB Z Z (λ_=>rfl) (au Z) (ah Z) ?_;refine bN K (by rfl) ?_;refine cB Z Z (λ_=>rfl) (aY Z Z Z) (λ_ _=>trivial) ?_;refine ck Z (ve Z Z Z) (λ_ _=>trivial) λY O=>sN ?_;refine ce Z (λI=>?_) λI=>?_
 ·
  have hc:down=true\/left=0:=by rw[O,T] at I;simpa using I
  have hw:FK.Dsk.writes ⟨dur,now,pend,left,full,down⟩=(⟨dur,now,pend,left,full,true⟩,11):=by unfold FK.Dsk.writes;rw[if_pos hc]
  rw[hw];refine sS<|cG 5 Z Z ?_
  refine bR Z Z Z Z gN ?_;exact sN<|sS<|sP (ef Z Z Z)<|sB Z<|an<|aC<|ar [_] rfl Z ⟨rfl,rfl⟩ ((dw (d:=d) q ⟨dur,now,pend,left,full,true⟩))
 ·
  have hc:¬(down=true\/left=0):=by rw[O,T] at I;simpa using I
  refine ae<|sT<|sS<|cG 3 Z Z<|aR Z Z Z Z<|sP (cV Z Z Z)<|da Z<|bn 3 Z ?_
  refine bR Z Z Z Z gN ?_;refine sN<|sQ<|sS<|cG 4 Z Z<|aR Z Z Z Z<|sP (aY Z Z Z)<|sN ?_
  refine aB Z (λJ=>?_) λJ=>?_
  ·
   have hw:FK.Dsk.writes ⟨dur,now,pend,left,full,down⟩=(⟨dur,now,pend,IntKind.i64.wrap (left-1),-1,down⟩,10):=by unfold FK.Dsk.writes;rw[if_neg hc,if_pos J]
   rw[hw];refine sS<|cG 4 Z Z ?_
   refine bR Z Z Z Z gN ?_;exact sN<|sS<|sP (ef Z Z Z)<|sB Z<|an<|aC<|ar [_] rfl Z ⟨rfl,rfl⟩ ((dw (d:=d) q ⟨dur,now,pend,IntKind.i64.wrap (left-1),-1,down⟩))
  ·
   have hw:FK.Dsk.writes ⟨dur,now,pend,left,full,down⟩=(⟨dur,now,pend,IntKind.i64.wrap (left-1),IntKind.i64.wrap (full-1),down⟩,0):=by unfold FK.Dsk.writes;rw[if_neg hc,if_neg J]
   rw[hw];refine ae<|sT<|sS<|cG 4 Z Z<|aR Z Z Z Z<|sP (cV Z Z Z)<|da Z<|bn 4 Z ?_
   refine bR Z Z Z Z gN ?_;exact sN<|sS<|sB Z<|an<|ar [_] rfl Z ⟨rfl,rfl⟩ ((dw (d:=d) q ⟨dur,now,pend,IntKind.i64.wrap (left-1),IntKind.i64.wrap (full-1),down⟩))
theorem wd {mb:Nat} (mt:o.kind=2->∀w,FK.gO fs o.name=some w->w.size+o.data.size<=9223372036854775807):dx G 131 [.map (some mb),.agg (nD o).toArray] [cr mb P fs,gB P] λv m=>v=.tuple #[]/\∃P',(∀c∈P,c∈P')/\m=[cr mb P' (FK.fj fs o),gB P']:=by
 have I:∀b s,∀c∈P,c∈(b,s)::P:=λb s c hc=>.tail _ hc;refine bA Tryz.func131 Z λE fr hE=>aD ?_;refine dI .head λM=>bH ?_;refine aq (l':=HP.pure (Names P M fs)::cP fm mb (fO M)::gB P::fr) aT ?_;refine fg .head λY=>sS<|sO (cR Z Z λb3=>(sN (sS (bn 2 Z (aR Z Z Z Z (sO (cH (z:=.string ⟨#[]⟩) Z λb4=>?_)))))))
 refine bR Z Z Z Z gN ?_;refine sN<|sQ<|aG b4 #[fm o.data] rfl<|sG<|bn 0 Z<|aR Z Z Z Z<|sN<|ag<|sS<|sP (aY Z Z Z)<|sB Z ?_
 refine aB Z (λK=>?_) λK=>?_
 ·
  have J:FK.fj fs o=FK.jL fs o.name (match FK.gO fs o.name with|some w=>w++o.data|none=>o.data):=by unfold FK.fj;rw[if_pos K];first|done|rfl
  rw[J];refine sQ<|sQ ?_
  by_cases HG:∃b s,FK.gO M o.name=some b/\FK.gO fs o.name=some s/\(b,s)∈P
  ·
   obtain⟨ob,os,hM,hF,hP⟩:=HG;rw[hF];refine sG<|sM Z<|bn 1 Z<|aR Z Z Z Z<|bF (lA (a:=o.name) (v:=aX ob) Z kW Z Z (by rw[mH,hM];rfl)) (iQ (b:=mb) (m:=fO M) de)<|sM Z<|bT Z Z<|bT Z Z<|sA Z<|sB Z<|bq Z<|sN<|aM Z<|sZ Z<|dT Z Z ?_
   refine dj 1 Z (cI Z)<|bQ Z (au (v:=fm os) Z) (Gj hP gt)<|bQ Z (au Z) (ah Z)<|bC Z (vg Z Z (mt K os hF)) ?_
   refine dA 5 Z<|co Z Z Z Z Z gN ?_
   exact dK [false,false] ak<|dE<|sT<|aG b4 #[fm (os++o.data)] rfl<|sG<|sM Z<|bn 1 Z<|aR Z Z Z Z<|sO<|vG Z Z kW Z Z Z de<|ao<|al<|bD [_,_] rfl ⟨rfl,(b4,os++o.data)::P,I _ _,rfl⟩ ((cF .head .head bJ).trans ((l5 Y).trans (Ent.cons (Ent.cons Ent.drop))))
  ·
   obtain⟨hM,hF⟩:FK.gO M o.name=none/\FK.gO fs o.name=none:=by rcases Y.get o.name with h|h;exact h;exact absurd h HG
   rw[hF];refine sG<|sM Z<|bn 1 Z<|aR Z Z Z Z<|bF (kf (m:=fO M) (a:=o.name) Z kW Z Z Z (by rw[mH,hM];rfl)) (iQ (b:=mb) (m:=fO M) de)<|sM Z<|bT Z Z<|bT Z Z<|sA Z<|sB Z<|bq Z<|sN<|aj Z<|ae<|sT ?_
   exact sG<|sM Z<|bn 1 Z<|aR Z Z Z Z<|sO<|vG Z Z kW Z Z Z de<|ao<|al<|bD [_,_] rfl ⟨rfl,(b4,o.data)::P,I _ _,rfl⟩ ((cF .head .head bJ).trans ((l5 Y).trans (Ent.cons (Ent.cons Ent.drop))))
 ·
  refine sS<|sP (aY Z Z Z)<|sB Z ?_
  refine aB Z (λO=>?_) λO=>?_
  ·
   have J:FK.fj fs o=FK.jL fs o.name o.data:=by unfold FK.fj;rw[if_neg K,if_pos O]
   rw[J];exact sG<|sM Z<|bn 1 Z<|aR Z Z Z Z<|sO<|vG Z Z kW Z Z Z de<|ao<|al<|bD [_,_] rfl ⟨rfl,(b4,o.data)::P,I _ _,rfl⟩ ((cF .head .head bJ).trans ((l5 Y).trans (Ent.cons (Ent.cons Ent.drop))))
  ·
   refine sS<|sP (aY Z Z Z)<|sB Z ?_
   refine aB Z (λT=>?_) λT=>?_
   ·
    have J:FK.fj fs o=fs.eraseP (·.1==o.name):=by unfold FK.fj;rw[if_neg K,if_neg O,if_pos T]
    rw[J];refine sG<|sM Z<|bn 1 Z<|aR Z Z Z Z<|sO<|vI Z Z kW Z Z de<|ao<|al ?_
    rw[Gg];exact bD [_,_] rfl ⟨rfl,P,λ_ h=>h,rfl⟩ ((bo .head de).trans ((dM (Y.del o.name)).trans (Ent.cons (Ent.cons (Ent.drop.trans Ent.drop)))))
   ·
    have J:FK.fj fs o=fs:=by unfold FK.fj;rw[if_neg K,if_neg O,if_neg T]
    rw[J];refine ae<|al ?_
    exact bD [_,_] rfl ⟨rfl,P,λ_ h=>h,rfl⟩ ((bo de de).trans ((dM Y).trans (Ent.cons (Ent.cons (Ent.drop.trans Ent.drop)))))
end Go.Y
namespace Go.SL
open Go.RowKit
section
variable {P:Program} {ops:Array Oper} {rest:List Oper} {pos:String}
def De (A:Option Addr) (bs:List UInt8) (w:World):Prop:=(A=none->bs=[])/\∀b o,A=some ⟨b,o,none⟩->∀j (I:j<bs.length),w.cell? ⟨b,o+j,none⟩=some (.int .u8 (bs[j].toNat:Int))
theorem I0 {src I e:TypeId} (O:P.underlying src=some (.slice e)) (T:P.underlying e=some (.int .u8)) (Y:P.underlying I=some .string) (hA:∀J,A=some J->∃b o,J=⟨b,o,none⟩)
 (hx:ev ts x=some (.slice A bs.length c)):Ev P ts (.convert src I x) (.string ⟨bs.toArray⟩) (De A bs):=by
 intro a w _ _ _ _ _ kn hφ;cases A with
 | none=>
  obtain rfl:=hφ.1 rfl;have K:(convert src I (.slice none ([]:List UInt8).length c)).run P w=.ok (.string .empty) w:=by
   rw[run_convert_bytes_string w src I e none _ c O T Y];simp[Conv.bytesToString]
  simp only[execOp,kn.eval hx,Sem.run_bind,K,Result.andThen_ok,Sem.run_pure]
  rfl
 | some J=>
  obtain⟨b,o,rfl⟩:=hA J rfl;have K:=run_convert_bytes_back (P:=P) w src I e ⟨b,o,none⟩ c bs O T Y λj hj=>by rw[add_plain];exact hφ.2 b o rfl j hj
  simp only[execOp,kn.eval hx,Sem.run_bind,K,Result.andThen_ok,Sem.run_pure]
theorem CL {src I e:TypeId} {s:ByteArray} {K:Act->World->Prop} (hi:Nat.blt i n=true) (O:P.underlying src=some .string) (T:P.underlying I=some (.slice e)) (Y:P.underlying e=some (.int .u8)) (hx:ev ts x=some (.string s))
 (h:∀b c fz,At E n D ((i,dp b s.size c)::ts) (ob b (.cells (bytesRow s c) e fz)::l) K):At E n D ts l (λa w=>(Oper.mk (some i) (.convert src I x) ty pos af g).wp P a w K Q):=λa w J hw=>by
 have hr:=run_bytes_of_string (P:=P) w src I e s O T Y;have:(execOp a.eval (Oper.mk (some i) (.convert src I x) ty pos af g)).run P w=.ok (.value (.slice (some ⟨w.heap.size,0,none⟩) s.size (grownCap w s.size 0 e))) (w.drew.alloc (.cells (bytesRow s (grownCap w s.size 0 e)) e ((bytesRow s (grownCap w s.size 0 e)).size,(bytesRow s (grownCap w s.size 0 e)).size+1))):=by
  simp only[execOp,J.eval hx,Sem.run_bind,hr,Result.andThen_ok,Sem.run_pure]
 show(Oper.mk (some i) (.convert src I x) ty pos af g).wp P a w K Q;unfold Oper.wp;rw[this];exact h _ _ _ _ _ (J.put i (Nat.le_of_ble_eq_true hi) _) ((hw.drawn _).alloc _)
end
end Go.SL
namespace Go.Y
open Go.Proofs Go.RowKit Go.SL
theorem Al:fd Tryz.prog 211 (.agg #[aw 0,.string .empty,.string .empty]) 3 40:=by unfold fd;kernel_rfl
theorem wb (o:FK.DOp) (t:Nat):Instr.fill (λi=>some (i*3,3)) (Array.map (λx=>((.agg #[aw 0,.string .empty,.string .empty]:Value)).cells[x%((.agg #[aw 0,.string .empty,.string .empty]:Value)).cells.size]!) (Array.range (1*3))) ((List.map (λx=>x.fst) [((0:Nat),Operand.tmp t)]).zip [.agg (nD o).toArray])=some (nD o).toArray:=by
 have e1:Array.range (1*3)=#[0,1,2]:=rfl;rw[e1];simp[Instr.fill,Value.cells]
theorem px (l:List FK.DOp) (o:FK.DOp):kE (l++[o])=kE l++nD o:=by
 unfold kE;rw[List.flatMap_append]
 rfl
theorem Dv (In:FK.pQ σ.now+o.data.size<=9223372036854775807) (hp:σ.pend.length<=1099511627776):dx G 334 [aX d,.agg (nD o).toArray] [aI d σ] λv m=>v=eY (σ.tell o).2/\m=[aI d (σ.tell o).1]:=by
 have K6:FK.pQ σ.writes.1.now+o.data.size<=9223372036854775807:=by
  have:σ.writes.1.now=σ.now:=by unfold FK.Dsk.writes;split;rfl;split<;>rfl
  rw[this];exact In
 have K9:σ.writes.1.pend.length<=1099511627776:=by
  have:σ.writes.1.pend=σ.pend:=by unfold FK.Dsk.writes;split;rfl;split<;>rfl
  rw[this];exact hp
 have Fd:σ.writes.2=0\/σ.writes.2=10\/σ.writes.2=11:=by unfold FK.Dsk.writes;split;exact .inr (.inr rfl);split;exact .inr (.inl rfl);exact .inl rfl
 have I:σ.tell o=if σ.writes.2=11 then({σ.writes.1 with pend:=σ.writes.1.pend++[o]},11) else if σ.writes.2≠0 then σ.writes else if o.kind=3/\FK.gO σ.writes.1.now o.name=none then(σ.writes.1,9) else({σ.writes.1 with now:=FK.fj σ.writes.1.now o,pend:=σ.writes.1.pend++[o]},0):=rfl
 clear In hp;refine bA Tryz.func334 Z λE fr hE=>aa<|sS<|sO (cR Z Z λb3=>(sB Z (sQ (sS (sM Z ?_)))))
 refine bU Z pU gfE1 ?_;rintro v m ⟨hv,rfl⟩;refine aa ?_
 generalize σ.writes=ω at *
 obtain⟨⟨dur,now,pend,left,full,down⟩,e⟩:=ω;simp only at K6 K9 Fd hv ⊢;refine sB Z<|sQ ?_
 by_cases HE:e=0
 ·
  subst HE;subst hv;refine sG<|ch Z (eT Z Z) ?_
  refine dI .head λq=>bH ?_;refine aq (l':=pS d q ⟨dur,now,pend,left,full,down⟩ (blk b3 211 (nD o).toArray::fr)) aT ?_;refine dI de λM=>bH ?_;refine aq (l':=HP.pure (Names q.P M now)::cP fm q.mn (fO M)::blk d 131 (jW q ⟨dur,now,pend,left,full,down⟩)::cr q.md q.P dur::gB q.P::row 211 3 q.pv pend.length (kE pend)::blk b3 211 (nD o).toArray::fr) aT ?_;refine fg .head λhN=>sN<|aj Z<|ae<|sT<|sQ<|sQ ?_
  by_cases HG:∃b s,FK.gO M o.name=some b/\FK.gO now o.name=some s/\(b,s)∈q.P
  ·
   obtain⟨ob,os,hM,hF,hP⟩:=HG;refine sZ Z<|dT Z Z<|dt 1 Z Z Z<|bQ Z (au Z) (ah Z)<|bC Z (bl 1 Z)<|bQ Z (au Z) (ah Z)<|bQ Z (lA (a:=o.name) (v:=aX ob) Z kW Z Z (by rw[mH,hM];rfl)) (iQ .head)<|cv Z Z<|bC Z (cf Z Z)<|bC Z (cf Z Z)<|bC Z (aU Z)<|bC Z (aU Z)<|dE<|sT<|bq Z<|sP (cD Z Z)<|sM Z ?_
   refine bg Z<|bg Z<|bg Z<|sP (aF Z Z Z)<|sN<|aj Z<|ae<|sT<|sQ ?_
   refine aq (l':=cr q.mn q.P now::gB q.P::blk d 131 (jW q ⟨dur,now,pend,left,full,down⟩)::cr q.md q.P dur::row 211 3 q.pv pend.length (kE pend)::blk b3 211 (nD o).toArray::fr) ((bo .head de).trans ((Ent.cons aT).trans (dM hN))) ?_;refine sZ Z<|dT Z Z<|dt 1 Z Z Z<|bQ Z (au Z) (ah Z)<|bQ Z (bO (vs:=nD o) Z) (bm Z) ?_
   refine dA 5 Z<|ed Z (wd (P:=q.P) (fs:=now) (o:=o) (λ_ w hw=>by have:=FK.vQ hw;omega)) aT ?_
   rintro v m ⟨rfl,J,BT,rfl⟩;refine aD<|dK [false,false] ak<|dE<|sT<|sQ ?_
   refine aq (l':=cr q.md J dur::cr q.mn J (FK.fj now o)::gB J::blk d 131 (jW q ⟨dur,now,pend,left,full,down⟩)::row 211 3 q.pv pend.length (kE pend)::blk b3 211 (nD o).toArray::fr) (gfE3.trans (lf BT)) ?_;refine sZ Z<|dT Z Z<|cv Z Z<|dt 2 Z Z Z<|bQ Z (au Z) (ah Z)<|bQ Z (bO (vs:=nD o) Z) (bm Z) ?_
   refine dA 6 Z (dh (m:=1) (z:=.agg #[aw 0,.string .empty,.string .empty]) (size:=3) (ps:=[(0,.tmp 55)]) (vs:=[.agg (nD o).toArray]) (cs:=(nD o).toArray) Z Z Z Z am am Z (wb _ _) λK7=>?_);refine dK [false,true] (ai (ah Z) ak) ?_;refine dR 7 rfl rfl (bZ rfl rfl Al rfl am rfl rfl (HasVal.sel (v:=q.pv)) (news:=nD o) rfl (λh=>by cases h) (eO (λj u h=>by simpa using h)) er (by unfold maxLen;omega) am λmt K3=>?_);refine aK (HasVal.sel (v:=mt)) ?_;rintro K O rfl - - - - -
   refine dK [false] ak<|dj 8 Z (cI Z)<|bC Z (bl 2 Z) ?_
   refine dA 10 Z<|co Z Z Z Z Z gN ?_
   refine aG d (jW ⟨q.md,q.mn,.slice K (pend.length+1) O,J⟩ ⟨dur,FK.fj now o,pend++[o],left,full,down⟩) Z ?_;refine aq (l':=aI d ⟨dur,FK.fj now o,pend++[o],left,full,down⟩::fr) ?_ ?_
   · refine Ent.trans ?_<|dw ⟨q.md,q.mn,.slice K (pend.length+1) O,J⟩ ⟨dur,FK.fj now o,pend++[o],left,full,down⟩
     show Ent _ (_::_::_::_::row 211 3 _ (pend++[o]).length (kE (pend++[o]))::fr);rw[px,List.length_append];exact aJ
   refine dK [] ak<|dE<|sT<|sS<|sB Z<|an ?_
   have Y:σ.tell o=(⟨dur,FK.fj now o,pend++[o],left,full,down⟩,0):=by rw[I,if_neg cY,if_neg cY,if_neg (by rw[hF];simp)]
   rw[Y];exact ar [_] rfl Z ⟨rfl,rfl⟩ aT
  ·
   obtain⟨hM,hF⟩:FK.gO M o.name=none/\FK.gO now o.name=none:=by rcases hN.get o.name with h|h;exact h;exact absurd h HG
   refine sZ Z<|dT Z Z<|dt 1 Z Z Z<|bQ Z (au Z) (ah Z)<|bC Z (bl 1 Z)<|bQ Z (au Z) (ah Z)<|bQ Z (kf (m:=fO M) (a:=o.name) Z kW Z Z Z (by rw[mH,hM];rfl)) (iQ .head)<|cv Z Z<|bC Z (cf Z Z)<|bC Z (cf Z Z)<|bC Z (aU Z)<|bC Z (aU Z)<|dE<|sT<|bq Z<|sP (cD Z Z)<|sM Z ?_
   refine ci (bl 0 Z)<|fN (au Z) (ah Z)<|ci (aY Z Z Z)<|sP (aF Z Z Z)<|sN ?_
   refine aB Z (λwf=>?_) λwf=>?_
   ·
    refine sS<|sP (ef Z Z Z)<|sB Z<|an<|aC ?_
    have Y:σ.tell o=(⟨dur,now,pend,left,full,down⟩,9):=by rw[I,if_neg cY,if_neg cY,if_pos ⟨wf,hF⟩]
    rw[Y];refine ar [aI d ⟨dur,now,pend,left,full,down⟩] rfl Z ⟨rfl,rfl⟩ ?_;refine Ent.trans ?_<|dw q ⟨dur,now,pend,left,full,down⟩
    refine Ent.trans (dM hN) ?_;show Ent _ (_::cr q.md q.P dur::cr q.mn q.P now::gB q.P::_::fr);exact aJ
   ·
    refine ae<|sT<|sQ ?_
    refine aq (l':=cr q.mn q.P now::gB q.P::blk d 131 (jW q ⟨dur,now,pend,left,full,down⟩)::cr q.md q.P dur::row 211 3 q.pv pend.length (kE pend)::blk b3 211 (nD o).toArray::fr) ((bo .head de).trans ((Ent.cons aT).trans (dM hN))) ?_;refine sZ Z<|dT Z Z<|dt 1 Z Z Z<|bQ Z (au Z) (ah Z)<|bQ Z (bO (vs:=nD o) Z) (bm Z) ?_
    refine dA 5 Z<|ed Z (wd (P:=q.P) (fs:=now) (o:=o) (λ_ w hw=>by have:=FK.vQ hw;omega)) aT ?_
    rintro v m ⟨rfl,J,BT,rfl⟩;refine aD<|dK [false,false] ak<|dE<|sT<|sQ ?_
    refine aq (l':=cr q.md J dur::cr q.mn J (FK.fj now o)::gB J::blk d 131 (jW q ⟨dur,now,pend,left,full,down⟩)::row 211 3 q.pv pend.length (kE pend)::blk b3 211 (nD o).toArray::fr) (gfE3.trans (lf BT)) ?_;refine sZ Z<|dT Z Z<|cv Z Z<|dt 2 Z Z Z<|bQ Z (au Z) (ah Z)<|bQ Z (bO (vs:=nD o) Z) (bm Z) ?_
    refine dA 6 Z (dh (m:=1) (z:=.agg #[aw 0,.string .empty,.string .empty]) (size:=3) (ps:=[(0,.tmp 55)]) (vs:=[.agg (nD o).toArray]) (cs:=(nD o).toArray) Z Z Z Z am am Z (wb _ _) λK7=>?_);refine dK [false,true] (ai (ah Z) ak) ?_;refine dR 7 rfl rfl (bZ rfl rfl Al rfl am rfl rfl (HasVal.sel (v:=q.pv)) (news:=nD o) rfl (λh=>by cases h) (eO (λj u h=>by simpa using h)) er (by unfold maxLen;omega) am λmt K3=>?_);refine aK (HasVal.sel (v:=mt)) ?_;rintro K O rfl - - - - -
    refine dK [false] ak<|dj 8 Z (cI Z)<|bC Z (bl 2 Z) ?_
    refine dA 10 Z<|co Z Z Z Z Z gN ?_
    refine aG d (jW ⟨q.md,q.mn,.slice K (pend.length+1) O,J⟩ ⟨dur,FK.fj now o,pend++[o],left,full,down⟩) Z ?_;refine aq (l':=aI d ⟨dur,FK.fj now o,pend++[o],left,full,down⟩::fr) ?_ ?_
    · refine Ent.trans ?_<|dw ⟨q.md,q.mn,.slice K (pend.length+1) O,J⟩ ⟨dur,FK.fj now o,pend++[o],left,full,down⟩
      show Ent _ (_::_::_::_::row 211 3 _ (pend++[o]).length (kE (pend++[o]))::fr);rw[px,List.length_append];exact aJ
    refine dK [] ak<|dE<|sT<|sS<|sB Z<|an ?_
    have Y:σ.tell o=(⟨dur,FK.fj now o,pend++[o],left,full,down⟩,0):=by rw[I,if_neg cY,if_neg cY,if_neg (λh=>wf h.1)]
    rw[Y];exact ar [_] rfl Z ⟨rfl,rfl⟩ aT
 ·
  replace hv:=hv.trans (if_neg HE);subst hv;refine sG<|ch Z (i7 Z Z)<|sN<|aM Z<|sQ<|bq Z<|sP (ef Z Z Z)<|sP (sr Z Z Z Z Z Z Z)<|sN ?_
  refine ce Z (λT=>?_) λT=>?_
  ·
   obtain rfl:e=11:=by simpa using T
   refine dI .head λq=>bH ?_;refine aq (l':=pS d q ⟨dur,now,pend,left,full,down⟩ (blk b3 211 (nD o).toArray::fr)) aT ?_;refine sZ Z<|dT Z Z<|cv Z Z<|dt 2 Z Z Z<|bQ Z (au Z) (ah Z)<|bQ Z (bO (vs:=nD o) Z) (bm Z) ?_
   refine dA 6 Z (dh (m:=1) (z:=.agg #[aw 0,.string .empty,.string .empty]) (size:=3) (ps:=[(0,.tmp 20)]) (vs:=[.agg (nD o).toArray]) (cs:=(nD o).toArray) Z Z Z Z am am Z (wb _ _) λLd=>?_);refine dK [false,true] (ai (ah Z) ak) ?_;refine dR 7 rfl rfl (bZ rfl rfl Al rfl am rfl rfl (HasVal.sel (v:=q.pv)) (news:=nD o) rfl (λh=>by cases h) (eO (λj u h=>by simpa using h)) er (by unfold maxLen;show pend.length+1<=_;omega) (by show(pend.length+1)*40<=_;omega) λK8 Lc=>?_);refine aK (HasVal.sel (v:=K8)) ?_;rintro K4 K5 rfl - - - - -
   refine dK [false] ak<|dj 8 Z (cI Z)<|bC Z (bl 2 Z) ?_
   refine dA 10 Z<|co Z Z Z Z Z gN ?_
   refine aG d (jW ⟨q.md,q.mn,.slice K4 (pend.length+1) K5,q.P⟩ ⟨dur,now,pend++[o],left,full,down⟩) Z ?_;refine aq (l':=aI d ⟨dur,now,pend++[o],left,full,down⟩::fr) ?_ ?_
   · refine Ent.trans ?_<|dw ⟨q.md,q.mn,.slice K4 (pend.length+1) K5,q.P⟩ ⟨dur,now,pend++[o],left,full,down⟩
     show Ent _ (_::_::_::_::row 211 3 _ (pend++[o]).length (kE (pend++[o]))::fr);rw[px,List.length_append];exact aJ
   refine dK [] ak<|dE<|sT<|bq Z<|sB Z<|an<|aC ?_
   have Y:σ.tell o=(⟨dur,now,pend++[o],left,full,down⟩,11):=by rw[I,if_pos rfl]
   rw[Y];exact ar [_] rfl Z ⟨rfl,rfl⟩ aT
  ·
   have Lb:e≠11:=λh=>by rw[h] at T;exact absurd T fi
   refine ae<|sT<|bq Z<|sB Z<|an<|aC ?_
   have Y:σ.tell o=(⟨dur,now,pend,left,full,down⟩,e):=by rw[I,if_neg Lb,if_pos HE]
   rw[Y];exact ar [_] rfl Z ⟨(if_neg HE).symm,rfl⟩<|Ent.cons Ent.drop
def ii (bs:List UInt8):ByteArray:=⟨bs.toArray⟩
theorem oC (bs:List UInt8):(ii bs).size=bs.length:=by
 unfold ii;show bs.toArray.size=_;simp
theorem Jf {p:HP} (h:Reads p A bs) (J:A=none->bs=[]) (s:Sel p l r):∀w,Holds E w l->De A bs w:=λw hw=>⟨J,λ_ _ I _ K=>h.at s I (List.getElem?_eq_getElem K) w hw⟩
section
variable {l:List FK.DOp} {name:ByteArray} {u:Value}
theorem Ez {kind:Int} (K:FK.pQ σ.now+bs.length<=9223372036854775807) (hp:σ.pend.length<=1099511627776) (hl:bs.length<=1099511627776):dx G 332 [aX d,aw kind,fm name,u] [aI d σ,dd u bs] λv m=>v=eY (σ.tell ⟨kind,name,ii bs⟩).2/\m=[aI d (σ.tell ⟨kind,name,ii bs⟩).1]:=by
 refine bA Tryz.func332 Z λE fr hE=>aD<|aK (HasVal.sel (v:=u)) ?_
 rintro A c rfl f1 f2 f3 f4 -
 have I:bs≠[]->∃g,A=some ⟨g,0,none⟩:=λO=>by
  have mt:=List.length_pos_iff.2 O;cases A with
  | none=>have:=(f1 rfl).1;omega
  | some T=>obtain⟨g,rfl⟩:=f2 T rfl;exact⟨g,rfl⟩
 have hA:A=none->bs=[]:=λh=>by
  have:=(f1 h).1;exact List.eq_nil_of_length_eq_zero am
 refine sS<|sB Z<|bq Z<|sM Z<|sM Z<|sM Z ?_
 refine ln rfl (I0 (bs:=bs) rfl rfl rfl (λT h=>by obtain⟨g,rfl⟩:=f2 T h;exact⟨g,0,rfl⟩) rfl) (Jf (Reads.row (c:=c) I) hA bJ) ?_;refine sP (bI (cs:=(nD ⟨kind,name,ii bs⟩).toArray) Z Z Z Z Z) ?_;refine bU Z (Dv (o:=⟨kind,name,ii bs⟩) (by rw[oC];exact K) hp) aT ?_;rintro v m ⟨hv,rfl⟩;refine aa<|sB Z<|sQ<|bq Z<|sP (bp Z Z)<|sM Z<|sN<|ag ?_
 refine aO (X:=Nat×List Value) (λx=>[(20,aw x.1),(19,aw bs.length),(3,.slice A bs.length c),(9,v)]) (λx=>row 5 1 (.slice A bs.length c) bs.length x.2::aI d (σ.tell ⟨kind,name,ii bs⟩).1::fr) (λx=>x.1<=bs.length) (λx=>bs.length-x.1) (0,dm bs) (Nat.zero_le _) bV gfE1 ?_;rintro⟨k,ys⟩ hk;simp only at hk ⊢;refine sS<|sP (bz Z Z Z)<|sN<|sQ ?_
 refine aB Z (λY=>?_) λY=>?_
 ·
  have J:k<bs.length:=am;obtain⟨g,rfl⟩:=I (by rintro rfl;simp at J);refine ae<|sT<|sQ<|ag<|bq Z<|sB Z<|sG<|sM Z<|ch Z (aS (z:=1) Z Z Z Z J) ?_
  refine sO<|fD .head Z Z Z Z am ?_
  refine ao<|al<|sT<|sG<|sP (bc (r:=((k+1:Nat):Int)) Z Z dP)<|sM Z<|ao ?_
  exact aE (k+1,_) (by simp only;omega) (by simp only;omega) bV aT
 ·
  exact aL<|aA<|az<|ap<|sT<|bq Z<|sB Z<|an<|ar [_] rfl Z ⟨hv,rfl⟩ Ent.drop
theorem zS (I:FK.pQ σ.now+bs.length<=9223372036854775807) (J:σ.pend.length<=1099511627776) (K:bs.length<=1099511627776):dx G 326 [aX d,fm name,u] [aI d σ,dd u bs] λv m=>v=eY (σ.tell ⟨2,name,ii bs⟩).2/\m=[aI d (σ.tell ⟨2,name,ii bs⟩).1]:=by
 refine bA Tryz.func326 Z λE fr T=>aD<|sS<|sB Z<|bq Z<|sM Z<|sM Z ?_
 refine bU Z (Ez I J K) aT ?_;rintro v m ⟨O,rfl⟩;exact aa<|sB Z<|an<|ar [_] rfl Z ⟨O,rfl⟩ aT
theorem IG (h:l[i]?=some o) (j:Nat) (u:Value) (E:(nD o)[j]?=some u):(kE l)[0+i*3+j]?=some u:=by
 rw[Nat.zero_add];exact eJ (k:=3) (λ_=>rfl) j h E
theorem DS (h:l[k]?=some o):FK.kl (l.take k)+o.data.size<=FK.kl l:=by
 have E:l.take (k+1)=l.take k++[o]:=by rw[List.take_add_one,h];rfl
 have I:l=l.take (k+1)++l.drop (k+1):=(List.take_append_drop _ _).symm;have h3:∀a b:List FK.DOp,FK.kl (a++b)=FK.kl a+FK.kl b:=λa b=>by simp[FK.kl]
 have J:FK.kl [o]=o.data.size:=by simp[FK.kl]
 have K:FK.kl l=FK.kl (l.take k)+o.data.size+FK.kl (l.drop (k+1)):=by
  conv=>lhs;rw[I,E]
  rw[h3,h3,J]
 omega
theorem pk (Y:FK.pQ σ.dur+FK.kl σ.pend<=9223372036854775807) (hp:σ.pend.length<=1099511627776):dx G 330 [aX d] [aI d σ] λv m=>v=eY σ.sync.2/\m=[aI d σ.sync.1]:=by
 have mt:FK.pQ σ.writes.1.dur+FK.kl σ.writes.1.pend<=9223372036854775807:=by
  have:σ.writes.1.dur=σ.dur/\σ.writes.1.pend=σ.pend:=by unfold FK.Dsk.writes;split;exact⟨rfl,rfl⟩;split<;>exact⟨rfl,rfl⟩
  rw[this.1,this.2];exact Y
 have BT:σ.writes.1.pend.length<=1099511627776:=by
  have:σ.writes.1.pend=σ.pend:=by unfold FK.Dsk.writes;split;rfl;split<;>rfl
  rw[this];exact hp
 have J:σ.sync=if σ.writes.2≠0 then σ.writes else({σ.writes.1 with dur:=σ.writes.1.pend.foldl FK.fj σ.writes.1.dur,pend:=[]},0):=rfl
 clear Y hp;refine bA Tryz.func330 Z λE fr hE=>aa<|sS<|sB Z<|sQ<|bq Z ?_
 refine bU Z pU aT ?_;rintro v m ⟨hv,rfl⟩;refine aa ?_
 generalize σ.writes=ω at *
 obtain⟨⟨dur,now,pend,left,full,down⟩,e⟩:=ω;simp only at mt BT hv ⊢;refine sB Z<|sQ ?_
 by_cases HE:e=0
 ·
  subst HE;subst hv;refine sG<|ch Z (eT Z Z)<|sN<|aj Z<|ae<|sT<|sQ<|sQ ?_
  refine dI .head λq=>bH ?_;obtain⟨md,I,pv,P⟩:=q;refine aq (l':=pS d ⟨md,I,pv,P⟩ ⟨dur,now,pend,left,full,down⟩ fr) aT ?_;refine aK (HasVal.sel (v:=pv)) ?_;rintro A c rfl f1 f2 f3 f4 -
  refine aq (l':=blk d 131 (jW ⟨md,I,.slice A pend.length c,P⟩ ⟨dur,now,pend,left,full,down⟩)::cr md P dur::cr I P now::gB P::row 211 3 (.slice A pend.length c) pend.length (kE pend)::fr) aT ?_;refine sG<|cG 2 Z Z<|aR Z Z Z Z<|sP (bp Z Z)<|sM Z<|sN<|ag ?_
  refine aO (X:=Nat×List (Nat×ByteArray)) (λx=>[(16,aw x.1),(15,aw pend.length),(14,.slice A pend.length c),(0,aX d)]) (λx=>cr md x.2 ((pend.take x.1).foldl FK.fj dur)::cr I x.2 now::gB x.2::row 211 3 (.slice A pend.length c) pend.length (kE pend)::blk d 131 (jW ⟨md,I,.slice A pend.length c,P⟩ ⟨dur,now,pend,left,full,down⟩)::fr) (λx=>x.1<=pend.length) (λx=>pend.length-x.1) (0,P) (Nat.zero_le _) bV (by show Ent _ (cr md P dur::cr I P now::gB P::_::_::fr);exact aJ) ?_;rintro⟨k,K⟩ hk;replace hk:k<=pend.length:=hk;refine aq (l':=cr md K ((pend.take k).foldl FK.fj dur)::cr I K now::gB K::row 211 3 (.slice A pend.length c) pend.length (kE pend)::blk d 131 (jW ⟨md,I,.slice A pend.length c,P⟩ ⟨dur,now,pend,left,full,down⟩)::fr) aT ?_;refine sS<|sP (bz Z Z Z)<|sN<|sQ ?_
  refine aB Z (λO=>?_) λO=>?_
  ·
   have T:k<pend.length:=by have:(k:Int)<(pend.length:Int):=O;omega
   obtain⟨o,ho⟩:∃o,pend[k]?=some o:=⟨pend[k],by simp[T]⟩;obtain⟨g,rfl⟩:∃g,A=some ⟨g,0,none⟩:=by
    cases A with
    | none=>have h0:pend.length=0:=(f1 rfl).1;omega
    | some ad=>obtain⟨g,rfl⟩:=f2 ad rfl;exact⟨g,rfl⟩
   have K4:=DS ho;have Fd:=FK.xo (pend.take k) dur;have In:(pend.take (k+1)).foldl FK.fj dur=FK.fj ((pend.take k).foldl FK.fj dur) o:=by rw[List.take_add_one,ho,List.foldl_append];rfl
   refine ae<|sT<|sQ<|ag<|sS<|sP (aS (z:=3) Z Z Z Z T) ?_
   refine bF (bO (vs:=nD o) Z) (l7 gt λj u hj=>IG ho j u hj) ?_;refine sO (cH (z:=.agg #[aw 0,.string .empty,.string .empty]) Z λb5=>?_);refine sO<|bh (vs:=nD o) Z (m:=3) Z Z Z Z er (by show 0+3<=3;omega) ?_
   refine aG b5 (nD o).toArray Z<|sN<|sZ Z<|dT Z Z<|dt 0 Z Z Z<|bQ Z (au Z) (ah Z)<|bQ Z (bO (vs:=nD o) Z) (bm Z) ?_
   refine dA 5 Z<|ed Z (wd (mb:=md) (P:=K) (fs:=(pend.take k).foldl FK.fj dur) (o:=o) (λ_ w hw=>by have:=FK.vQ hw;omega)) (bo bJ de) ?_
   rintro v m ⟨rfl,P2,wf,rfl⟩;refine aD<|dK [false,false] ak<|dE<|al<|sT<|sG<|sP (bc (r:=((k+1:Nat):Int)) Z Z dP)<|sM Z<|ao ?_
   exact aE (k+1,P2) T (by show pend.length-(k+1)<pend.length-k;omega) bV (by rw[In];exact(gfE3.trans (lf wf)).trans (by show Ent (cr I P2 now::_::_::_::_::_::fr) _;exact aJ))
  ·
   have K3:k=pend.length:=by have:¬(k:Int)<(pend.length:Int):=O;omega
   rw[K3,List.take_length];refine aL<|aA<|az<|ap<|sT<|sS<|cG 2 Z Z ?_
   refine bR Z Z Z Z gN ?_;refine sN<|sS<|sB Z<|an ?_
   have ht:σ.sync=(⟨pend.foldl FK.fj dur,now,[],left,full,down⟩,0):=by rw[J,if_neg cY]
   rw[ht];refine aG d (jW ⟨md,I,cx,K⟩ ⟨pend.foldl FK.fj dur,now,[],left,full,down⟩) Z<|ar [aI d ⟨pend.foldl FK.fj dur,now,[],left,full,down⟩] rfl Z ⟨rfl,rfl⟩ ?_
   refine Ent.trans ?_<|dw ⟨md,I,cx,K⟩ ⟨pend.foldl FK.fj dur,now,[],left,full,down⟩
   refine(Ent.row0 (e:=211) (size:=3)).trans ?_;show Ent _ (blk d 131 (jW ⟨md,I,cx,K⟩ ⟨pend.foldl FK.fj dur,now,[],left,full,down⟩)::cr md K (pend.foldl FK.fj dur)::cr I K now::gB K::row 211 3 cx 0 []::fr);exact aJ
 ·
  replace hv:=hv.trans (if_neg HE);subst hv;refine sG<|ch Z (i7 Z Z)<|sN<|aM Z<|bq Z<|sB Z<|an<|aC ?_
  have ht:σ.sync=(⟨dur,now,pend,left,full,down⟩,e):=by rw[J,if_pos HE]
  rw[ht];exact ar [_] rfl Z ⟨(if_neg HE).symm,rfl⟩ aT
end
end Go.Y
namespace Go.Proofs
open Go.Shelf
def o5:Go.Shelf.Ren:=⟨fun|171=>200|243=>224|246=>250|283=>276|284=>277|285=>278|286=>279|129=>227|317=>299|318=>300|319=>301|320=>141|337=>195|338=>196|n=>n,fun|3=>3|9=>9|2=>2|4=>4|171=>400|0=>0|53=>51|37=>47|5=>5|173=>402|212=>423|51=>312|20=>20|213=>424|46=>87|232=>351|233=>352|n=>n,fun|17=>5|18=>1|19=>2|n=>n⟩
theorem ui:Go.Proofs.LaysM.n171 Tryz.prog o5:={
 mixed:=by kernel_rfl
 f129:=Tryz.func227.trans (congrArg some (by kernel_rfl))
 f171:=Tryz.func200.trans (congrArg some (by kernel_rfl))
 f243:=Tryz.func224.trans (congrArg some (by kernel_rfl))
 f246:=Tryz.func250.trans (congrArg some (by kernel_rfl))
 f283:=Tryz.func276.trans (congrArg some (by kernel_rfl))
 f284:=Tryz.func277.trans (congrArg some (by kernel_rfl))
 f285:=Tryz.func278.trans (congrArg some (by kernel_rfl))
 f286:=Tryz.func279.trans (congrArg some (by kernel_rfl))
 f317:=Tryz.func299.trans (congrArg some (by kernel_rfl))
 f318:=Tryz.func300.trans (congrArg some (by kernel_rfl))
 f319:=Tryz.func301.trans (congrArg some (by kernel_rfl))
 f320:=Tryz.func141.trans (congrArg some (by kernel_rfl))
 f337:=Tryz.func195.trans (congrArg some (by kernel_rfl))
 f338:=Tryz.func196.trans (congrArg some (by kernel_rfl))
 t0:=Tryz.underlying0
 a0:=Tryz.isAgg0
 z0:=Tryz.sizeOf0
 v0:=Tryz.zeroValue0
 t2:=Tryz.underlying2
 a2:=Tryz.isAgg2
 z2:=Tryz.sizeOf2
 v2:=Tryz.zeroValue2
 t3:=Tryz.underlying3
 a3:=Tryz.isAgg3
 z3:=Tryz.sizeOf3
 v3:=Tryz.zeroValue3
 t4:=Tryz.underlying4
 a4:=Tryz.isAgg4
 z4:=Tryz.sizeOf4
 v4:=Tryz.zeroValue4
 t5:=Tryz.underlying5
 a5:=Tryz.isAgg5
 z5:=Tryz.sizeOf5
 v5:=Tryz.zeroValue5
 t9:=Tryz.underlying9
 a9:=Tryz.isAgg9
 z9:=Tryz.sizeOf9
 v9:=Tryz.zeroValue9
 t20:=Tryz.underlying20
 a20:=Tryz.isAgg20
 z20:=Tryz.sizeOf20
 v20:=Tryz.zeroValue20
 t37:=Tryz.underlying47
 a37:=Tryz.isAgg47
 z37:=Tryz.sizeOf47
 v37:=Tryz.zeroValue47
 t46:=Tryz.underlying87
 a46:=Tryz.isAgg87
 z46:=Tryz.sizeOf87
 v46:=Tryz.zeroValue87
 t51:=Tryz.underlying312
 a51:=Tryz.isAgg312
 z51:=Tryz.sizeOf312
 v51:=Tryz.zeroValue312
 t53:=Tryz.underlying51
 a53:=Tryz.isAgg51
 z53:=Tryz.sizeOf51
 v53:=Tryz.zeroValue51
 t171:=Tryz.underlying400
 a171:=Tryz.isAgg400
 z171:=Tryz.sizeOf400
 v171:=Tryz.zeroValue400
 t173:=Tryz.underlying402
 a173:=Tryz.isAgg402
 z173:=Tryz.sizeOf402
 v173:=Tryz.zeroValue402
 t212:=Tryz.underlying423
 a212:=Tryz.isAgg423
 z212:=Tryz.sizeOf423
 v212:=Tryz.zeroValue423
 t213:=Tryz.underlying424
 a213:=Tryz.isAgg424
 z213:=Tryz.sizeOf424
 t232:=Tryz.underlying351
 a232:=Tryz.isAgg351
 z232:=Tryz.sizeOf351
 v232:=Tryz.zeroValue351
 t233:=Tryz.underlying352
 a233:=Tryz.isAgg352
 z233:=Tryz.sizeOf352
 v233:=Tryz.zeroValue352
 g17:=by kernel_rfl
 g18:=by kernel_rfl
 g19:=by kernel_rfl
 i0:=by kernel_rfl
 i2:=by kernel_rfl
 i3:=by kernel_rfl
 i4:=by kernel_rfl
 i5:=by kernel_rfl
 i9:=by kernel_rfl
 i20:=by kernel_rfl
 i37:=by kernel_rfl
 i46:=by kernel_rfl
 i51:=by kernel_rfl
 i53:=by kernel_rfl
 i171:=by kernel_rfl
 i173:=by kernel_rfl
 i212:=by kernel_rfl
 i232:=by kernel_rfl
 i233:=by kernel_rfl
 m17:=by kernel_rfl
 m18:=by kernel_rfl
 m19:=by kernel_rfl}
open Go.RowKit Go.Sort Go.Lib in
theorem o1 (n:Int) (h0:-9223372036854775808<=n) (h1:n<=9223372036854775807) (w:World) (htab:Lib.TabIs Tryz.prog w "internal/strconv.uint64pow10" .u64 Lib.pow10Tab) :
 Calls Tryz.prog 200 #[.int .i64 n] w λe w'=>e=.returned (.string ⟨(Lib.itoa n).toArray⟩)/\∃k os,w'=grow (w.drewN k) os:=Any.strconv_Itoa ui n h0 h1 w htab
end Go.Proofs
namespace FK
structure Jn where
 n:Nat
 torn:Bool
 broken:Int
def xi (n:Nat):ByteArray:=⟨(Go.Lib.decDigits n).toArray⟩
def d7 (n:Nat):ByteArray:=⟨#[108,111,103]⟩++xi n
def Jn.add (J:Jn) (σ:Dsk) (s:ByteArray):Jn×Dsk×Int:=
 if J.broken≠0 then(J,σ,J.broken) else if (σ.tell ⟨2,d7 J.n,s⟩).2≠0 then({J with broken:=(σ.tell ⟨2,d7 J.n,s⟩).2},(σ.tell ⟨2,d7 J.n,s⟩).1,(σ.tell ⟨2,d7 J.n,s⟩).2)
 else({J with broken:=(σ.tell ⟨2,d7 J.n,s⟩).1.sync.2},(σ.tell ⟨2,d7 J.n,s⟩).1.sync.1,(σ.tell ⟨2,d7 J.n,s⟩).1.sync.2)
end FK
variable {J:FK.Jn}
namespace Go.Y
open Go.Proofs
open Go Go.RowKit Go.SL
theorem ya (e:Int):(eY e).oneCell'=true:=by
 unfold eY
 split<;>rfl
theorem C3 {P:Program} {t:TypeId} (I:ev ts x=some (.iface t v)):Ev P ts (.nilCheck x) (.iface t v) Any:=by
 intro a w _ _ _ _ _ k _;simp[execOp,k.eval I]
theorem IP (p:Addr) (w:World):(Go.method (Tryz.prog.types.size+Made.depth) 115 (.pointer (some p)) "Append").run Tryz.prog w=.ok (326,.pointer (some p)) w:=by kernel_rfl
theorem E1 (p:Addr) (w:World):(Go.method (Tryz.prog.types.size+Made.depth) 115 (.pointer (some p)) "Sync").run Tryz.prog w=.ok (330,.pointer (some p)) w:=by kernel_rfl
theorem Kr (p:Addr) (w:World):(Go.method (Tryz.prog.types.size+Made.depth) 115 (.pointer (some p)) "Names").run Tryz.prog w=.ok (327,.pointer (some p)) w:=by kernel_rfl
theorem mRead (p:Addr) (w:World):(Go.method (Tryz.prog.types.size+Made.depth) 115 (.pointer (some p)) "Read").run Tryz.prog w=.ok (328,.pointer (some p)) w:=by kernel_rfl
abbrev xg (d:Nat) (J:FK.Jn):Array Value:=#[.iface 115 (aX d),aw J.n,.bool J.torn,eY J.broken]
abbrev aP (j d:Nat) (J:FK.Jn):HP:=blk j 254 (xg d J)
theorem Ef (O:n<1000000):dQ 200 [aw n] [] λv m=>v=fm (FK.xi n)/\m=[]:=
 (fM (G:=Good) (φ:=λ_=>True) λ_ w E hw _=>(o1 n am am w (E.pow w hw)).mono λ_ _ ⟨I,k,J,K⟩=>⟨by rw[I,Lib.itoa_nonneg];rfl,by rw[K];exact Lib.below_grow _ _ (cu _) k J⟩).does
theorem Hg (n:Nat) (E:n<1000000):(FK.xi n).size<=21:=by
 have h:=Lib.itoa_length_le (n:Int) am am;rw[Lib.itoa_nonneg] at h;have e:(FK.xi n).size=(Lib.decDigits n).length:=by
  show(Lib.decDigits n).toArray.size=_;simp
 omega
theorem uQ {kind:ByteArray} (I:n<1000000) (hk:kind.size<=1000):dQ 155 [fm kind,aw n] [] λv m=>v=fm (kind++FK.xi n)/\m=[]:=by
 have K:=Hg n I;refine bA Tryz.func155 Z λE fr J=>aZ<|sS<|sB Z<|bq Z<|sM Z ?_
 refine bW Z (Ef I) aT ?_;exact aZ<|sP (vg Z Z am)<|sB Z<|an<|ar [] rfl Z ⟨rfl,rfl⟩ aT
theorem pC (bs:List UInt8) (h:bs.length<=1099511627776):(FK.frame bs).length<=bs.length+14:=by
 have:=iy (n:=bs.length) am;unfold FK.frame FK.xb;simp;omega
structure Roomy (σ:FK.Dsk):Prop where
 now:FK.pQ σ.now<=4611686018427387904
 dur:FK.pQ σ.dur+FK.kl σ.pend<=4611686018427387904
 pend:σ.pend.length<=1000000000000
theorem Aw (σ:FK.Dsk) (o:FK.DOp):((σ.tell o).1.dur=σ.dur)/\((σ.tell o).1.pend=σ.pend\/(σ.tell o).1.pend=σ.pend++[o])/\((σ.tell o).1.now=σ.now\/(σ.tell o).1.now=FK.fj σ.now o):=by
 have hw:σ.writes.1.now=σ.now/\σ.writes.1.dur=σ.dur/\σ.writes.1.pend=σ.pend:=by
  unfold FK.Dsk.writes;split
  · exact⟨rfl,rfl,rfl⟩
  · split<;>exact⟨rfl,rfl,rfl⟩
 unfold FK.Dsk.tell
 split
 · exact⟨hw.2.1,.inr (by show σ.writes.1.pend++[o]=_;rw[hw.2.2]),.inl hw.1⟩
 · split
   · exact⟨hw.2.1,.inl hw.2.2,.inl hw.1⟩
   · split
     · exact⟨hw.2.1,.inl hw.2.2,.inl hw.1⟩
     · exact⟨hw.2.1,.inr (by show σ.writes.1.pend++[o]=_;rw[hw.2.2]),.inr (by show FK.fj σ.writes.1.now o=_;rw[hw.1])⟩
theorem yl {p:HP} (c:Nat) (hn:J.n<1000000) (hp:Reads p A bs) (hA:A=none->bs=[]) (hl:bs.length<=1000000000000) (hr:Roomy σ):dQ 95 [aX j,.slice A bs.length c] [aP j d J,aI d σ,p] λv m=>v=eY (J.add σ (ii (FK.frame bs))).2.2/\m=[aP j d (J.add σ (ii (FK.frame bs))).1,aI d (J.add σ (ii (FK.frame bs))).2.1,p]:=by
 have K3:=pC bs am;have h1:=hr.now;have h2:=hr.dur;have h3:=hr.pend;refine bA Tryz.func95 Z λE fr hE=>cJ<|sS<|sB Z<|sQ<|sQ ?_
 by_cases Y:J.broken=0
 ·
  have I:J.add σ (ii (FK.frame bs))=if (σ.tell ⟨2,FK.d7 J.n,(ii (FK.frame bs))⟩).2≠0 then({J with broken:=(σ.tell ⟨2,FK.d7 J.n,(ii (FK.frame bs))⟩).2},(σ.tell ⟨2,FK.d7 J.n,(ii (FK.frame bs))⟩).1,(σ.tell ⟨2,FK.d7 J.n,(ii (FK.frame bs))⟩).2) else({J with broken:=(σ.tell ⟨2,FK.d7 J.n,(ii (FK.frame bs))⟩).1.sync.2},(σ.tell ⟨2,FK.d7 J.n,(ii (FK.frame bs))⟩).1.sync.1,(σ.tell ⟨2,FK.d7 J.n,(ii (FK.frame bs))⟩).1.sync.2):=by unfold FK.Jn.add;rw[if_neg (by rw[Y];simp)]
  refine aG j #[.iface 115 (aX d),aw J.n,.bool J.torn,.nilIface] (by unfold xg eY;rw[if_pos Y]) ?_;refine sG<|cG 3 Z Z<|aR Z Z Z Z<|sP (kC Z Z)<|sN<|aM Z<|sZ Z<|dT Z Z<|cv Z Z<|dt 0 Z Z Z<|bQ Z (au Z) (ah Z)<|cv Z Z<|dt 1 Z Z Z<|bQ Z (au Z) (ah Z)<|dj 10 Z (bd Z) ?_
  refine dj 12 Z (C3 Z)<|cv Z Z ?_
  refine dA 9 Z<|ed Z (uQ (kind:=⟨#[108,111,103]⟩) hn fi) aT ?_
  rintro v m ⟨rfl,rfl⟩;refine aZ<|dK [false,true] (ai (ah Z) ak) ?_
  refine dA 11 Z<|ed Z (zv c hp hA am) gfE2 ?_
  rintro v m rfl;refine aD<|dK [true] (ai (ah Z) ak) ?_
  refine dA 14 Z<|ku Z Z Z (IP ⟨d,0,none⟩) Z hE (zS (name:=FK.d7 J.n) am am am) (bo gt .head) ?_
  rintro v m ⟨rfl,rfl⟩;refine aa ?_;obtain⟨ω,hω⟩:∃ω,ω=σ.tell ⟨2,FK.d7 J.n,(ii (FK.frame bs))⟩:=⟨_,rfl⟩;have K:=Aw σ ⟨2,FK.d7 J.n,(ii (FK.frame bs))⟩;rw[<-hω] at K I ⊢;obtain⟨O,e1⟩:=ω;have wf:(ii (FK.frame bs)).size=(FK.frame bs).length:=oC _;obtain⟨mt,T,-⟩:=K;have BT:FK.kl (σ.pend++[⟨2,FK.d7 J.n,(ii (FK.frame bs))⟩])=FK.kl σ.pend+(FK.frame bs).length:=by simp[FK.kl,wf]
  have Fd:FK.pQ O.dur+FK.kl O.pend<=9223372036854775807:=by
   simp only at mt T;rw[mt];rcases T with h|h<;>rw[h]
   · omega
   · rw[BT];omega
  have In:O.pend.length<=1099511627776:=by
   simp only at T;rcases T with h|h<;>rw[h]
   · omega
   · rw[List.length_append];simp;omega
  refine dK [true] (ai (ah Z) ak)<|dj 15 Z (cI Z)<|bC Z (bl 3 Z) ?_
  refine dA 17 Z<|co Z Z Z Z (ya _) (by show 3<4;omega) ?_
  refine dK [false] ak<|dE<|sT<|sQ<|sQ ?_
  by_cases HE:e1=0
  ·
   refine aG j #[.iface 115 (aX d),aw J.n,.bool J.torn,.nilIface] (by show(#[_,_,_,eY e1]:Array Value)=_;unfold eY;rw[if_pos HE]) ?_;have ht:J.add σ (ii (FK.frame bs))=({J with broken:=O.sync.2},O.sync.1,O.sync.2):=by rw[I,if_neg (λh=>h HE)]
   refine sG<|cG 3 Z Z<|aR Z Z Z Z<|sP (kC Z Z)<|sN<|aM Z<|sG<|sM Z<|cG 0 Z Z<|aR Z Z Z Z ?_
   refine sO<|ku Z Z Z (E1 ⟨d,0,none⟩) Z hE (pk Fd In) gfE1 ?_
   rintro v m ⟨rfl,rfl⟩;refine aa<|da Z<|bn 3 Z<|bR Z Z Z (ya _) (by show 3<4;omega)<|sN<|sS<|cG 3 Z Z ?_
   refine aR Z Z Z Z<|sB Z<|an ?_
   rw[ht];exact ar [aP j d {J with broken:=O.sync.2},aI d O.sync.1,p] rfl Z ⟨rfl,rfl⟩ aT
  ·
   refine aG j #[.iface 115 (aX d),aw J.n,.bool J.torn,.iface 48 (aw e1)] (by show(#[_,_,_,eY e1]:Array Value)=_;unfold eY;rw[if_neg HE]) ?_;have ht:J.add σ (ii (FK.frame bs))=({J with broken:=e1},O,e1):=by rw[I,if_pos HE]
   refine sG<|cG 3 Z Z<|aR Z Z Z Z<|sP (dV Z Z)<|sN<|aj Z<|ae<|sT<|sS<|cG 3 Z Z<|aR Z Z Z Z<|sB Z ?_
   refine an ?_;rw[ht];refine ar [aP j d {J with broken:=e1},aI d O,p] rfl Z ⟨(if_neg HE).symm,rfl⟩ ?_;show Ent _ (blk j 254 #[_,_,_,eY e1]::aI d O::p::fr);unfold eY;rw[if_neg HE];exact aT
 ·
  have I:J.add σ (ii (FK.frame bs))=(J,σ,J.broken):=by unfold FK.Jn.add;rw[if_pos Y]
  rw[I];refine aG j #[.iface 115 (aX d),aw J.n,.bool J.torn,.iface 48 (aw J.broken)] (by unfold xg eY;rw[if_neg Y]) ?_;refine sG<|cG 3 Z Z<|aR Z Z Z Z<|sP (dV Z Z)<|sN<|aj Z<|ae<|sT<|sQ<|sS<|cG 3 Z Z<|aR Z Z Z Z<|sP (dV Z Z)<|ao ?_
  refine sT<|aj Z<|ae<|sT<|sS<|cG 3 Z Z<|aR Z Z Z Z<|sB Z<|an<|ar [aP j d J,aI d σ,p] rfl Z ⟨(if_neg Y).symm,rfl⟩ ?_
  show Ent _ (blk j 254 #[_,_,_,eY J.broken]::aI d σ::p::fr);unfold eY;rw[if_neg Y];exact aT
end Go.Y
namespace FK
theorem yc {len:Nat}:∀(l:List Int) (p:Int),-1<=p->EdgesOk len p l->∀x∈l,0<=x/\x<len
 | [],_,_,_=>by intro x E;simp at E
 | y::l,p,hp,h=>by
  intro x E;obtain⟨I,J,h3⟩:=h;rcases List.mem_cons.1 E with rfl|E
  · omega
  · exact yc l y am h3 x E
theorem Fit.after {f:Flow} (h:Fit f):∀nd∈f.KW,∀x∈nd.after,0<=x/\x<(f.KW.length:Int):=λnd hnd x E=>by
 obtain⟨i,hi⟩:=List.getElem?_of_mem hnd;exact yc _ _ am (h.KW i nd (ep hi) hi).2 x E
theorem Fit.node (h:Fit f) {nd:Node} (hnd:nd∈f.KW):fB nd:=by
 obtain⟨i,hi⟩:=List.getElem?_of_mem hnd;exact(h.KW i nd (ep hi) hi).1
theorem Do {nd:Node} (h:fB nd) (k:Int) (seed:Nat):0<=fU nd.base nd.cap nd.K0 k seed/\fU nd.base nd.cap nd.K0 k seed<=2097152:=by
 obtain⟨_,_,_,_,⟨E,I⟩,⟨J,K⟩,O,T⟩:=h;have Y:0<=(seed:Int)%(nd.K0+1)/\(seed:Int)%(nd.K0+1)<nd.K0+1:=⟨Int.emod_nonneg _ am,Int.emod_lt_of_pos _ am⟩;unfold fU;have hp:0<=nd.base*2 ^ (k.toNat-1):=Int.mul_nonneg am (Int.pow_nonneg am)
 split
 · omega
 · split
   · have:min nd.cap (nd.base*2 ^ (k.toNat-1))<=nd.cap:=Int.min_le_left _ _
     have:0<=min nd.cap (nd.base*2 ^ (k.toNat-1)):=am;omega
   · omega
end FK
namespace Go.Y
open Go.Proofs
open Go Go.RowKit Go.SL
section
variable {t:Nat} {P:FK.Pl}
theorem DM (E I ji k seed:Int):fW E I ji k seed=FK.fU E I ji k seed:=rfl
theorem Eo (h:FK.Fit f):∀n∈f.KW,(i64 n.KZ/\i64 n.close/\i64 n.beat/\i64 n.base/\i64 n.cap/\i64 n.K0)/\∀x∈n.after,i64 x:=λn E=>by
 obtain⟨K,O,⟨T,Y⟩,⟨c1,c2⟩,⟨d1,d2⟩,⟨e1,e2⟩,f1,f2⟩:=h.node E;have J:=h.head.2.2;refine⟨⟨?_,?_,?_,?_,?_,?_⟩,λx I=>?_⟩
 all_goals first|(unfold i64;omega)|(have:=h.after n E x I;unfold i64;omega)
theorem xY (h:FK.Ok S) (K:S.getR id=some R) (hs:R.KV[k]?=some s) (I:S.sets+1<9223372036854775807) (J:S.ends<9223372036854775807):dQ 234 [aX e,iz ⟨id,(k:Int),wh⟩] [aN e p S] λv m=>v=.tuple #[]/\m=[aN e p (S.failed id k)]:=by
 obtain⟨nd,hn,hp⟩:=h.node K hs;have O:=h.run id R K;have hnd:=bY hn;have Y:=O.fl.node hnd;have wf:=O.fl.head.2.2;have hw:=FK.Do Y s.KU S.seed;have hq:=h.queueLe;have ht:=h.tmsLe;obtain⟨a1,a2,⟨b1,b2⟩,⟨c1,c2⟩,⟨d1,d2⟩,⟨e1,e2⟩,f1,f2⟩:=Y;refine(BZ (G:=Good) (wh:=wh) (λE w hE hw=>hE.tab w hw) K hs hn O.len wf O.fl.after (Eo O.fl) am am J h.now I h.seed d1 e1 e2 f1 f2 (by rw[DM];omega)).mono ?_;rintro v m ⟨rfl,⟨h1,rfl⟩|⟨h1,left,T,ho,mt,rfl⟩⟩
 · refine⟨_,⟨rfl,rfl⟩,?_⟩
   rw[FK.kb K hs hn,if_pos h1];exact aT
 · refine⟨_,⟨rfl,rfl⟩,?_⟩
   rw[FK.kb K hs hn,if_neg am,FK.Jc h K ho mt];exact aT
theorem IB (h:FK.Ok S) {q:List FK.Pl} {nd:FK.Node} (hq:S.KX=⟨id,(k:Int),0⟩::q) (J:S.getR id=some R) (O:R.KV[k]?=some s) (K:R.fl.KW[k]?=some nd) (E:S.sets+1<9223372036854775807) (I:S.KS<9223372036854775807):dQ 101 [aX e] [aN e p S] λv m=>v=.tuple #[fR id k (s.KU+1) (S.KS+1),.bool true]/\m=[aN e p (S.hand ⟨id,(k:Int),0⟩ q R s nd)]:=by
 have Y:=(h.run id R J).sp k s nd O K;have T:=h.tmsLe;obtain⟨a1,a2,⟨b1,b2⟩,⟨c1,c2⟩,_⟩:=(h.run id R J).fl.node (bY K);have h1:=Y.tr0;have h2:=Y.trb;exact Bl hq J O K h.now am am am E am I (λt T=>(h.tlow t T).2) h1 am
theorem zN (h:FK.Ok S) (J:(S.KY.find? (·.1==t)).map (·.2)=some P) (E:S.ends<9223372036854775807):dQ 207 [aX e,aQ t] [aN e p S] λv m=>v=.tuple #[]/\m=[aN e p (S.complete t)]:=by
 obtain⟨id,k,R,s,n,rfl,K,O,hn,_⟩:=h.find J;have I:=h.run id R K;have hq:=h.queueLe;have T:=h.tmsLe;have Y:=I.fl.head.2.2;exact ug J K O I.len I.fl.after am am am E
theorem Jh (h:FK.Ok S) {nd:FK.Node} (K:(S.KY.find? (·.1==t)).map (·.2)=some ⟨id,(k:Int),wh⟩) (I:S.getR id=some R) (J:R.fl.KW[k]?=some nd) (E:S.sets<9223372036854775807):dQ 206 [aX e,aQ t] [aN e p S] λv m=>v=.tuple #[]/\m=[aN e p (S.life ⟨id,(k:Int),wh⟩ nd)]:=by
 have O:=h.tmsLe;obtain⟨_,_,_,⟨T,Y⟩,_⟩:=(h.run id R I).fl.node (bY J);exact EO K I J h.now am E am
theorem EK (h:FK.Ok S) (I:S.getR id=some R) (E:S.ends<9223372036854775807):dQ 209 [aX e,aQ id] [aN e p S] λv m=>v=.tuple #[]/\m=[aN e p (S.finish id 4)]:=by
 have J:=h.run id R I;have T:=h.queueLe;have K:=h.tmsLe;have O:=J.fl.head.2.2;have Y:=J.len;exact zP I am am am E
theorem Ep (h:FK.Ok S) (st:Int) (I:S.getR id=some R) (E:S.ends<9223372036854775807):dQ 235 [aX e,aQ id,aw st] [aN e p S] λv m=>v=.tuple #[]/\m=[aN e p (S.finish id st)]:=by
 have J:=h.run id R I;have T:=h.queueLe;have K:=h.tmsLe;have O:=J.fl.head.2.2;have Y:=J.len;exact mV I am am am E
theorem Iz (h:FK.Ok S):S.QueueOk:=λp K=>by
 obtain⟨id,k,s,rfl,O,Y⟩:=(h.KX p).1 K;obtain⟨R,I,J⟩:=FK.jj O;obtain⟨n,T,E⟩:=h.node I J;obtain⟨a1,a2,_⟩:=(h.run id R I).fl.node (bY T);have h3:=E.tr0;have h4:=E.trb;exact⟨by show(0:Int)<=(k:Int);omega,R,s,I,by rw[Int.toNat_natCast];exact J,h3,am⟩
theorem Gd (h:FK.Ok S):dQ 98 [aX e] [aN e p S] λv m=>m=[aN e p S,row 55 4 v S.KX.length (qV S S.KX)]:=
 Bk (Iz h) (by have:=h.queueLe;omega)
theorem Ge (h:FK.Ok S) (E:S.getR id=some R):dQ 105 [aX e,aQ id] [aN e p S] λv m=>∃I J,v=.tuple #[.agg (cm id R.state I J).toArray,.bool true]/\m=[aN e p S,bG I (R.KV.map (·.state)),bG J (R.KV.map (·.KU))]:=by
 have K:=h.run id R E;have O:=K.fl.head.2.2;have T:=K.len;exact yY E am
theorem IZ (h:FK.Ok S) (K:(S.KY.find? (·.1==t)).map (·.2)=some P) (I:S.sets+1<9223372036854775807) (J:S.ends<9223372036854775807):dQ 208 [aX e,aQ t] [aN e p S] λv m=>v=.tuple #[]/\m=[aN e p (S.fail t)]:=by
 obtain⟨id,k,R,s,n,rfl,O,T,hn,_⟩:=h.find K;rw[FK.rk K];refine bA Tryz.func208 Z λE fr Y=>aa<|sG<|sM Z<|cG 2 Z Z ?_
 refine bF (au (v:=.map (some p.tm)) Z) (bE λ_ _ _=>rfl) ?_;refine sM Z<|bF (gy (m:=dD S) Z fc Z Z (Fe K)) nu ?_
 refine bW Z (xY h O T I J) aT ?_;exact aa<|ao<|bD [_] rfl ⟨rfl,rfl⟩ aT
end
end Go.Y
namespace FK
end FK
namespace Go.Y
open Go.Proofs
open Go Go.RowKit Go.SL
theorem Ih (h:FK.Ok S) (hn:n<18446744073709551616) (Le:S.sets<=4611686018427387904) (Lg:S.ends<=4611686018427387904):dQ 210 [aX e,aQ n] [aN e p S] λv m=>v=.tuple #[]/\∃U,FK.Ticks (S.later n) S U/\m=[aN e p U]:=by
 have Ll:=h.massLe;have Lp:=h.now;obtain⟨up,K8⟩:∃up,up=S.later n:=⟨_,rfl⟩;have Lc:up=min (S.now+n) 4611686018427387904:=K8;rw[<-K8];obtain⟨q,hq⟩:∃q,q=(S.now+n)%18446744073709551616:=⟨_,rfl⟩;refine bA Tryz.func210 Z λE fr hE=>aa<|sS<|cG 6 Z Z ?_
 refine bF (au Z) (bE λ_ _ _=>rfl) ?_;refine bW Z vX aT ?_;refine aa<|sB Z<|bq Z<|ch Z (bc (r:=(q:Int)) Z Z (by rw[km];omega))<|sB Z ?_
 refine sQ<|cw (X:=Nat) (λy=>[(5,.int .u64 y),(0,aX e)]) (λ_=>aN e p S::fr) (λy=>min y 4611686018427387904=up) ?_ ?_
 ·
  refine bq Z<|ch Z (bz Z Z Z)<|sN ?_
  refine aB Z (λLh=>?_) λLh=>?_
  ·
   refine sG<|sA Z<|ao ?_
   exact aW 4611686018427387904 am bV aT
  ·
   refine ae ?_;exact aW q (by rw[Lc];omega) bV aT
 intro y hy;refine bq Z<|sP (Fz (r:=(up:Int)) Z Z am)<|sB Z<|ag ?_
 refine aO (X:=FK.En) (λ_=>[(5,.int .u64 up),(0,aX e)]) (λT=>aN e p T::fr) (λT=>FK.Ok T/\T.now<=up/\T.sets+T.mass<=S.sets+S.mass/\T.ends+T.mass<=S.ends+S.mass/\∀U,FK.Ticks up T U->FK.Ticks up S U) (λT=>T.mass) S ⟨h,am,cu _,cu _,λ_ h=>h⟩ bV aT ?_;rintro T ⟨hT,K5,Lr,Ls,Lb⟩;replace K5:T.now<=up:=K5;refine ag<|sQ ?_
 by_cases HD:∀y∈T.tms,up<y.2
 ·
  refine sG<|cG 6 Z Z ?_
  refine bF (au Z) (bE λ_ _ _=>rfl) ?_;refine sM Z ?_;refine bU Z (CC up K5 am am (by have:=hT.tmsLe;omega)) aT ?_;rintro v m hP;obtain⟨rfl,rfl⟩:v=.tuple #[iz ⟨0,0,0⟩,.int .u64 0,.bool false]/\m=[aN e p {T with now:=up}]:=by
   rcases hP with⟨x,wf,hm,K7,_,_⟩|⟨_,J,h2⟩
   · have:=HD x hm.mem;omega
   · exact⟨J,h2⟩
  refine aa<|sM Z<|bT Z Z<|bT Z Z<|bT Z Z<|sO (cH (z:=.agg #[.int .u64 0,aw 0,aw 0]) Z λb6=>?_)
  refine sO<|bh (vs:=ir ⟨0,0,0⟩) Z (m:=3) Z Z Z Z er (by show 0+3<=3;omega) ?_
  exact sA Z<|sB Z<|ag<|bq Z<|sP (cD Z Z)<|sB Z<|aM Z<|an<|aH<|aH<|bP<|aH<|bD [_] rfl ⟨rfl,_,Lb _ (.done HD),rfl⟩ Ent.drop
 ·
  refine sG<|cG 6 Z Z ?_
  refine bF (au Z) (bE λ_ _ _=>rfl) ?_;refine sM Z ?_;refine bU Z (CC up K5 am am (by have:=hT.tmsLe;omega)) aT ?_;rintro v m hP;obtain⟨x,wf,hm,K7,rfl,rfl⟩:∃(x:FK.KD) (wf:List FK.KD),FK.IsMin T.tms x wf/\x.2<=up/\v=.tuple #[iz x.1,.int .u64 x.2,.bool true]/\m=[aN e p {T with now:=x.2,tms:=wf}]:=by
   rcases hP with h|⟨J,_⟩
   · exact h
   · exact absurd J HD
  refine aa<|sM Z<|bT Z Z<|bT Z Z<|bT Z Z<|sO (cH (z:=.agg #[.int .u64 0,aw 0,aw 0]) Z λb6=>?_)
  refine sO<|bh (vs:=ir x.1) Z (m:=3) Z Z Z Z er (by show 0+3<=3;omega) ?_
  refine sA Z<|sB Z<|ag<|sQ<|aG b6 (ir x.1).toArray Z ?_
  obtain⟨Fd,Lj,R,hR,K4⟩:=hT.pop hm;obtain⟨W,hW⟩:∃W:FK.En,W={T with now:=x.2,tms:=wf}:=⟨_,rfl⟩;have Lt:W.mass=T.mass:=by rw[hW];rfl
  have Lu:W.sets=T.sets:=by rw[hW]
  have Lv:W.ends=T.ends:=by rw[hW]
  have I:W.getR x.1.run=some R:=by rw[hW];exact hR
  have Ld:∀y∈W.tms,y.1≠x.1:=by rw[hW];exact Lj
  rw[<-hW] at Fd ⊢;have O:=Fd.due_less I K4;have BT:=Fd.due I K4 Ld;have Y:∀U,FK.Ticks up (W.due x.1) U->FK.Ticks up S U:=λU hU=>Lb U (.step hm K7 (hW▸hU));have Lm:=O.mass;have Ln:=O.sets;have Lo:=O.ends;have mt:(W.due x.1).now<=up:=by rw[O.now,hW];exact K7
  refine sG<|ch Z (cD Z Z)<|sB Z<|aj Z<|sS<|bn 2 Z<|aR Z Z Z Z<|sP (aY Z Z Z)<|sB Z ?_
  refine aB Z (λK=>?_) λK=>?_
  ·
   obtain⟨Lq,In⟩:x.1=⟨x.1.run,-1,0⟩/\W.due x.1=W.finish x.1.run 5:=by
    rcases FK.i8 I K4 with h|⟨k,s,hs,⟨J,_,_⟩|⟨J,_,_⟩⟩
    · exact h
    · rw[J] at K;exact absurd (show(1:Int)=0 from K) fi
    · rcases J with J|J
      · rw[J] at K;exact absurd (show(1:Int)=0 from K) fi
      · rw[J] at K;exact absurd (show(2:Int)=0 from K) fi
   refine sG<|sM Z<|bn 0 Z<|aR Z Z Z Z ?_
   refine bW Z (Ep Fd 5 I am) gfE1 ?_;refine aa<|ao<|al<|al ?_
   exact aE (W.due x.1) ⟨BT,mt,am,am,Y⟩ am bV (by rw[In];exact Ent.cons Ent.drop)
  ·
   obtain⟨k,s,hs,K9,In⟩:∃(k:Nat) (s:FK.Sp),R.KV[k]?=some s/\x.1.node=(k:Int)/\((s.state=4/\W.due x.1=W.ready x.1.run k)\/(s.state=3/\W.due x.1=W.failed x.1.run k)):=by
    rcases FK.i8 I K4 with⟨J,_⟩|⟨k,s,hs,⟨J,h2,h3⟩|⟨J,h2,h3⟩⟩
    · rw[J] at K;exact absurd rfl K
    · exact⟨k,s,hs,by rw[J],.inl ⟨h2,h3⟩⟩
    · exact⟨k,s,hs,by rcases J with J|J<;>rw[J],.inr ⟨h2,h3⟩⟩
   obtain⟨⟨id,nd,wh⟩,at_⟩:=x;simp only at K9 I In Lm Ln Lo mt BT Y;subst K9;refine sQ<|sZ Z<|dT Z Z<|dt 1 Z Z Z ?_
   refine jh 3 Z (au Z) (bE λ_ _ _=>rfl) ?_;refine dj 4 Z (bl 0 Z)<|bQ Z (au Z) (ah Z)<|bQ Z (gy (a:=id) (v:=aX (p.fb id)) Z fc Z Z (gi I)) dZ<|bC Z (bl 1 Z)<|bQ Z (au Z) (ah Z)<|vw Z (eI Z Z Z Z Z Z λLi=>?_)
   refine dK [true,true,true,true] (ai (ah Z) (ai dZ (ai (ah Z) (ai (bE λ_ _ _=>rfl) ak)))) ?_;refine dA 10 Z<|ed Z (rh [4] (some ⟨Li,0,none⟩) 1 I hs) ((bo de .head).trans (Ent.cons (iq (xs:=[4]) (show 1<=9223372036854775807 by omega)))) ?_
   rintro v m ⟨rfl,rfl⟩;refine aa ?_;refine dK [false,false,true,true] (ai (ah Z) (ai (bE λ_ _ _=>rfl) ak)) ?_;refine dj 11 Z (aU Z)<|dE<|sT ?_
   refine aB Z (λK6=>?_) λK6=>?_
   ·
    have h4:s.state=4:=by simpa using K6
    have K3:W.due ⟨id,(k:Int),wh⟩=W.ready id k:=by rcases In with h|h;exact h.2;omega
    refine sG<|sM Z<|bF (bO (vs:=ir ⟨id,(k:Int),wh⟩) Z) (bm Z) ?_
    refine bW Z (tj (wh:=wh) I hs (by have:=Fd.queueLe;omega)) aT ?_;refine aa<|ao<|al<|al ?_
    exact aE (W.due ⟨id,(k:Int),wh⟩) ⟨BT,mt,am,am,Y⟩ am bV (by rw[K3];exact Ent.cons Ent.drop)
   ·
    have h4:¬s.state=4:=by simpa using K6
    have K3:W.due ⟨id,(k:Int),wh⟩=W.failed id k:=by rcases In with h|h;omega;exact h.2
    refine sG<|sM Z<|bF (bO (vs:=ir ⟨id,(k:Int),wh⟩) Z) (bm Z) ?_
    refine bW Z (xY Fd (wh:=wh) I hs am am) aT ?_;refine aa<|ao<|al<|al ?_
    exact aE (W.due ⟨id,(k:Int),wh⟩) ⟨BT,mt,am,am,Y⟩ am bV (by rw[K3];exact Ent.cons Ent.drop)
end Go.Y
namespace FK
def eD (op n:Nat):List UInt8:=UInt8.ofNat op::dW n
end FK
namespace Go.Y
open Go.Proofs
open Go Go.RowKit Go.SL
abbrev vx (f e:Nat) (jv:Value):HP:=blk f 171 #[aX e,jv]
abbrev cU (f e j:Nat):HP:=vx f e (aX j)
section
variable {Q:FK.En->Prop} {f:Nat} {jv:Value}
theorem vi (h:bs.length<=maxLen):Ent (blk b 5 (dm bs).toArray::r) (dd (dp b bs.length bs.length) bs::r):=
 eV (cu _) h (by simp[dm]) (by rw[List.take_of_length_le (by simp[dm])])
theorem lP (K:A=none->bs.length=0/\c=0) (O:∀E,A=some E->∃g,E=⟨g,0,none⟩):Reads (dd (.slice A bs.length c) bs) A bs/\(A=none->bs=[]):=by
 refine⟨Reads.row λI=>?_,λh=>List.eq_nil_of_length_eq_zero (K h).1⟩;have T:=List.length_pos_iff.2 I;cases A with
 | none=>have:=(K rfl).1;omega
 | some E=>obtain⟨g,rfl⟩:=O E rfl;exact⟨g,rfl⟩
theorem uO {op:Nat} (_:op<256) (T:n<18446744073709551616) (Y:J.n<1000000) (hr:Roomy σ):dQ 100 [aX f,aw op,aQ n] [cU f e j,aP j d J,aI d σ] λv m=>v=eY (J.add σ (ii (FK.frame (FK.eD op n)))).2.2/\m=[cU f e j,aP j d (J.add σ (ii (FK.frame (FK.eD op n)))).1,aI d (J.add σ (ii (FK.frame (FK.eD op n)))).2.1]:=by
 have mt:(FK.eD op n).length<=11:=by
  have:=iy (n:=n) T;unfold FK.eD;simp;omega
 refine bA Tryz.func100 Z λE fr hE=>cJ<|sS<|sB Z<|sQ<|sZ Z<|dT Z Z<|dt 1 Z Z Z<|bQ Z (au Z) (ah Z)<|cv Z Z<|bC Z (dN (r:=((UInt8.ofNat op).toNat:Int)) Z Z Z (rQ op))<|dj 7 Z (bd Z)<|dA 6 Z (eI Z Z Z Z Z Z λO=>(dK [true] (ai (ah Z) ak) ?_))
 refine dA 8 Z<|ed Z (qe (dp O 1 1) [UInt8.ofNat op] n T cY) (vi (bs:=[UInt8.ofNat op]) (by unfold maxLen;simp)) ?_
 rintro v m rfl;refine aa ?_;refine aq (l':=dd v (FK.eD op n)::cU f e j::aP j d J::aI d σ::fr) aT ?_;refine aK .head ?_;rintro A c rfl f1 f2 - - -
 obtain⟨I,K⟩:=lP f1 f2;refine dK [true] (ai (ah Z) ak) ?_;refine dA 9 Z<|ed Z (yl c Y I K am hr) (cF de de .head) ?_
 rintro v m ⟨hv,rfl⟩;refine cJ<|dK [false] ak<|dj 10 Z (aU Z)<|dE<|sT<|an ?_
 exact ar [cU f e j,aP j d (J.add σ (ii (FK.frame (FK.eD op n)))).1,aI d (J.add σ (ii (FK.frame (FK.eD op n)))).2.1] rfl Z ⟨hv,rfl⟩ (by show Ent (aP j d _::aI d _::_::cU f e j::fr) _;exact gfE3.trans (Ent.cons (Ent.cons (Ent.cons Ent.drop))))
theorem Hb (I:dQ 206 [aX e,aQ n] [aN e p S] λv m=>(v=.tuple #[])/\∃U,Q U/\m=[aN e p U]):dQ 166 [aX f,aw 3,aQ n] [vx f e jv,aN e p S] λv m=>v=.tuple #[]/\∃U,Q U/\m=[vx f e jv,aN e p U]:=by
 refine bA Tryz.func166 Z λE fr O=>aD<|bq Z<|sN<|ag<|sS<|sP (aY Z Z Z)<|sB Z<|aj Z<|sS<|sP (aY Z Z Z)<|sB Z ?_
 refine aM Z<|sG<|cG 0 Z Z<|aR Z Z Z Z<|sM Z ?_
 refine bU Z I gfE1 ?_;rintro v m ⟨-,U,K,rfl⟩;exact aa<|ao<|al<|bD [vx f e jv,aN e p U] rfl ⟨rfl,U,K,rfl⟩ gfE1
theorem Ha (I:dQ 207 [aX e,aQ n] [aN e p S] λv m=>(v=.tuple #[])/\∃U,Q U/\m=[aN e p U]):dQ 166 [aX f,aw 4,aQ n] [vx f e jv,aN e p S] λv m=>v=.tuple #[]/\∃U,Q U/\m=[vx f e jv,aN e p U]:=by
 refine bA Tryz.func166 Z λE fr O=>aD<|bq Z<|sN<|ag<|sS<|sP (aY Z Z Z)<|sB Z<|aj Z<|sS<|sP (aY Z Z Z)<|sB Z ?_
 refine aj Z<|sS<|sP (aY Z Z Z)<|sB Z<|aM Z<|sG<|cG 0 Z Z<|aR Z Z Z Z<|sM Z ?_
 refine bU Z I gfE1 ?_;rintro v m ⟨-,U,K,rfl⟩;exact aa<|ao<|al<|bD [vx f e jv,aN e p U] rfl ⟨rfl,U,K,rfl⟩ gfE1
theorem G9 (I:dQ 208 [aX e,aQ n] [aN e p S] λv m=>(v=.tuple #[])/\∃U,Q U/\m=[aN e p U]):dQ 166 [aX f,aw 5,aQ n] [vx f e jv,aN e p S] λv m=>v=.tuple #[]/\∃U,Q U/\m=[vx f e jv,aN e p U]:=by
 refine bA Tryz.func166 Z λE fr O=>aD<|bq Z<|sN<|ag<|sS<|sP (aY Z Z Z)<|sB Z<|aj Z<|sS<|sP (aY Z Z Z)<|sB Z ?_
 refine aj Z<|sS<|sP (aY Z Z Z)<|sB Z<|aj Z<|sS<|sP (aY Z Z Z)<|sB Z<|aM Z<|sG<|cG 0 Z Z<|aR Z Z Z Z ?_
 refine sM Z ?_;refine bU Z I gfE1 ?_;rintro v m ⟨-,U,K,rfl⟩;exact aa<|ao<|al<|bD [vx f e jv,aN e p U] rfl ⟨rfl,U,K,rfl⟩ gfE1
theorem G8 (I:dQ 209 [aX e,aQ n] [aN e p S] λv m=>(v=.tuple #[])/\∃U,Q U/\m=[aN e p U]):dQ 166 [aX f,aw 6,aQ n] [vx f e jv,aN e p S] λv m=>v=.tuple #[]/\∃U,Q U/\m=[vx f e jv,aN e p U]:=by
 refine bA Tryz.func166 Z λE fr O=>aD<|bq Z<|sN<|ag<|sS<|sP (aY Z Z Z)<|sB Z<|aj Z<|sS<|sP (aY Z Z Z)<|sB Z ?_
 refine aj Z<|sS<|sP (aY Z Z Z)<|sB Z<|aj Z<|sS<|sP (aY Z Z Z)<|sB Z<|aj Z<|sS<|sP (aY Z Z Z)<|sA Z<|ao ?_
 refine sT<|aM Z<|sG<|cG 0 Z Z<|aR Z Z Z Z<|sM Z ?_
 refine bU Z I gfE1 ?_;rintro v m ⟨-,U,K,rfl⟩;exact aa<|ao<|al<|bD [vx f e jv,aN e p U] rfl ⟨rfl,U,K,rfl⟩ gfE1
theorem G7 (I:dQ 210 [aX e,aQ n] [aN e p S] λv m=>(v=.tuple #[])/\∃U,Q U/\m=[aN e p U]):dQ 166 [aX f,aw 7,aQ n] [vx f e jv,aN e p S] λv m=>v=.tuple #[]/\∃U,Q U/\m=[vx f e jv,aN e p U]:=by
 refine bA Tryz.func166 Z λE fr O=>aD<|bq Z<|sN<|ag<|sS<|sP (aY Z Z Z)<|sB Z<|aj Z<|sS<|sP (aY Z Z Z)<|sB Z ?_
 refine aj Z<|sS<|sP (aY Z Z Z)<|sB Z<|aj Z<|sS<|sP (aY Z Z Z)<|sB Z<|aj Z<|sS<|sP (aY Z Z Z)<|sA Z<|ao ?_
 refine sT<|aj Z<|sS<|sP (aY Z Z Z)<|sB Z<|aM Z<|sG<|cG 0 Z Z<|aR Z Z Z Z<|sM Z ?_
 refine bU Z I gfE1 ?_;rintro v m ⟨-,U,K,rfl⟩;exact aa<|ao<|al<|bD [vx f e jv,aN e p U] rfl ⟨rfl,U,K,rfl⟩ gfE1
theorem G6 (I:dQ 211 [aX e,aQ n] [aN e p S] λv m=>(v=.tuple #[])/\∃U,Q U/\m=[aN e p U]):dQ 166 [aX f,aw 8,aQ n] [vx f e jv,aN e p S] λv m=>v=.tuple #[]/\∃U,Q U/\m=[vx f e jv,aN e p U]:=by
 refine bA Tryz.func166 Z λE fr O=>aD<|bq Z<|sN<|ag<|sS<|sP (aY Z Z Z)<|sB Z<|aj Z<|sS<|sP (aY Z Z Z)<|sB Z ?_
 refine aj Z<|sS<|sP (aY Z Z Z)<|sB Z<|aj Z<|sS<|sP (aY Z Z Z)<|sB Z<|aj Z<|sS<|sP (aY Z Z Z)<|sA Z<|ao ?_
 refine sT<|aj Z<|sS<|sP (aY Z Z Z)<|sB Z<|aj Z<|sS<|sP (aY Z Z Z)<|sB Z<|aM Z<|sG<|cG 0 Z Z ?_
 refine aR Z Z Z Z<|sM Z ?_
 refine bU Z I gfE1 ?_;rintro v m ⟨-,U,K,rfl⟩;exact aa<|ao<|al<|bD [vx f e jv,aN e p U] rfl ⟨rfl,U,K,rfl⟩ gfE1
def CallPost (f e j d:Nat) (p:EA) (S:FK.En) (J:FK.Jn) (σ:FK.Dsk) (op n:Nat) (Q:FK.En->Prop) (v:Value) (m:List HP):Prop:=
 v=eY (J.add σ (ii (FK.frame (FK.eD op n)))).2.2/\∃U,((J.add σ (ii (FK.frame (FK.eD op n)))).2.2=0->Q U)/\((J.add σ (ii (FK.frame (FK.eD op n)))).2.2≠0->U=S)/\m=[cU f e j,aN e p U,aP j d (J.add σ (ii (FK.frame (FK.eD op n)))).1,aI d (J.add σ (ii (FK.frame (FK.eD op n)))).2.1]
theorem kh {op:Nat} (O:op<256) (Y:n<18446744073709551616) (hJ:J.n<1000000) (hr:Roomy σ)
 (hD:dQ 166 [aX f,aw op,aQ n] [cU f e j,aN e p S] λv m=>v=.tuple #[]/\∃U,Q U/\m=[cU f e j,aN e p U]):dQ 104 [aX f,aw op,aQ n] [cU f e j,aN e p S,aP j d J,aI d σ] (CallPost f e j d p S J σ op n Q):=by
 refine bA Tryz.func104 Z λE fr hE=>bS<|sS<|sB Z<|bq Z<|sM Z<|sM Z ?_
 refine bU Z (uO (e:=e) (j:=j) O Y hJ hr) (Ent.cons (bo bJ bJ)) ?_;rintro v m ⟨I,rfl⟩;refine cJ ?_
 generalize T:J.add σ (ii (FK.frame (FK.eD op n)))=ω at I ⊢
 refine sB Z<|sQ<|sQ ?_
 by_cases K:ω.2.2=0
 ·
  replace I:=I.trans (if_pos K);subst I;refine sG<|ch Z (kC Z Z)<|sN<|aM Z<|sG<|sM Z<|sM Z<|sM Z ?_
  refine bU Z hD (Ent.cons gfE2) ?_;rintro v m ⟨rfl,U,hU,rfl⟩;refine aD<|sN<|bq Z<|sB Z<|an ?_
  exact ar [cU f e j,aN e p U,aP j d ω.1,aI d ω.2.1] rfl Z (by unfold CallPost;rw[T];exact⟨(if_pos K).symm,U,λ_=>hU,λh=>absurd K h,rfl⟩) aT
 ·
  replace I:=I.trans (if_neg K);subst I;refine sG<|ch Z (dV Z Z)<|sN<|aj Z<|ae<|sT<|bq Z<|sB Z<|an ?_
  exact ar [cU f e j,aN e p S,aP j d ω.1,aI d ω.2.1] rfl Z (by unfold CallPost;rw[T];exact⟨(if_neg K).symm,S,λh=>absurd h K,λ_=>rfl,rfl⟩)<|Ent.cons gfE2
end
theorem Ej (O:0<k) (T:k<=1099511627776):dx G 157 [cx,aw k] [] λv m=>m=[dd v []]:=by
 refine bA Tryz.func157 Z λE fr Y=>aZ<|sS<|sB Z<|sQ<|bq Z<|sP (bz (r:=false) Z Z cY)<|sN<|aj Z<|ae<|sT<|sQ<|bq Z ?_
 refine ch Z (C4 Z Z)<|ch Z (bp Z Z)<|sP (cV (r:=0) Z Z fi)<|sP (cV (r:=(k:Int)) Z Z dP)<|sB Z<|bq Z<|sP (dY (r:=true) Z Z (by simp;omega))<|sN<|aM Z<|sG<|sM Z<|ch Z (C4 Z Z) ?_
 refine sP (H5 (v':=cx) (fx (z:=1) (a:=0) (b:=0) Z Z Z Z ⟨_,rfl⟩ (cu _) (cu _)) Z)<|sM Z ?_
 refine sO (Kn Z Z Z jC Z Z Z O (by unfold maxLen;omega) am λJ I K=>?_);exact ch Z (bp Z Z)<|sP (H5 (v':=dp J 0 I) (fx (z:=1) (a:=0) (b:=0) Z Z Z Z ⟨_,rfl⟩ (cu _) (Nat.zero_le _)) (by simp only[Nat.sub_zero];split<;>rfl))<|sB Z<|bq Z<|sB Z<|an<|ar [_] rfl Z Z aT
def iG (a b:List UInt8) (k:Nat):List UInt8:=if k=0 then[] else if k=1 then a else a++b
theorem zM {g:Nat} {A1:Option Addr} {bs1:List UInt8} {p1 p2:HP} (c1 c2:Nat) (mt:Reads p1 A1 bs1) (wf:A1=none->bs1=[]) (BT:Reads p2 A bs) (Fd:A=none->bs=[]) (h0:0<bs1.length+bs.length) (hl:bs1.length+bs.length<=1099511627776) :
 dx G 96 [dp g 2 2] [blk g 47 #[.slice A1 bs1.length c1,.slice A bs.length c2],p1,p2] λv m=>m=[dd v (bs1++bs),p1,p2]:=by
 refine bA Tryz.func96 Z λE fr hE=>cJ<|sS<|sB Z<|sS<|sB Z<|sQ<|bq Z<|sP (bp Z Z)<|sM Z<|sN<|ag ?_
 refine aO (X:=Nat) (λk=>[(11,aw k),(10,aw (2:Nat)),(9,dp g 2 2),(3,aw (iG bs1 bs k).length),(0,dp g 2 2)]) (λ_=>blk g 47 #[.slice A1 bs1.length c1,.slice A bs.length c2]::p1::p2::fr) (λk=>k<=2) (λk=>2-k) 0 (Nat.zero_le _) bV aT ?_;intro k hk;have K3:(iG bs1 bs k).length<=bs1.length+bs.length:=by unfold iG;split;simp;split;omega;simp
 refine sS<|sP (bz Z Z Z)<|sN<|sQ ?_
 refine aB Z (λK=>?_) λK=>?_
 ·
  have J:k<2:=by have:(k:Int)<((2:Nat):Int):=K;omega
  refine ae<|sT<|sQ<|ag<|sQ ?_
  by_cases HK:k=0
  ·
   subst HK;refine sG<|sP (aS (z:=1) Z Z Z Z J)<|aR Z Z Z Z<|sB Z<|bq Z<|ch Z (bp Z Z)<|sP (bc (r:=((iG bs1 bs 1).length:Int)) Z Z (by simp only[iG];simp;rw[jf am]))<|sB Z<|bq Z<|sP (bz (r:=false) Z Z cY)<|ao ?_
   refine sT<|aj Z<|ae<|al<|sT<|sG<|sP (bc (r:=((1:Nat):Int)) Z Z fi)<|sM Z<|ao ?_
   exact aE 1 am am bV aT
  ·
   obtain rfl:k=1:=am;refine sG<|sP (aS (z:=1) Z Z Z Z J)<|aR Z Z Z Z<|sB Z<|bq Z<|ch Z (bp Z Z)<|sP (bc (r:=((iG bs1 bs 2).length:Int)) Z Z (by simp only[iG];simp;rw[jf am]))<|sB Z<|bq Z<|sP (bz (r:=false) Z Z cY)<|ao ?_
   refine sT<|aj Z<|ae<|al<|sT<|sG<|sP (bc (r:=((2:Nat):Int)) Z Z fi)<|sM Z<|ao ?_
   exact aE 2 am am bV aT
 ·
  obtain rfl:k=2:=by have:¬(k:Int)<((2:Nat):Int):=K;omega
  have h2:iG bs1 bs 2=bs1++bs:=rfl;refine aL<|aA<|az<|ap<|sT<|bq Z ?_
  refine bU Z (Ej (k:=(iG bs1 bs 2).length) (by rw[h2,List.length_append];exact h0) am) aT ?_;rintro v m rfl;refine aa<|sB Z<|sQ<|bq Z<|sP (bp Z Z)<|sM Z<|sN<|ag ?_
  refine aO (X:=Nat×Value) (λx=>[(27,aw x.1),(26,aw (2:Nat)),(25,dp g 2 2),(6,x.2)]) (λx=>dd x.2 (iG bs1 bs x.1)::blk g 47 #[.slice A1 bs1.length c1,.slice A bs.length c2]::p1::p2::fr) (λx=>x.1<=2) (λx=>2-x.1) (0,v) (Nat.zero_le _) bV aT ?_;rintro⟨k,u⟩ hk;replace hk:k<=2:=hk;refine sS<|sP (bz Z Z Z)<|sN<|sQ ?_
  refine aB Z (λO=>?_) λO=>?_
  ·
   have J:k<2:=by have:(k:Int)<((2:Nat):Int):=O;omega
   refine ae<|sT<|sQ<|ag<|sQ ?_
   by_cases HM:k=0
   ·
    subst HM;refine sG<|sP (aS (z:=1) Z Z Z Z J)<|aR Z Z Z Z<|sB Z<|sG<|sM Z<|sM Z ?_
    refine dq rfl (bZ rfl rfl jC rfl am rfl rfl (HasVal.sel (v:=u)) (news:=dm bs1) (by rw[ld];omega) (λh=>by rw[wf h];rfl) (Reads.src mt de) (by intro u hu;obtain⟨x,_,rfl⟩:=List.mem_map.1 hu;rfl) (by unfold maxLen;simp[iG];omega) (by simp[iG];omega) λT In=>?_);refine sA Z<|ao<|al<|sT<|sG<|sP (bc (r:=((1:Nat):Int)) Z Z Z)<|sM Z<|ao<|aE (1,T) (by show 1<=2;omega) (by show 2-1<2-0;omega) bV ?_
    show Ent (row 5 1 T (0+bs1.length) ([]++dm bs1)::_) (row 5 1 T bs1.length (dm bs1)::_);rw[Nat.zero_add,List.nil_append];exact aT
   ·
    obtain rfl:k=1:=am;refine sG<|sP (aS (z:=1) Z Z Z Z J)<|aR Z Z Z Z<|sB Z<|sG<|sM Z<|sM Z ?_
    refine dq rfl (bZ rfl rfl jC rfl am rfl rfl (HasVal.sel (v:=u)) (news:=dm bs) (by rw[ld];omega) (λh=>by rw[Fd h];rfl) (Reads.src BT gt) (by intro u hu;obtain⟨x,_,rfl⟩:=List.mem_map.1 hu;rfl) (by unfold maxLen;simp[iG];omega) (by simp[iG];omega) λT In=>?_);refine sA Z<|ao<|al<|sT<|sG<|sP (bc (r:=((2:Nat):Int)) Z Z Z)<|sM Z<|ao<|aE (2,T) (by show 2<=2;omega) (by show 2-2<2-1;omega) bV ?_
    show Ent (row 5 1 T (bs1.length+bs.length) (dm bs1++dm bs)::_) (row 5 1 T (bs1++bs).length (dm (bs1++bs))::_);rw[List.length_append,js];exact aT
  ·
   obtain rfl:k=2:=by have:¬(k:Int)<((2:Nat):Int):=O;omega
   exact aL<|aA<|az<|ap<|sT<|bq Z<|sB Z<|an<|ar [dd u (bs1++bs),p1,p2] rfl Z Z<|Ent.cons Ent.drop
abbrev bX (f e j d:Nat) (p:EA) (S:FK.En) (J:FK.Jn) (σ:FK.Dsk):List HP:=[cU f e j,aN e p S,aP j d J,aI d σ]
section
variable {f t:Nat} {P:FK.Pl}
theorem n7 {op:Nat} (I:S.KY.any (·.1==t)=false):dQ 102 [aX f,aw op,aQ t] (bX f e j d p S J σ) λv m=>v=eY 7/\m=bX f e j d p S J σ:=by
 refine bA Tryz.func102 Z λE fr K=>bS<|sS<|sB Z<|sQ<|sS<|cG 0 Z Z<|aR Z Z Z Z<|sM Z ?_
 refine bW Z (sF t) gfE1 ?_;refine aa ?_;rw[I];exact sP (cD Z Z)<|sN<|aM Z<|sS<|sP (ef Z Z Z)<|sB Z<|an<|aC<|ar (bX f e j d p S J σ) Z Z ⟨rfl,rfl⟩ gfE1
theorem n0 {op:Nat} {Q:FK.En->Prop} (I:S.KY.any (·.1==t)=true) (K:dQ 104 [aX f,aw op,aQ t] (bX f e j d p S J σ) (CallPost f e j d p S J σ op t Q)):dQ 102 [aX f,aw op,aQ t] (bX f e j d p S J σ) (CallPost f e j d p S J σ op t Q):=by
 refine bA Tryz.func102 Z λE fr T=>bS<|sS<|sB Z<|sQ<|sS<|cG 0 Z Z<|aR Z Z Z Z<|sM Z ?_
 refine bW Z (sF t) gfE1 ?_;refine aa ?_;rw[I];refine sP (cD Z Z)<|sN<|aj Z<|ae<|sT<|bq Z<|sM Z<|sM Z ?_
 refine bU Z K gfE1 ?_;rintro v m O;exact sB Z<|an<|ar m Z Z O aT
theorem sz (h:(S.KY.find? (·.1==t)).map (·.2)=some P):S.KY.any (·.1==t)=true:=by
 cases hf:S.KY.find? (·.1==t) with
 | none=>rw[hf] at h;cases h
 | some x=>exact List.any_eq_true.2 ⟨x,List.mem_of_find?_eq_some hf,List.find?_some (p:=λx:Nat×FK.Pl=>x.1==t) hf⟩
theorem qN (I:S.KY.any (·.1==t)=false):dQ 56 [aX f,aQ t] (bX f e j d p S J σ) λv m=>v=eY 7/\m=bX f e j d p S J σ:=by
 refine bA Tryz.func56 Z λE fr K=>bS<|sS<|sB Z<|bq Z<|sM Z ?_
 refine bW Z (n7 (op:=4) I) aT ?_;exact bS<|sB Z<|an<|ar (bX f e j d p S J σ) Z Z ⟨rfl,rfl⟩ aT
theorem qM (h:FK.Ok S) (T:t<18446744073709551616) (Y:J.n<1000000) (hr:Roomy σ) (O:(S.KY.find? (·.1==t)).map (·.2)=some P) (I:S.ends<9223372036854775807):dQ 56 [aX f,aQ t] (bX f e j d p S J σ) (CallPost f e j d p S J σ 4 t λU=>U=S.complete t):=by
 refine bA Tryz.func56 Z λE fr hE=>bS<|sS<|sB Z<|bq Z<|sM Z ?_
 refine bU Z (n0 (op:=4) (Q:=λU=>U=S.complete t) (sz O) (kh (op:=4) am T Y hr (Ha ((zN h O I).mono λv m K=>⟨m,⟨K.1,_,rfl,K.2⟩,aT⟩)))) aT ?_;rintro v m K;exact sB Z<|an<|ar m Z Z K aT
theorem zD (I:S.KY.any (·.1==t)=false):dQ 57 [aX f,aQ t] (bX f e j d p S J σ) λv m=>v=eY 7/\m=bX f e j d p S J σ:=by
 refine bA Tryz.func57 Z λE fr K=>bS<|sS<|sB Z<|bq Z<|sM Z ?_
 refine bW Z (n7 (op:=5) I) aT ?_;exact bS<|sB Z<|an<|ar (bX f e j d p S J σ) Z Z ⟨rfl,rfl⟩ aT
theorem zC (h:FK.Ok S) (Y:t<18446744073709551616) (hJ:J.n<1000000) (hr:Roomy σ) (T:(S.KY.find? (·.1==t)).map (·.2)=some P) (I:S.sets+1<9223372036854775807) (K:S.ends<9223372036854775807):dQ 57 [aX f,aQ t] (bX f e j d p S J σ) (CallPost f e j d p S J σ 5 t λU=>U=S.fail t):=by
 refine bA Tryz.func57 Z λE fr hE=>bS<|sS<|sB Z<|bq Z<|sM Z ?_
 refine bU Z (n0 (op:=5) (Q:=λU=>U=S.fail t) (sz T) (kh (op:=5) am Y hJ hr (G9 ((IZ h T I K).mono λv m O=>⟨m,⟨O.1,_,rfl,O.2⟩,aT⟩)))) aT ?_;rintro v m O;exact sB Z<|an<|ar m Z Z O aT
theorem BS (h:FK.Ok S) (O:n<18446744073709551616) (T:J.n<1000000) (Y:Roomy σ) (I:S.sets<=4611686018427387904) (K:S.ends<=4611686018427387904):dQ 59 [aX f,aQ n] (bX f e j d p S J σ) (CallPost f e j d p S J σ 7 n λU=>FK.Ticks (S.later n) S U):=by
 refine bA Tryz.func59 Z λE fr hE=>bS<|sS<|sB Z<|bq Z<|sM Z ?_
 refine bU Z (kh (op:=7) am O T Y (G7 (Ih h O I K))) aT ?_;rintro v m hv;exact sB Z<|an<|ar m Z Z hv aT
theorem zy (I:S.KX=[]):dQ 53 [aX f] (bX f e j d p S J σ) λv m=>v=.tuple #[fR 0 0 0 0,.bool false,.nilIface]/\m=bX f e j d p S J σ:=by
 refine bA Tryz.func53 Z λE fr O=>bS<|sS<|sO (cH (z:=.agg #[.int .u64 0,aw 0,aw 0,.int .u64 0]) Z λK=>(sA Z (sB Z (sQ (sS (sM Z (da Z (bn 0 Z (aR Z Z Z Z ?_)))))))))
 refine bW Z yj gfE2 ?_;refine aa ?_;rw[show decide (0<S.KX.length)=false by rw[I];rfl];refine sP (cD Z Z)<|sN<|aM Z<|sS<|sP (bI (ps:=[]) (vs:=[]) (cs:=(cd 0 0 0 0).toArray) Z Z Z Z Z) ?_
 refine sO<|bh Z (m:=4) (vs:=cd 0 0 0 0) Z Z Z Z er (by show 0+4<=4;omega) ?_
 exact aG K (cd 0 0 0 0).toArray Z<|sA Z<|sB Z<|an<|aC<|eP (bX f e j d p S J σ) Z (bM (vs:=cd 0 0 0 0) Z Z Z Z (bm Z)) (bL Z) (bL Z) ⟨rfl,rfl⟩<|Ent.drop.trans gfE1
def oL (f e j d:Nat) (p:EA) (S:FK.En) (J:FK.Jn) (σ:FK.Dsk) (id k:Nat) (q:List FK.Pl) (R:FK.Rn) (s:FK.Sp) (nd:FK.Node) (v:Value) (m:List HP):Prop:=
 ((J.add σ (ii (FK.frame (FK.eD 2 0)))).2.2=0/\v=.tuple #[fR id k (s.KU+1) (S.KS+1),.bool true,.nilIface]/\m=bX f e j d p (S.hand ⟨id,(k:Int),0⟩ q R s nd) (J.add σ (ii (FK.frame (FK.eD 2 0)))).1 (J.add σ (ii (FK.frame (FK.eD 2 0)))).2.1)\/
 ((J.add σ (ii (FK.frame (FK.eD 2 0)))).2.2≠0/\v=.tuple #[fR 0 0 0 0,.bool false,eY (J.add σ (ii (FK.frame (FK.eD 2 0)))).2.2]/\m=bX f e j d p S (J.add σ (ii (FK.frame (FK.eD 2 0)))).1 (J.add σ (ii (FK.frame (FK.eD 2 0)))).2.1)
theorem zx (h:FK.Ok S) (hJ:J.n<1000000) (hr:Roomy σ) {q:List FK.Pl} {nd:FK.Node} (Y:S.KX=⟨id,(k:Int),0⟩::q) (hR:S.getR id=some R) (hs:R.KV[k]?=some s) (hn:R.fl.KW[k]?=some nd) (I:S.sets+1<9223372036854775807) (O:S.KS<9223372036854775807):dQ 53 [aX f] (bX f e j d p S J σ) (oL f e j d p S J σ id k q R s nd):=by
 refine bA Tryz.func53 Z λE fr hE=>bS<|sS<|sO (cH (z:=.agg #[.int .u64 0,aw 0,aw 0,.int .u64 0]) Z λb2=>(sA Z (sB Z (sQ (sS (sM Z (da Z (bn 0 Z (aR Z Z Z Z ?_)))))))))
 refine bW Z yj gfE2 ?_;refine aa ?_;rw[show decide (0<S.KX.length)=true by rw[Y];rfl];refine sP (cD Z Z)<|sN<|aj Z<|ae<|sT<|sQ<|bq Z ?_
 refine bU Z (uO (e:=e) (j:=j) (op:=2) (n:=0) am am hJ hr) (cF de de de) ?_;rintro v m ⟨K,rfl⟩;refine cJ ?_
 generalize hω:J.add σ (ii (FK.frame (FK.eD 2 0)))=ω at K ⊢
 refine sB Z<|sQ ?_
 by_cases T:ω.2.2=0
 ·
  replace K:=K.trans (if_pos T);subst K;refine sG<|ch Z (eT Z Z)<|sN<|aj Z<|ae<|sT<|sS<|cG 0 Z Z<|aR Z Z Z Z ?_
  refine bW Z (IB h Y hR hs hn I O) gfE3 ?_;refine aa<|sM Z<|bT Z Z<|bT Z Z<|sO (cH (z:=.agg #[.int .u64 0,aw 0,aw 0,.int .u64 0]) Z λb6=>?_)
  refine sO<|bh Z (m:=4) (vs:=cd id k (s.KU+1) (S.KS+1)) Z Z Z Z er (by show 0+4<=4;omega) ?_
  refine aG b6 (cd id k (s.KU+1) (S.KS+1)).toArray Z<|sB Z<|sS<|bF (bO (vs:=cd id k (s.KU+1) (S.KS+1)) Z) (bm Z)<|sM Z ?_
  refine sO<|bh Z (m:=4) (vs:=cd id k (s.KU+1) (S.KS+1)) Z Z Z Z er (by show 0+4<=4;omega) ?_
  refine aG b2 (cd id k (s.KU+1) (S.KS+1)).toArray Z<|sA Z<|sB Z<|an ?_
  refine eP (bX f e j d p (S.hand ⟨id,(k:Int),0⟩ q R s nd) ω.1 ω.2.1) Z (bM (vs:=cd id k (s.KU+1) (S.KS+1)) Z Z Z Z (bm Z)) (bL Z) (bL Z) (by unfold oL;rw[hω];exact .inl ⟨T,rfl,rfl⟩) ?_;exact aJ
 ·
  replace K:=K.trans (if_neg T);subst K;refine sG<|ch Z (i7 Z Z)<|sN<|aM Z<|sS<|sP (bI (ps:=[]) (vs:=[]) (cs:=(cd 0 0 0 0).toArray) Z Z Z Z Z)<|sM Z ?_
  refine sO<|bh Z (m:=4) (vs:=cd 0 0 0 0) Z Z Z Z er (by show 0+4<=4;omega) ?_
  refine aG b2 (cd 0 0 0 0).toArray Z<|sA Z<|sB Z<|an<|aC ?_
  refine eP (bX f e j d p S ω.1 ω.2.1) Z (bM (vs:=cd 0 0 0 0) Z Z Z Z (bm Z)) (bL Z) (bL Z) (by unfold oL;rw[hω];exact .inr ⟨T,by unfold eY;rw[if_neg T],rfl⟩) ?_;exact aJ
theorem zw (h:FK.Ok S):dQ 52 [aX f] (bX f e j d p S J σ) λv m=>m=row 55 4 v S.KX.length (qV S S.KX)::bX f e j d p S J σ:=by
 refine bA Tryz.func52 Z λE fr I=>bS<|sS<|sB Z<|sS<|cG 0 Z Z<|aR Z Z Z Z ?_
 refine bU Z (Gd h) gfE1 ?_;rintro v m rfl;refine aD<|sB Z<|an<|ar (row 55 4 v S.KX.length (qV S S.KX)::bX f e j d p S J σ) Z Z Z ?_
 exact aJ
theorem wS (I:S.getR id=none):dQ 61 [aX f,aQ id] (bX f e j d p S J σ) λv m=>v=.tuple #[.agg (cm 0 0 cx cx).toArray,eY 6]/\m=bX f e j d p S J σ:=by
 refine bA Tryz.func61 Z λE fr T=>bS<|sS<|sO (cH (z:=.agg #[.int .u64 0,aw 0,cx,cx]) Z λK=>(sB Z (sS (sM Z (da Z (bn 0 Z (aR Z Z Z Z (sM Z ?_))))))))
 refine bW Z (yZ id I) gfE2 ?_;refine aa<|sM Z<|bT Z Z<|bT Z Z<|sO (cH (z:=.agg #[.int .u64 0,aw 0,cx,cx]) Z λO=>?_)
 refine sO<|bh Z (m:=4) (vs:=cm 0 0 cx cx) Z Z Z Z er (by show 0+4<=4;omega) ?_
 refine aG O (cm 0 0 cx cx).toArray Z<|sB Z<|sQ<|bq Z<|sP (cD Z Z)<|sN<|aM Z<|sS<|bF (bO (vs:=cm 0 0 cx cx) Z) (bm Z)<|sP (ef Z Z Z) ?_
 refine sO<|bh Z (m:=4) (vs:=cm 0 0 cx cx) Z Z Z Z er (by show 0+4<=4;omega) ?_
 refine aG K (cm 0 0 cx cx).toArray Z<|sB Z<|an<|aC<|dr (bX f e j d p S J σ) Z (bM (vs:=cm 0 0 cx cx) Z Z Z Z (bm Z)) (bL Z) ⟨rfl,rfl⟩ ?_
 exact aJ
theorem wR (h:FK.Ok S) (hR:S.getR id=some R):dQ 61 [aX f,aQ id] (bX f e j d p S J σ) λv m=>∃I K O T,v=.tuple #[.agg (cm id R.state (.slice I R.KV.length K) (.slice O R.KV.length T)).toArray,.nilIface]/\m=bG (.slice I R.KV.length K) (R.KV.map (·.state))::bG (.slice O R.KV.length T) (R.KV.map (·.KU))::bX f e j d p S J σ:=by
 have wf:∀g:FK.Sp->Int,(R.KV.map g).length=R.KV.length:=λg=>List.length_map _;refine bA Tryz.func61 Z λE fr hE=>bS<|sS<|sO (cH (z:=.agg #[.int .u64 0,aw 0,cx,cx]) Z λb4=>(sB Z (sS (sM Z (da Z (bn 0 Z (aR Z Z Z Z (sM Z ?_))))))))
 refine bU Z (Ge h hR) gfE2 ?_;rintro v m ⟨v2,v3,rfl,rfl⟩;refine cJ<|aK (HasVal.sel (v:=v2)) ?_
 rintro I K Y - - - - -
 refine aK (HasVal.sel (v:=v3)) ?_;rintro O T mt - - - - -
 rw[wf] at Y mt;subst Y;subst mt;refine sM Z<|bT Z Z<|bT Z Z<|sO (cH (z:=.agg #[.int .u64 0,aw 0,cx,cx]) Z λb6=>?_)
 refine sO<|bh Z (m:=4) (vs:=cm id R.state (.slice I R.KV.length K) (.slice O R.KV.length T)) Z Z Z Z er (by show 0+4<=4;omega) ?_
 refine aG b6 (cm id R.state (.slice I R.KV.length K) (.slice O R.KV.length T)).toArray Z<|sB Z<|sQ<|bq Z<|sP (cD Z Z)<|sN<|aj Z<|ae<|sT<|sS<|bF (bO (vs:=cm id R.state (.slice I R.KV.length K) (.slice O R.KV.length T)) Z) (bm Z) ?_
 refine sO<|bh Z (m:=4) (vs:=cm id R.state (.slice I R.KV.length K) (.slice O R.KV.length T)) Z Z Z Z er (by show 0+4<=4;omega) ?_
 refine aG b4 (cm id R.state (.slice I R.KV.length K) (.slice O R.KV.length T)).toArray Z<|sB Z<|an ?_
 refine dr (bG (.slice I R.KV.length K) (R.KV.map (·.state))::bG (.slice O R.KV.length T) (R.KV.map (·.KU))::bX f e j d p S J σ) Z (bM (vs:=cm id R.state (.slice I R.KV.length K) (.slice O R.KV.length T)) Z Z Z Z (bm Z)) (bL Z) ⟨I,K,O,T,rfl,rfl⟩ ?_;exact aJ
end
open Go.Proofs Go.RowKit Go.SL Go.Extern
theorem Jj (e:Addr) (t J:Nat) (o:Value):dQ 147 [.iface 159 (.pointer (some e)),.iface 161 (.pointer (some ⟨t,0,none⟩)),rv 161 J 150,rt 159] [blk J 161 #[.pointer (some ⟨t,0,none⟩)],blk t 159 #[o]] λv m=>v=.bool true/\m=[blk t 159 #[.pointer (some e)]]:=by
 refine bA Tryz.func147 Z λE fr Y=>aD<|sS<|sO (cR Z Z λK=>(sB Z (ag ?_)))
 refine aO (X:=Unit) (λ_=>[(0,.iface 159 (.pointer (some e))),(1,.iface 161 (.pointer (some ⟨t,0,none⟩))),(3,rt 159),(6,.pointer (some ⟨K,0,none⟩))]) (λ_=>blk K 226 #[hnd 161,.pointer (some ⟨J,0,none⟩),.int .u64 150]::blk J 161 #[.pointer (some ⟨t,0,none⟩)]::blk t 159 #[o]::fr) (λ_=>True) (λ_=>0) () trivial bV aT ?_;rintro _ _;refine ag<|sQ<|bq Z ?_
 refine sP (iT Z λw _=>Ic _ w) ?_;refine sM Z ?_;refine sP (fv Z Z (lc _) λw _=>zR w) ?_;refine sN<|aM Z<|sS<|bF (bO (vs:=[hnd 161,.pointer (some ⟨J,0,none⟩),.int .u64 150]) Z) (bm Z) ?_
 refine bF (iT (args:=[rv 161 J 150]) Z λw h=>KM J t w h) (ah Z) ?_;refine sM Z ?_;refine sO (xe (v:=λb=>rv 159 b 150) Z Z (λw=>FH e w) λI=>?_);refine sO<|uN (args:=[rv 159 t 406,rv 159 I 150]) Z (b:=t) (j:=0) (tb:=159) (cs:=#[o]) (u:=.tuple #[]) (v:=.pointer (some e)) (φ:=cq ⟨I,0,none⟩ (.pointer (some e))) Z (ah (b:=I) Z) (λw O T=>setF t I e o w O T) ?_
 exact sN<|sS<|sB Z<|an<|aC<|aH<|bP<|aH<|ar [blk t 159 #[.pointer (some e)]] rfl Z ⟨rfl,rfl⟩<|Ent.cons<|Ent.drop.trans<|Ent.drop.trans Ent.drop
theorem Ji (e:Int) (t J:Nat) (o:Value):dQ 147 [.iface 48 (aw e),.iface 165 (.pointer (some ⟨t,0,none⟩)),rv 165 J 150,rt 48] [blk J 165 #[.pointer (some ⟨t,0,none⟩)],blk t 48 #[o]] λv m=>v=.bool true/\m=[blk t 48 #[aw e]]:=by
 refine bA Tryz.func147 Z λE fr Y=>aD<|sS<|sO (cR Z Z λK=>(sB Z (ag ?_)))
 refine aO (X:=Unit) (λ_=>[(0,.iface 48 (aw e)),(1,.iface 165 (.pointer (some ⟨t,0,none⟩))),(3,rt 48),(6,.pointer (some ⟨K,0,none⟩))]) (λ_=>blk K 226 #[hnd 165,.pointer (some ⟨J,0,none⟩),.int .u64 150]::blk J 165 #[.pointer (some ⟨t,0,none⟩)]::blk t 48 #[o]::fr) (λ_=>True) (λ_=>0) () trivial bV aT ?_;rintro _ _;refine ag<|sQ<|bq Z ?_
 refine sP (iT Z λw _=>qR _ w) ?_;refine sM Z ?_;refine sP (fv Z Z (lc _) λw _=>zQ w) ?_;refine sN<|aM Z<|sS<|bF (bO (vs:=[hnd 165,.pointer (some ⟨J,0,none⟩),.int .u64 150]) Z) (bm Z) ?_
 refine bF (iT (args:=[rv 165 J 150]) Z λw h=>KL J t w h) (ah Z) ?_;refine sM Z ?_;refine sO (xe (v:=λb=>rv 48 b 130) Z Z (λw=>FG e w) λI=>?_);refine sO<|uN (args:=[rv 48 t 386,rv 48 I 130]) Z (b:=t) (j:=0) (tb:=48) (cs:=#[o]) (u:=.tuple #[]) (v:=aw e) (φ:=cq ⟨I,0,none⟩ (aw e)) Z (ah (b:=I) Z) (λw O T=>setN t I e o w O T) ?_
 exact sN<|sS<|sB Z<|an<|aC<|aH<|bP<|aH<|ar [blk t 48 #[aw e]] rfl Z ⟨rfl,rfl⟩<|Ent.cons<|Ent.drop.trans<|Ent.drop.trans Ent.drop
theorem EP (x:Int) (t I:Nat) (o:Value):dQ 147 [.iface 48 (aw x),.iface 161 (.pointer (some ⟨t,0,none⟩)),rv 161 I 150,rt 159] [blk I 161 #[.pointer (some ⟨t,0,none⟩)],blk t 159 #[o]] λv m=>v=.bool false/\m=[blk t 159 #[o]]:=by
 refine bA Tryz.func147 Z λE fr K=>aD<|sS<|sO (cR Z Z λJ=>(sB Z (ag ?_)))
 refine aO (X:=Unit) (λ_=>[(0,.iface 48 (aw x)),(1,.iface 161 (.pointer (some ⟨t,0,none⟩))),(3,rt 159),(6,.pointer (some ⟨J,0,none⟩))]) (λ_=>blk J 226 #[hnd 161,.pointer (some ⟨I,0,none⟩),.int .u64 150]::blk I 161 #[.pointer (some ⟨t,0,none⟩)]::blk t 159 #[o]::fr) (λ_=>True) (λ_=>0) () trivial bV aT ?_;rintro _ _;refine ag<|sQ<|bq Z ?_
 refine sP (iT Z λw _=>qR _ w) ?_;refine sM Z ?_;refine sP (fv Z Z (lc _) λw _=>w7 w) ?_;refine sN<|aj Z<|ae<|sT<|sQ<|bq Z<|sP (nt (z:=.nilIface) Z Z eA eA)<|sM Z<|bT Z Z<|bT Z Z<|sA Z<|sB Z<|bq Z ?_
 refine sM Z<|bg Z<|bg Z<|bg Z<|sP (aF Z Z Z)<|sN<|aj Z<|ae<|sT<|bq Z<|sN<|ag<|sS<|sP (nt (z:=.nilIface) Z Z eA eA)<|bT Z Z ?_
 refine bT Z Z<|sN<|aj Z<|sS<|sP (nt (z:=.nilIface) Z Z eA eA)<|bT Z Z<|bT Z Z<|sN<|aj Z<|sS<|sB Z<|sS<|sA Z ?_
 exact sN<|an<|aH<|aH<|bP<|aH<|ar [blk t 159 #[o]] rfl Z ⟨rfl,rfl⟩<|Ent.drop.trans Ent.drop
theorem Hs (e:Addr) (t:Nat) (o:Value):dQ 91 [.iface 159 (.pointer (some e)),.iface 161 (.pointer (some ⟨t,0,none⟩))] [blk t 159 #[o]] λv m=>v=.bool true/\m=[blk t 159 #[.pointer (some e)]]:=by
 refine bA Tryz.func91 Z λE fr J=>aa<|sS<|sB Z<|sQ<|bq Z<|sP (dV Z Z)<|sN<|aj Z<|ae<|sT<|sQ<|bq Z ?_
 refine sP (dV Z Z)<|sN<|aj Z<|ae<|sT<|bq Z ?_
 refine sO (xe (v:=λb=>rv 161 b 150) Z Z (λw=>ux t w) λI=>?_);refine sO (cH (z:=.agg #[.pointer none,.pointer none,.int .u64 0]) Z λK=>?_);refine sO<|bh Z (m:=3) (vs:=[hnd 161,.pointer (some ⟨I,0,none⟩),.int .u64 150]) Z Z Z Z er (by simp[Value.cells]) ?_
 refine sN<|sS<|bF (bO (vs:=[hnd 161,.pointer (some ⟨I,0,none⟩),.int .u64 150]) Z) (bm Z) ?_
 refine sP (iT Z λw _=>Fc I w) ?_;refine sB Z<|sQ<|bq Z ?_
 refine sP (fv Z Z (uq _) λw _=>Ft w) ?_;refine sP (dc Z Z Z)<|sM Z<|fN (bO (vs:=[hnd 161,.pointer (some ⟨I,0,none⟩),.int .u64 150]) Z) (bm Z) ?_
 refine fN (iT (args:=[rv 161 I 150]) (φ:=cq ⟨I,0,none⟩ (.pointer (some ⟨t,0,none⟩))) Z λw h=>CS I t w h) (ah Z) ?_;refine sP (aF Z Z Z)<|sN<|aj Z<|ae<|sT<|bq Z ?_
 refine sP (fv Z Z (E2 _) λw _=>FA w) ?_;refine sB Z<|sQ<|bq Z ?_
 refine sP (fv Z Z (uq _) λw _=>JB w) ?_;refine sP (dc Z Z Z)<|sM Z<|db Z ?_
 refine fN (au Z) (λw hw=>J.err w hw.is) ?_;refine ci (fv Z Z (mR _) λw _=>qm w) ?_;refine ci (cD Z Z)<|sP (aF Z Z Z)<|sN<|aj Z<|ae<|sT<|bq Z<|sM Z<|bF (bO (vs:=[hnd 161,.pointer (some ⟨I,0,none⟩),.int .u64 150]) Z) (bm Z)<|sM Z ?_
 refine bW Z (Jj e t I o) (bo bJ bJ) ?_;exact aa<|sB Z<|an<|ar [blk t 159 #[.pointer (some e)]] rfl Z ⟨rfl,rfl⟩<|Ent.cons Ent.drop
theorem Ht (e:Int) (t:Nat) (o:Value):dQ 91 [.iface 48 (aw e),.iface 165 (.pointer (some ⟨t,0,none⟩))] [blk t 48 #[o]] λv m=>v=.bool true/\m=[blk t 48 #[aw e]]:=by
 refine bA Tryz.func91 Z λE fr J=>aa<|sS<|sB Z<|sQ<|bq Z<|sP (dV Z Z)<|sN<|aj Z<|ae<|sT<|sQ<|bq Z ?_
 refine sP (dV Z Z)<|sN<|aj Z<|ae<|sT<|bq Z ?_
 refine sO (xe (v:=λb=>rv 165 b 150) Z Z (λw=>Dp t w) λI=>?_);refine sO (cH (z:=.agg #[.pointer none,.pointer none,.int .u64 0]) Z λK=>?_);refine sO<|bh Z (m:=3) (vs:=[hnd 165,.pointer (some ⟨I,0,none⟩),.int .u64 150]) Z Z Z Z er (by simp[Value.cells]) ?_
 refine sN<|sS<|bF (bO (vs:=[hnd 165,.pointer (some ⟨I,0,none⟩),.int .u64 150]) Z) (bm Z) ?_
 refine sP (iT Z λw _=>JZ I w) ?_;refine sB Z<|sQ<|bq Z ?_
 refine sP (fv Z Z (uq _) λw _=>Ku w) ?_;refine sP (dc Z Z Z)<|sM Z<|fN (bO (vs:=[hnd 165,.pointer (some ⟨I,0,none⟩),.int .u64 150]) Z) (bm Z) ?_
 refine fN (iT (args:=[rv 165 I 150]) (φ:=cq ⟨I,0,none⟩ (.pointer (some ⟨t,0,none⟩))) Z λw h=>IS I t w h) (ah Z) ?_;refine sP (aF Z Z Z)<|sN<|aj Z<|ae<|sT<|bq Z ?_
 refine sP (fv Z Z (E2 _) λw _=>KN w) ?_;refine sB Z<|sQ<|bq Z ?_
 refine sP (fv Z Z (uq _) λw _=>kindN w) ?_;refine sP (dc Z Z Z)<|sM Z<|db Z ?_
 refine fN (au Z) (λw hw=>J.err w hw.is) ?_;refine ci (fv Z Z (mR _) λw _=>zj w) ?_;refine ci (cD Z Z)<|sP (aF Z Z Z)<|sN<|aj Z<|ae<|sT<|bq Z<|sM Z<|bF (bO (vs:=[hnd 165,.pointer (some ⟨I,0,none⟩),.int .u64 150]) Z) (bm Z)<|sM Z ?_
 refine bW Z (Ji e t I o) (bo bJ bJ) ?_;exact aa<|sB Z<|an<|ar [blk t 48 #[aw e]] rfl Z ⟨rfl,rfl⟩<|Ent.cons Ent.drop
theorem Js (x:Int) (t:Nat) (o:Value):dQ 91 [.iface 48 (aw x),.iface 161 (.pointer (some ⟨t,0,none⟩))] [blk t 159 #[o]] λv m=>v=.bool false/\m=[blk t 159 #[o]]:=by
 refine bA Tryz.func91 Z λE fr J=>aa<|sS<|sB Z<|sQ<|bq Z<|sP (dV Z Z)<|sN<|aj Z<|ae<|sT<|sQ<|bq Z ?_
 refine sP (dV Z Z)<|sN<|aj Z<|ae<|sT<|bq Z ?_
 refine sO (xe (v:=λb=>rv 161 b 150) Z Z (λw=>ux t w) λI=>?_);refine sO (cH (z:=.agg #[.pointer none,.pointer none,.int .u64 0]) Z λK=>?_);refine sO<|bh Z (m:=3) (vs:=[hnd 161,.pointer (some ⟨I,0,none⟩),.int .u64 150]) Z Z Z Z er (by simp[Value.cells]) ?_
 refine sN<|sS<|bF (bO (vs:=[hnd 161,.pointer (some ⟨I,0,none⟩),.int .u64 150]) Z) (bm Z) ?_
 refine sP (iT Z λw _=>Fc I w) ?_;refine sB Z<|sQ<|bq Z ?_
 refine sP (fv Z Z (uq _) λw _=>Ft w) ?_;refine sP (dc Z Z Z)<|sM Z<|fN (bO (vs:=[hnd 161,.pointer (some ⟨I,0,none⟩),.int .u64 150]) Z) (bm Z) ?_
 refine fN (iT (args:=[rv 161 I 150]) (φ:=cq ⟨I,0,none⟩ (.pointer (some ⟨t,0,none⟩))) Z λw h=>CS I t w h) (ah Z) ?_;refine sP (aF Z Z Z)<|sN<|aj Z<|ae<|sT<|bq Z ?_
 refine sP (fv Z Z (E2 _) λw _=>FA w) ?_;refine sB Z<|sQ<|bq Z ?_
 refine sP (fv Z Z (uq _) λw _=>JB w) ?_;refine sP (dc Z Z Z)<|sM Z<|db Z ?_
 refine fN (au Z) (λw hw=>J.err w hw.is) ?_;refine ci (fv Z Z (mR _) λw _=>qm w) ?_;refine ci (cD Z Z)<|sP (aF Z Z Z)<|sN<|aj Z<|ae<|sT<|bq Z<|sM Z<|bF (bO (vs:=[hnd 161,.pointer (some ⟨I,0,none⟩),.int .u64 150]) Z) (bm Z)<|sM Z ?_
 refine bW Z (EP x t I o) (bo bJ bJ) ?_;exact aa<|sB Z<|an<|ar [blk t 159 #[o]] rfl Z ⟨rfl,rfl⟩<|Ent.cons Ent.drop
theorem yu (b:Nat) (e a:Value):dx G 353 [.pointer (some ⟨b,0,none⟩)] [blk b 164 #[e,a]] λv m=>v=.iface 48 e/\m=[blk b 164 #[e,a]]:=by
 refine bA Tryz.func353 Z λE fr I=>?_;exact aa<|sS<|sB Z<|sS<|cG 0 Z Z<|aR Z Z Z Z<|sP (ef Z Z Z)<|sB Z<|an<|ar [_] rfl Z ⟨rfl,rfl⟩ aT
theorem zi (e:Int):dQ 149 [.iface 48 (aw e),.iface 48 (aw e),.bool true] [] λv m=>v=.bool true/\m=[]:=by
 refine bA Tryz.func149 Z λE fr I=>aZ<|sS<|sB Z<|ag ?_
 refine aO (X:=Unit) (λ_=>[(0,.iface 48 (aw e)),(1,.iface 48 (aw e)),(2,.bool true)]) (λ_=>fr) (λ_=>True) (λ_=>0) () trivial bV aT ?_;rintro _ _;exact ag<|sQ<|bq Z<|sM Z<|db Z<|db Z<|ci (sr (r:=true) Z Z Z Z Z Z cY)<|sP (aF Z Z Z)<|sN<|aM Z<|sS<|sB Z<|an<|aC<|aH<|bP<|aH<|ar [] rfl Z ⟨rfl,rfl⟩ aT
theorem zh (b:Nat) (e:Int) (a:Value):dQ 149 [.iface 159 (.pointer (some ⟨b,0,none⟩)),.iface 48 (aw e),.bool true] [blk b 164 #[aw e,a]] λv m=>v=.bool true/\m=[blk b 164 #[aw e,a]]:=by
 refine bA Tryz.func149 Z λE fr J=>aa<|sS<|sB Z<|ag ?_
 refine aO (X:=Bool) (λx=>[(0,bif x then .iface 48 (aw e) else .iface 159 (.pointer (some ⟨b,0,none⟩))),(1,.iface 48 (aw e)),(2,.bool true)]) (λ_=>blk b 164 #[aw e,a]::fr) (λ_=>True) (λx=>bif x then 0 else 1) false trivial bV aT ?_;rintro x _;refine ag<|sQ<|sQ ?_
 by_cases I:x=true
 ·
  subst I;exact sG<|sM Z<|sM Z<|db Z<|db Z<|ci (sr (r:=true) Z Z Z Z Z Z cY)<|sP (aF Z Z Z)<|sN<|aM Z<|sS<|sB Z<|an<|aC<|aH<|bP<|aH<|ar [_] rfl Z ⟨rfl,rfl⟩ aT
 ·
  obtain rfl:x=false:=by simpa using I
  refine sG<|sM Z<|sM Z<|db Z<|db Z<|ci (Et Z Z Z Z)<|sP (aF Z Z Z)<|sN<|aj Z<|ae<|sT<|sQ<|bq Z<|sP (nt (z:=.nilIface) Z Z eA eA)<|sM Z<|bT Z Z<|bT Z Z ?_
  refine sA Z<|sB Z<|bq Z<|sM Z<|bg Z<|bg Z<|bg Z<|sP (aF Z Z Z)<|sN<|aj Z<|ae<|sT<|bq Z ?_
  refine sN<|ag<|sS<|sP (KI Z Z eA)<|bT Z Z<|bT Z Z<|sN<|aM Z<|sS<|sB Z<|bq Z ?_
  refine sO<|ku Z Z Z (IN _) Z J (yu b (aw e) a) aT ?_
  rintro v m ⟨rfl,rfl⟩;refine aa<|sB Z<|bq Z<|sP (dV Z Z)<|sN<|aj Z<|ae<|al<|al ?_
  exact aE true trivial cY bV aT
theorem xO (e:Int):dQ 92 [.iface 48 (aw e),.iface 48 (aw e)] [] λv m=>v=.bool true/\m=[]:=by
 refine bA Tryz.func92 Z λE fr I=>aZ<|sS<|sB Z<|sQ<|bq Z<|sP (dV Z Z)<|sM Z<|db Z<|ci (dV Z Z)<|sP (aF Z Z Z)<|sN<|aj Z<|ae<|sT ?_
 refine bq Z ?_;refine sP (iT Z λw _=>qR _ w) ?_;refine sP (fv Z Z (qf _) λw _=>qu w) ?_;refine sB Z<|bq Z<|sM Z<|sM Z ?_
 refine bW Z (zi e) aT ?_;exact aZ<|sB Z<|an<|ar [] rfl Z ⟨rfl,rfl⟩ aT
theorem GG (b:Nat) (e:Int) (a:Value):dQ 92 [.iface 159 (.pointer (some ⟨b,0,none⟩)),.iface 48 (aw e)] [blk b 164 #[aw e,a]] λv m=>v=.bool true/\m=[blk b 164 #[aw e,a]]:=by
 refine bA Tryz.func92 Z λE fr I=>aa<|sS<|sB Z<|sQ<|bq Z<|sP (dV Z Z)<|sM Z<|db Z<|ci (dV Z Z)<|sP (aF Z Z Z)<|sN<|aj Z<|ae<|sT ?_
 refine bq Z ?_;refine sP (iT Z λw _=>qR _ w) ?_;refine sP (fv Z Z (qf _) λw _=>qu w) ?_;refine sB Z<|bq Z<|sM Z<|sM Z ?_
 refine bW Z (zh b e a) aT ?_;exact aa<|sB Z<|an<|ar [_] rfl Z ⟨rfl,rfl⟩ aT
theorem rU:dQ 48 [.nilIface] [] λv m=>v=.tuple #[aw 0,aw (-1)]/\m=[]:=by
 refine bA Tryz.func48 Z λE fr I=>aZ<|sS<|sA Z<|sB Z<|sS<|sO (cH (z:=.pointer none) Z λJ=>(sN (sS (sO (cH (z:=aw 0) Z λK=>(sN (sQ (ag (sQ ?_)))))))))
 exact sG<|ch Z (kC Z Z)<|sB Z<|aM Z<|sS<|sA Z<|sB Z<|an<|aH<|aC<|ea [] rfl Z Z ⟨rfl,rfl⟩<|Ent.drop.trans Ent.drop
theorem nZ (e:Int):dQ 48 [.iface 48 (aw e)] [] λv m=>v=.tuple #[aw e,aw (-1)]/\m=[]:=by
 refine bA Tryz.func48 Z λE fr K=>aZ<|sS<|sA Z<|sB Z<|sS<|sO (cH (z:=.pointer none) Z λI=>(sN (sS (sO (cH (z:=aw 0) Z λJ=>(sN (sQ (ag (sQ ?_)))))))))
 refine sG<|ch Z (dV Z Z)<|sB Z<|aj Z<|bq Z<|sP (ef Z Z Z) ?_
 refine bW Z (Js e I (.pointer none)) gfE1 ?_;refine aa<|sM Z<|bg Z<|bg Z<|bg Z<|bg Z<|bg Z<|bg Z<|bg Z<|sP (aF Z Z Z)<|sB Z<|aj Z<|bq Z<|sP (ef Z Z Z) ?_
 refine bW Z (Ht e J (aw 0)) gfE1 ?_;refine aa<|sM Z<|db Z<|fN (au Z) (ah Z)<|ci (ef Z Z Z) ?_
 refine jX Z Z Z<|ed Z (xO e) aT ?_
 rintro v m ⟨rfl,rfl⟩;exact aZ<|sP (aF Z Z Z)<|sB Z<|aM Z<|sS<|aR Z Z Z Z<|sA Z<|sB Z<|an<|aH<|aC<|ea [] rfl Z Z ⟨rfl,rfl⟩<|Ent.drop.trans Ent.drop
theorem Ao (b:Nat) (e a:Int):dQ 48 [.iface 159 (.pointer (some ⟨b,0,none⟩))] [blk b 164 #[aw e,aw a]] λv m=>v=.tuple #[aw e,aw a]/\m=[blk b 164 #[aw e,aw a]]:=by
 refine bA Tryz.func48 Z λE fr J=>aa<|sS<|sA Z<|sB Z<|sS<|sO (cH (z:=.pointer none) Z λI=>(sN (sS (sO (cH (z:=aw 0) Z λK=>(sN (sQ (ag (sQ ?_)))))))))
 refine sG<|ch Z (dV Z Z)<|sB Z<|aj Z<|bq Z<|sP (ef Z Z Z) ?_
 refine bW Z (Hs ⟨b,0,none⟩ I (.pointer none)) gfE1 ?_;refine aa<|sM Z<|db Z<|fN (au Z) (ah Z)<|ci (cI Z)<|ci (bl 0 Z)<|fN (au Z) (ah Z)<|ci (ef Z Z Z) ?_
 refine jX Z Z Z<|ed Z (GG b e (aw a)) gfE2 ?_
 rintro v m ⟨rfl,rfl⟩;refine aa<|sP (aF Z Z Z)<|sB Z<|aM Z<|sQ<|sZ Z<|jh 0 Z (au Z) (ah Z)<|dt 0 Z Z Z<|bQ Z (au Z) (ah Z)<|bQ Z (au Z) (ah Z)<|dt 1 Z Z Z<|bQ Z (au Z) (ah Z)<|bC Z (aU Z)<|bC Z (aU Z)<|dE<|sT ?_
 exact an<|aH<|aC<|ea [_] rfl Z Z ⟨rfl,rfl⟩<|Ent.cons<|Ent.drop.trans Ent.drop
end Go.Y
