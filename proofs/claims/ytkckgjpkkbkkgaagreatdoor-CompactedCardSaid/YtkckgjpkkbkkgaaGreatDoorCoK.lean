/- journal.Open, over any files and any disk. -/
import Derived.Test.YtkckgjpkkbkkgaaGreatDoorCoJ
import Derived.Test.YtkckgjpkkbkkgaaGreatDoorCoH
set_option maxHeartbeats 8000000
set_option maxRecDepth 20000
namespace Go.Y
open Go.Proofs Go.RowKit Go.SL
variable {G:Env->Prop}
theorem zF {s:ByteArray} {k:Int} (E:s.size<=18) (h:Lib.atoi s.data.toList=some k):dZ G 96 [bY s] [] λv m=>v=.tuple #[.int .i64 k,.nilIface]/\m=[]:=
 (ge (φ:=λ_=>True) λ_ w _ _ _=>(pt s k E h w).mono λ_ _ ⟨I,t,K⟩=>⟨I,by rw[K];exact Lib.bytesWorld_below _ _ _⟩).does
theorem Reads.none (p:HP):Reads p none []:=⟨λh=>absurd rfl h,λ_ _ _ _ _ h=>by cases h⟩
theorem Gw {d:Nat} {σ:FK.Dsk} {name:ByteArray} (hd:σ.down=false):dZ G 261 [aX d,bY name] [ar d σ] λv m=>∃E A c pb,v=.tuple #[.slice A (FK.kA σ.now name).length c,dO E]/\(E=0\/E=9)/\Reads pb A (FK.kA σ.now name)/\(FK.kA σ.now name).length<=c/\m=[pb,ar d σ]:=by
 unfold FK.kA;cases h:FK.dw σ.now name with
 | none=>
  refine(n0 hd h).mono ?_;rintro v m ⟨rfl,rfl⟩;exact⟨[HP.pure True,ar d σ],⟨9,none,0,HP.pure True,rfl,.inr Z,Reads.none _,cm _,rfl⟩,Ent.pure trivial⟩
 | some s=>
  refine(uR hd h).mono ?_;rintro v m ⟨b,c,I,hc,rfl,rfl⟩;have e:s.data.toList.length=s.size:=by rw[Array.length_toList];rfl
  refine⟨_,⟨0,some ⟨b,0,none⟩,c,rC b c s I,?_,.inl Z,?_,?_,rfl⟩,aN⟩
  · show _=Value.tuple #[.slice (some ⟨b,0,none⟩) s.data.toList.length c,.nilIface]
    rw[e]
  · exact uQ
  · show s.data.toList.length<=c
    rw[e];exact hc
theorem pO (I K:Nat) {x:Int} (O:x≠0) (u:Nat):DoesD Tryz.prog G 95 [aX K,aX I].toArray .returning .returning [blk K 71 #[dO x],blk I 102 #[aX u]] λm=>m=[blk K 71 #[dO x],blk I 102 #[.pointer none]]:=by
 have T:dO x=.iface 33 (.int .i64 x):=if_neg O;rw[T];refine DoesD.plain Tryz.func95 Z Z λE fr Y=>?_;refine az<|sS<|aE Z Z Z Z<|sP (fj Z Z)<|sN<|aO Z<|sG ?_
 refine bK Z Z Z Z ii ?_;exact aD I #[.pointer none] rfl<|aq<|bm [_,_] rfl ⟨rfl,rfl⟩<|aY bM .head
abbrev It (E f e:Nat) (p:EA) (S:FK.En):List HP:=[blk E 67 #[aX f],i7 f e (.pointer none),aG e p S]
abbrev xq (E:Nat):Value:=.func (.func 55) #[] #[aX E]
def Fi (d I f:Nat) (σ:FK.Dsk) (n:Nat) (t:Bool) (U:FK.En) (v:Value) (m:List HP):Prop:=
 ∃E x u mm,FK.vX σ n E x/\v=.tuple #[u,dO x]/\m=ar d E::mm/\(x≠0->u=.pointer none/\mm=[])/\(x=0->∃j e p,u=aX j/\mm=aM j d ⟨n,t,0⟩::It I f e p U)
structure Found (o:Option (List UInt8)) (fb:List UInt8) (A:Option Addr):Prop where
 none:o=none->A=none
 some:∀x,o=some x->fb=x
theorem FG {a b:ByteArray} (h:a=b):(!(a.toList==b.toList))=false:=by subst h;simp
theorem wm {a b:ByteArray} (h:a≠b):(!(a.toList==b.toList))=true:=by
 cases hb:(a.toList==b.toList) with
 | false=>rfl
 | true=>exact absurd (by have E:=eq_of_beq hb;rw[ByteArray.toList_eq,ByteArray.toList_eq] at E;exact ByteArray.ext (Array.toList_inj.1 E)) h
theorem wx {x:Int} (h:x≠0):dO x=.iface 33 (.int .i64 x):=if_neg h
theorem yZ {Y f e d:Nat} {p:EA} {S S0 U:FK.En} {σ:FK.Dsk} {n:Nat} {found:Option (List UInt8)} {l:List (List UInt8)} {t:Bool}
 (Mm:FK.vol σ.now<=100000000000000) (Mn:FK.vol σ.dur+FK.fR σ.pend<=100000000000000) (MH:σ.pend.length<=1000000) (Mb:σ.now.length<=1000000) (Mo:∀s∈σ.now.map (·.1),FK.NameOk s)
 (Mp:∀ns:List ByteArray,ns.Perm (σ.now.map (·.1))->FK.scan σ.now (FK.gN ns)=⟨n,found⟩) (Mc:FK.Parse (FK.kA σ.now (FK.bw n)) l t) (hR:FK.Reds S0 l U)
 (h0:found=none->S0=S) (hx:∀x,found=some x->x≠[])
 (hB:∀x,found=some x->∀pb A c,Reads pb A x->x.length<=c->eh 55 [.slice A x.length c,aX Y] (It Y f e p S++[pb]) λ_v m=>∃e' p',m=It Y f e' p' S0++[pb]) :
 eh 54 [mK d,xq Y,rB f] (ar d σ::It Y f e p S) (Fi d Y f σ n t U):=by
 refine ox Tryz.func54 Z Z λE fr hE=>?_;refine cc<|sS<|sO (cX (z:=.pointer none) Z λb6=>(sO (cX (z:=.nilIface) Z λO=>(sN (sS (sM Z (sP (bT (ps:=[(0,.tmp 25)]) (vs:=[mK d]) (cs:=nY d FK.J0) Z Z Z Z Z) (sO (cL Z Z λI=>(aD I (nY d FK.J0) Z ?_))))))))))
 refine bK Z Z Z Z ii ?_;refine aD b6 #[aX I] rfl<|sN<|sS ?_
 refine sP (ew Z Z) ?_;refine sO<|wi Z<|sN<|sQ<|bg Z ?_
 refine sO<|fm Z Z Z (rE ⟨d,0,none⟩) Z hE (jy ai ai) gfE3 ?_
 rintro v m ⟨rfl,rfl⟩;refine ae<|bK Z Z Z (lK _) (by show 0<1;omega) ?_
 refine aD O #[dO σ.sync.2] rfl ?_;refine al (l':=blk O 71 #[dO σ.sync.2]::blk b6 102 #[aX I]::aM I d FK.J0::ar d σ.sync.1::blk Y 67 #[aX f]::i7 f e (.pointer none)::aG e p S::fr) ap ?_;refine sN<|sQ ?_
 by_cases HS:σ.sync.2=0
 ·
  rw[HS,show dO 0=.nilIface from rfl];obtain⟨LF,d8,L3,Mq⟩:=FK.IN HS;have Mf:FK.vol σ.sync.1.dur<=100000000000000:=by rw[Mq];exact Nat.le_trans (FK.rS _ _) Mn
  obtain⟨σ1,t6⟩:∃x,x=σ.sync.1:=⟨_,rfl⟩;rw[<-t6] at LF d8 L3 Mf ⊢;refine sG<|aE Z Z Z Z<|sP (cS Z Z)<|sN<|ak Z<|ah<|sT<|bg Z ?_
  refine sO<|fm Z Z Z (FJ ⟨d,0,none⟩) Z hE (AZ LF (by rw[d8];exact Mb)) gfE3 ?_
  rintro v m ⟨ns,A9,c9,t7,rfl,rfl⟩;refine az ?_;rw[d8] at t7;have f7:=Mp ns t7;obtain⟨names,T⟩:∃x,x=FK.gN ns:=⟨_,rfl⟩;have LT:ns.length=names.length:=by rw[T,FK.DC]
  have MG:names.length<=1000000:=by rw[<-LT,t7.length_eq,List.length_map];exact Mb
  rw[<-T] at f7 ⊢;rw[LT];have LU:∀s∈names,s∈σ.now.map (·.1):=λs hs=>t7.mem_iff.1 (FK.sortB_mem.1 (T▸hs));have LV:∀s∈names,FK.NameOk s:=λs hs=>Mo s (LU s hs);refine aI .head ?_;rintro A8 c8 MB f1 f2 - - -
  obtain⟨rfl,rfl⟩:A9=A8/\c9=c8:=by injection MB with a1 _ a3;exact⟨a1,a3⟩
  have Mg:0<names.length->∃g,A9=some ⟨g,0,none⟩:=λh=>by
   cases A9 with
   | none=>have:=(f1 rfl).1;omega
   | some ad=>obtain⟨g,rfl⟩:=f2 ad rfl;exact⟨g,rfl⟩
  refine sM Z<|bG Z Z<|bG Z Z<|sA Z ?_
  refine bK Z Z Z Z ii ?_;refine aD O #[.nilIface] rfl ?_;refine al (l':=blk O 71 #[.nilIface]::blk b6 102 #[aX I]::aM I d FK.J0::ar d σ1::row 9 1 (.slice A9 names.length c9) names.length (names.map bY)::blk Y 67 #[aX f]::i7 f e (.pointer none)::aG e p S::fr) (by show Ent (blk O 71 #[.nilIface]::row 9 1 (.slice A9 names.length c9) names.length (names.map bY)::ar d σ1::blk b6 102 #[aX I]::aM I d FK.J0::blk Y 67 #[aX f]::i7 f e (.pointer none)::aG e p S::fr) _;exact ap) ?_;refine sN<|sQ<|sS<|aE Z Z Z Z<|sP (cS Z Z)<|sN<|ak Z<|ah<|sT<|sS<|sB Z<|sQ<|sS ?_
  refine cG Z (bh Z Z)<|sM Z<|sN<|aj ?_
  refine aL (X:=Nat×List UInt8×Option Addr×Nat×HP) (λx=>[(42,.int .i64 x.1),(41,.int .i64 names.length),(40,.slice A9 names.length c9),(9,.slice x.2.2.1 x.2.1.length x.2.2.2.1),(8,.slice A9 names.length c9),(7,aX O),(6,aX b6),(2,rB f),(1,xq Y),(0,mK d)]) (λx=>blk O 71 #[.nilIface]::blk b6 102 #[aX I]::aM I d ⟨(FK.scan σ.now (names.take x.1)).n,false,0⟩::ar d σ1::row 9 1 (.slice A9 names.length c9) names.length (names.map bY)::blk Y 67 #[aX f]::i7 f e (.pointer none)::aG e p S::x.2.2.2.2::fr) (λx=>x.1<=names.length/\Found (FK.scan σ.now (names.take x.1)).found x.2.1 x.2.2.1/\Reads x.2.2.2.2 x.2.2.1 x.2.1/\x.2.1.length<=x.2.2.2.1) (λx=>names.length-x.1) (0,[],none,0,HP.pure True) ⟨Nat.zero_le _,⟨λ_=>rfl,λx h=>by cases h⟩,Reads.none _,cm _⟩ cf (by show Ent _ (blk O 71 #[.nilIface]::blk b6 102 #[aX I]::aM I d FK.J0::ar d σ1::row 9 1 (.slice A9 names.length c9) names.length (names.map bY)::blk Y 67 #[aX f]::i7 f e (.pointer none)::aG e p S::HP.pure True::fr);exact Ent.trans (Ent.pure (p:=True) trivial) ap) ?_;rintro⟨k,fb,A2,c2,pb⟩ ⟨hk,mt,t8,Fd⟩;simp only at hk mt t8 Fd;refine al (l':=blk O 71 #[.nilIface]::blk b6 102 #[aX I]::aM I d ⟨(FK.scan σ.now (names.take k)).n,false,0⟩::ar d σ1::row 9 1 (.slice A9 names.length c9) names.length (names.map bY)::blk Y 67 #[aX f]::i7 f e (.pointer none)::aG e p S::pb::fr) aN ?_;refine sS<|sP (bB Z Z Z)<|sN<|sQ ?_
  refine aA Z (λLY=>?_) λLY=>?_
  ·
   have LD:k<names.length:=by have:(k:Int)<(names.length:Int):=LY;omega
   obtain⟨g9,rfl⟩:=Mg ai;obtain⟨s,hs⟩:∃s,names[k]?=some s:=⟨names[k],by simp[LD]⟩;have Mh:=du hs;have LE:=LV s Mh;obtain⟨fc,f9⟩:=FK.vi (LU s Mh);have K:=FK.DH σ.now names hs;refine ah<|sT<|sQ<|aj<|sS<|sP (bp (z:=1) Z Z Z Z LD) ?_
   refine cE (aF (v:=bY s) Z) (fg lp (by show(names.map bY)[0+k*1]?=_;rw[Nat.zero_add,Nat.mul_one,List.getElem?_map,hs];rfl)) ?_;refine sB Z<|sQ ?_
   by_cases HA:Lib.atoi (FK.kz s).data.toList=none
   ·
    refine sG<|sM Z ?_
    refine bV Z (uD s ⟨#[98,97,115,101]⟩) aN ?_;refine aB ?_;refine ch Z (xb LE.size HA) aN ?_;rintro v m ⟨⟨ML,MM,rfl⟩,rfl⟩;refine aB<|sM Z<|bG Z Z<|bG Z Z<|sA Z<|sB Z<|sQ<|bg Z<|sP (fj Z Z)<|sM Z<|bQ Z<|bQ Z<|bQ Z<|bQ Z<|bQ Z<|bQ Z ?_
    refine sP (aS Z Z Z)<|sN<|aO Z<|aK<|av<|ao<|sT<|sG<|sP (aT Z Z (iI ai))<|sM Z<|aq ?_
    refine aC (k+1,fb,A2,c2,pb) ⟨ai,by rw[K,FK.pK HA];exact mt,t8,Fd⟩ (by show names.length-(k+1)<names.length-k;omega) cf ?_;rw[K,FK.pK HA];exact aN
   ·
    obtain⟨q,hq⟩:∃q,Lib.atoi (FK.kz s).data.toList=some q:=by
     cases h:Lib.atoi (FK.kz s).data.toList with
     | none=>exact absurd h HA
     | some q=>exact⟨q,rfl⟩
    refine sG<|sM Z ?_
    refine bV Z (uD s ⟨#[98,97,115,101]⟩) aN ?_;refine aB ?_;refine bV Z (zF LE.size hq) aN ?_;refine aB<|sM Z<|bG Z Z<|bG Z Z<|sA Z<|sB Z<|sQ<|bg Z<|sP (cS Z Z)<|sM Z<|iC Z<|mJ (aF Z) (ag Z)<|eJ (cv Z)<|eJ (bL 1 Z)<|mJ (aF Z) (ag Z)<|eJ (rM Z Z Z) ?_
    refine sP (aS Z Z Z)<|sN ?_
    refine aA Z (λd9=>?_) λd9=>?_
    ·
     refine aK<|av<|ao<|sT<|sG<|sP (aT Z Z (iI ai))<|sM Z<|aq ?_
     refine aC (k+1,fb,A2,c2,pb) ⟨ai,by rw[K,FK.pJ hq d9];exact mt,t8,Fd⟩ (by show names.length-(k+1)<names.length-k;omega) cf ?_;rw[K,FK.pJ hq d9];exact aN
    ·
     refine ah<|sT<|bg Z<|sM Z ?_
     refine sO<|fm Z Z Z (E5 ⟨d,0,none⟩) Z hE (uR LF (by rw[d8];exact f9)) gfE3 ?_
     rintro v m ⟨LH,L7,fz,LC,rfl,rfl⟩;refine az ?_;have L9:fc.data.toList.length=fc.size:=by rw[Array.length_toList];rfl
     rw[<-L9] at LC ⊢;have MN:=FK.oD f9;have LW:Reads (rC LH L7 fc fz) (some ⟨LH,0,none⟩) fc.data.toList:=uQ;refine sM Z<|bG Z Z<|bG Z Z<|sA Z<|sB Z<|sQ<|bg Z<|sP (cS Z Z)<|sN<|ak Z<|ah<|sT<|sQ ?_
     by_cases HX:FK.next fc.data.toList=none
     ·
      refine sG<|sM Z ?_
      refine ch Z (nF LW LC (by rw[L9];omega)) aN ?_;rintro v m ⟨hv,rfl⟩;refine ae ?_;obtain rfl:v=.tuple #[.slice none 0 0,.slice none 0 0,.bool false]:=by
       rcases hv with⟨_,h⟩|⟨x',r',A3,c3,A4,c4,h,_⟩
       · exact h
       · rw[HX] at h;cases h
      refine sM Z<|bG Z Z<|bG Z Z<|bG Z Z<|sA Z<|sA Z<|sB Z<|bg Z<|sM Z<|bQ Z<|bQ Z<|bQ Z<|sP (aS Z Z Z)<|sN<|ak Z ?_
      refine ah<|am<|sT<|sG<|sP (aT Z Z (iI ai))<|sM Z<|aq ?_
      refine aC (k+1,fb,A2,c2,pb) ⟨ai,by rw[K,FK.tt hq d9 f9 HX];exact mt,t8,Fd⟩ (by show names.length-(k+1)<names.length-k;omega) cf ?_;rw[K,FK.tt hq d9 f9 HX];exact ap
     ·
      obtain⟨x,r,d6⟩:∃x r,FK.next fc.data.toList=some (x,r):=by
       cases h:FK.next fc.data.toList with
       | none=>exact absurd h HX
       | some y=>exact⟨y.1,y.2,rfl⟩
      refine sG<|sM Z ?_
      refine ch Z (nF LW LC (by rw[L9];omega)) aN ?_;rintro v m ⟨hv,rfl⟩;refine ae ?_;obtain⟨A3,c3,A4,c4,rfl,L4,L5⟩:∃A3 c3 A4 c4,v=.tuple #[.slice A3 x.length c3,.slice A4 r.length c4,.bool true]/\Reads (rC LH L7 fc fz) A3 x/\x.length<=c3:=by
       rcases hv with⟨h,_⟩|⟨x',r',A3,c3,A4,c4,h,hv,h1,h2,h3,h4⟩
       · rw[d6] at h;cases h
       · rw[d6] at h
         injection h with h;injection h with e1 e2;subst e1;subst e2;exact⟨A3,c3,A4,c4,hv,h1,h2⟩
      refine sM Z<|bG Z Z<|bG Z Z<|bG Z Z<|sA Z<|sA Z<|sB Z<|bg Z<|sM Z<|iC Z<|eJ (bh Z Z)<|eJ (bC Z Z Z)<|sP (aS Z Z Z)<|sN ?_
      refine aA Z (λLZ=>?_) λLZ=>?_
      ·
       obtain rfl:r=[]:=by have:(r.length:Int)=0:=LZ;exact List.eq_nil_of_length_eq_zero ai
       have MO:=LE.num q hq;obtain⟨q,rfl⟩:∃q':Nat,q=(q':Int):=⟨q.toNat,ai⟩;refine sG<|aE Z Z Z Z<|sM Z<|dS 1 Z Z ?_
       refine bK Z Z Z Z ii ?_;refine aD I (nY d ⟨q,false,0⟩) Z<|sA Z<|aq<|am<|sT<|sG<|sP (aT Z Z (iI ai))<|sM Z<|aq ?_
       refine aC (k+1,x,A3,c3,rC LH L7 fc fz) ⟨ai,by rw[K,FK.sa hq d9 f9 d6];exact⟨λh=>(by cases h),λy h=>by injection h⟩,L4,L5⟩ (by show names.length-(k+1)<names.length-k;omega) cf ?_;rw[K,FK.sa hq d9 f9 d6,Int.toNat_natCast];exact ap
      ·
       have Mi:r≠[]:=λh=>LZ (by rw[h];rfl);refine ah<|am<|sT<|sG<|sP (aT Z Z (iI ai))<|sM Z<|aq ?_
       refine aC (k+1,fb,A2,c2,pb) ⟨ai,by rw[K,FK.tq hq d9 f9 d6 Mi];exact mt,t8,Fd⟩ (by show names.length-(k+1)<names.length-k;omega) cf ?_;rw[K,FK.tq hq d9 f9 d6 Mi];exact ap
  ·
   obtain rfl:k=names.length:=by have:¬(k:Int)<(names.length:Int):=LY;omega
   rw[List.take_length,f7] at mt;rw[List.take_length,f7];have In:n<1000000:=by have:=FK.IW (fs:=σ.now) LV;rw[f7] at this;exact this
   obtain⟨lb,L6⟩:∃x,x=FK.kA σ.now (FK.bw n):=⟨_,rfl⟩;have Mj:lb.length<=100000000000000:=by
    rw[L6];unfold FK.kA;cases h:FK.dw σ.now (FK.bw n) with
    | none=>exact Nat.zero_le _
    | some s=>have h1:=FK.oD h;show s.data.toList.length<=_;rw[Array.length_toList];show s.size<=_;omega
   refine aK<|av<|au<|ao<|sT<|sQ<|sZ Z<|eI Z Z<|bZ Z (aF Z) (ag Z)<|dv 1 Z Z Z<|bZ Z (aF Z) (ag Z)<|dr 6 Z (mc Z)<|cJ Z Z ?_
   refine cK 5 Z<|cF Z (gK (kind:=⟨#[108,111,103]⟩) (n:=n) In di) aN ?_
   rintro v m ⟨rfl,rfl⟩;refine aB<|dK [false,true] (aa (ag Z) ab) ?_
   refine cK 8 Z<|fm Z Z Z (E5 ⟨d,0,none⟩) Z hE (Gw (name:=FK.bw n) LF) gfE3 ?_
   rintro v m ⟨e9,A,c,pl,rfl,MC,LS,Md,rfl⟩;refine az ?_;rw[d8,<-L6] at LS Md ⊢;refine dK [true] (aa (ag Z) ab)<|dr 9 Z (bn Z)<|bF Z (bA Z Z)<|bF Z (bA Z Z)<|bF Z (aQ Z) ?_
   refine cK 13 Z<|cp Z Z Z Z (lK _) (by show 0<1;omega) ?_
   refine aD O #[dO e9] rfl ?_;refine al (l':=blk O 71 #[dO e9]::blk b6 102 #[aX I]::aM I d ⟨n,false,0⟩::ar d σ1::row 9 1 (.slice A9 names.length c9) names.length (names.map bY)::blk Y 67 #[aX f]::i7 f e (.pointer none)::aG e p S::pb::pl::fr) ap ?_;refine dK [false] ab<|dE<|sT ?_
   refine sQ<|cT (X:=Nat) (λ_=>[(19,.slice A lb.length c),(9,.slice A2 fb.length c2),(8,.slice A9 names.length c9),(7,aX O),(6,aX b6),(2,rB f),(1,xq Y),(0,mK d)]) (λ_=>blk O 71 #[dO e9]::blk b6 102 #[aX I]::aM I d ⟨n,false,0⟩::ar d σ1::row 9 1 (.slice A9 names.length c9) names.length (names.map bY)::blk Y 67 #[aX f]::i7 f e (.pointer none)::aG e p S::pb::pl::fr) (λ_=>True) ?_ ?_
   ·
    refine sQ ?_
    by_cases HE:e9=0
    ·
     subst HE;exact sG<|aE Z Z Z Z<|sP (cS Z Z)<|sM Z<|bQ Z<|bQ Z<|bQ Z<|bQ Z<|sP (aS Z Z Z)<|sN<|ak Z<|ah<|bd 0 trivial cf aN
    ·
     obtain rfl:e9=9:=MC.resolve_left HE;refine sG<|aE Z Z Z Z<|sP (fj Z Z)<|sM Z<|mJ (aF Z) (ag Z)<|eJ (ed Z Z Z) ?_
     refine iK Z Z Z<|cF Z (oW 9) aN ?_
     rintro v m ⟨rfl,rfl⟩;exact aB<|eJ (dp Z Z)<|sP (aS Z Z Z)<|sN<|ak Z<|ah<|bd 0 trivial cf aN
   rintro - -
   refine sQ<|cT (X:=Nat×EA) (λ_=>[(19,.slice A lb.length c),(8,.slice A9 names.length c9),(7,aX O),(6,aX b6),(2,rB f),(0,mK d)]) (λy=>blk O 71 #[dO e9]::blk b6 102 #[aX I]::aM I d ⟨n,false,0⟩::ar d σ1::row 9 1 (.slice A9 names.length c9) names.length (names.map bY)::blk Y 67 #[aX f]::i7 f y.1 (.pointer none)::aG y.1 y.2 S0::pl::fr) (λ_=>True) ?_ ?_
   ·
    refine sQ ?_
    by_cases HF:found=none
    ·
     obtain rfl:=mt.none HF;obtain rfl:=h0 HF;exact sG<|cG Z (oo Z Z Z)<|sN<|ak Z<|ah<|bd (e,p) trivial cf ap
    ·
     obtain⟨x,rfl⟩:∃x,found=some x:=by
      cases found with
      | none=>exact absurd rfl HF
      | some x=>exact⟨x,rfl⟩
     obtain rfl:=mt.some _ rfl;obtain⟨gb,MI,rfl⟩:=t8.form (hx _ rfl);refine sG<|cG Z (oo Z Z Z)<|sN<|aO Z<|sG<|sM Z<|sM Z ?_
     refine sO<|ct Z Z Z Z hE (hB _ Z pb _ c2 t8 Fd) (by show Ent _ (blk Y 67 #[aX f]::i7 f e (.pointer none)::aG e p S::pb::blk O 71 #[dO e9]::blk b6 102 #[aX I]::aM I d ⟨n,false,0⟩::ar d σ1::row 9 1 (.slice A9 names.length c9) names.length (names.map bY)::pl::fr);exact ap) ?_
     rintro v m ⟨e2,p2,rfl⟩;exact cc<|aq<|bd (e2,p2) trivial cf ap
   rintro⟨e2,p2⟩ -
   refine al (l':=blk O 71 #[dO e9]::blk b6 102 #[aX I]::aM I d ⟨n,false,0⟩::ar d σ1::row 9 1 (.slice A9 names.length c9) names.length (names.map bY)::blk Y 67 #[aX f]::i7 f e2 (.pointer none)::aG e2 p2 S0::pl::fr) aN ?_;refine sQ<|aj ?_
   refine aL (X:=List UInt8×List (List UInt8)×FK.En×EA×Option Addr×Nat×Bool) (λx=>[(19,.slice x.2.2.2.2.1 x.1.length x.2.2.2.2.2.1),(8,.slice A9 names.length c9),(7,aX O),(6,aX b6),(2,rB f),(0,mK d)]) (λx=>blk O 71 #[dO e9]::blk b6 102 #[aX I]::aM I d ⟨n,x.2.2.2.2.2.2,0⟩::ar d σ1::row 9 1 (.slice A9 names.length c9) names.length (names.map bY)::blk Y 67 #[aX f]::i7 f e2 (.pointer none)::aG e2 x.2.2.2.1 x.2.2.1::pl::fr) (λx=>(x.2.2.2.2.2.2=false->FK.Parse x.1 x.2.1 t/\FK.Reds x.2.2.1 x.2.1 U)/\(x.2.2.2.2.2.2=true->t=true/\x.2.2.1=U)/\Reads pl x.2.2.2.2.1 x.1/\x.1.length<=x.2.2.2.2.2.1/\x.1.length<=100000000000000) (λx=>bif x.2.2.2.2.2.2 then 0 else x.1.length+1) (lb,l,S0,p2,A,c,false) ⟨λ_=>⟨L6▸Mc,hR⟩,λh=>(by cases h),LS,Md,Mj⟩ cf aN ?_;rintro⟨bs,l1,S1,p1,A1,c1,tf⟩ ⟨L8,Me,LJ,LK,LL⟩;simp only at L8 Me LJ LK LL;refine al (l':=blk O 71 #[dO e9]::blk b6 102 #[aX I]::aM I d ⟨n,tf,0⟩::ar d σ1::row 9 1 (.slice A9 names.length c9) names.length (names.map bY)::blk Y 67 #[aX f]::i7 f e2 (.pointer none)::aG e2 p1 S1::pl::fr) aN ?_;refine sQ<|bg Z<|sP (bh Z Z) (fC Z (eS (r:=decide (0<bs.length)) Z Z cP) (λ_ _=>trivial) λf8 LP=>(sM Z ?_))
   refine dW f8 (by rfl) ?_;refine fK Z Z (λ_=>rfl) (aF Z) (ag Z) ?_;refine dW f8 (by rfl) ?_;refine fK Z Z (λ_=>rfl) (cv Z) (λ_ _=>trivial) ?_;refine dW f8 (by rfl) ?_;refine fK Z Z (λ_=>rfl) (bL 2 Z) (λ_ _=>trivial) ?_;refine dW f8 (by rfl) ?_;refine fK Z Z (λ_=>rfl) (aF Z) (ag Z) ?_;refine dW f8 (by rfl) ?_;refine fK Z Z (λ_=>rfl) (dp Z Z) (λ_ _=>trivial) ?_;refine fC Z (kQ Z Z Z) (λ_ _=>trivial) λd7 LQ=>sN ?_;refine dQ Z (λd7=>?_) λd7=>?_
   ·
    rw[LQ,LP] at d7;simp only[Bool.and_eq_true,decide_eq_true_eq,Bool.not_eq_true'] at d7;obtain⟨LR,rfl⟩:=d7;obtain⟨hP,LG⟩:=L8 rfl;have LX:bs≠[]:=λh=>by rw[h] at LR;simp at LR
    refine ah<|sT<|aj<|sQ ?_
    by_cases HX:FK.next bs=none
    ·
     refine sG<|sM Z ?_
     refine ch Z (nF LJ LK (Nat.le_trans LL ai)) gfE8 ?_;rintro v m ⟨hv,rfl⟩;refine ae ?_;obtain rfl:v=.tuple #[.slice none 0 0,.slice none 0 0,.bool false]:=by
      rcases hv with⟨_,h⟩|⟨x',r',A3,c3,A4,c4,h,_⟩
      · exact h
      · rw[HX] at h;cases h
     obtain⟨rfl,rfl⟩:l1=[]/\t=true:=by
      cases hP with
      | nil=>exact absurd rfl LX
      | torn _ _=>exact⟨rfl,rfl⟩
      | cons _ h _=>rw[HX] at h;cases h
     obtain rfl:=LG.nil_eq;refine sM Z<|bG Z Z<|bG Z Z<|bG Z Z<|sA Z<|sA Z<|sB Z<|sS<|aE Z Z Z Z<|cG Z (dp Z Z)<|dA Z<|bX 2 Z ?_
     refine bK Z Z Z Z ii ?_;refine aD I (nY d ⟨n,true,0⟩) Z<|sN<|bg Z<|sN<|ak Z<|ah<|am ?_
     exact aC (bs,[],U,p1,A1,c1,true) ⟨λh=>(by cases h),λ_=>⟨rfl,rfl⟩,LJ,LK,LL⟩ (Nat.succ_pos _) cf ap
    ·
     obtain⟨x,r,d6⟩:∃x r,FK.next bs=some (x,r):=by
      cases h:FK.next bs with
      | none=>exact absurd h HX
      | some y=>exact⟨y.1,y.2,rfl⟩
     refine sG<|sM Z ?_
     refine ch Z (nF LJ LK (Nat.le_trans LL ai)) gfE8 ?_;rintro v m ⟨hv,rfl⟩;refine ae ?_;obtain⟨A3,c3,A4,c4,rfl,L4,L5,Mr,Ms⟩:∃A3 c3 A4 c4,v=.tuple #[.slice A3 x.length c3,.slice A4 r.length c4,.bool true]/\Reads pl A3 x/\x.length<=c3/\Reads pl A4 r/\r.length<=c4:=by
      rcases hv with⟨h,_⟩|⟨x',r',A3,c3,A4,c4,h,hv,h1,h2,h3,h4⟩
      · rw[d6] at h;cases h
      · rw[d6] at h
        injection h with h;injection h with e1 e2;subst e1;subst e2;exact⟨A3,c3,A4,c4,hv,h1,h2,h3,h4⟩
     have MP:=FK.GR d6;obtain⟨l2,rfl,Mt⟩:∃l2,l1=x::l2/\FK.Parse r l2 t:=by
      cases hP with
      | nil=>exact absurd rfl LX
      | torn _ h=>rw[d6] at h;cases h
      | cons _ h h2=>
       rw[d6] at h;injection h with h;injection h with e1 e2;subst e1;subst e2;exact⟨_,rfl,h2⟩
     obtain⟨S2,Mu,MJ,Mw,Mx⟩:=LG.cons_eq;refine sM Z<|bG Z Z<|bG Z Z<|bG Z Z<|sA Z<|sA Z<|sB Z<|sS<|aE Z Z Z Z<|cG Z (dp Z Z)<|dA Z<|bX 2 Z ?_
     refine bK Z Z Z Z ii ?_;refine aD I (nY d ⟨n,false,0⟩) Z<|sN<|bg Z<|sN<|aO Z<|bg Z<|sM Z ?_
     refine sO<|ct Z Z Z Z hE (DO Mu Mw L4 L5) (dd Dd Dd bM) ?_
     rintro v m ⟨rfl,p3,rfl⟩;refine cD<|sN<|sG<|sM Z<|sA Z<|aq<|am ?_
     refine aC (r,l2,S2,p3,A4,c4,false) ⟨λ_=>⟨Mt,Mx⟩,λh=>(by cases h),Mr,Ms,by show r.length<=_;omega⟩ (by show r.length+1<bs.length+1;omega) cf ap
   ·
    rw[LQ,LP] at d7;obtain⟨rfl,rfl⟩:tf=t/\S1=U:=by
     cases tf with
     | true=>obtain⟨h1,h2⟩:=Me rfl;exact⟨h1.symm,h2⟩
     | false=>
      obtain⟨hP,LG⟩:=L8 rfl;have MF:bs=[]:=by
       cases bs with
       | nil=>rfl
       | cons a q=>simp at d7
      subst MF;cases hP with
      | nil=>exact⟨rfl,LG.nil_eq.symm⟩
      | torn h _=>exact absurd rfl h
      | cons h _ _=>exact absurd rfl h
    refine aK<|av<|au<|ao<|sT<|sQ<|bg Z<|sP (bh Z Z)<|sM Z<|sN<|aj ?_
    refine aL (X:=Nat×FK.Dsk×Int) (λx=>[(142,.int .i64 x.1),(141,.int .i64 names.length),(140,.slice A9 names.length c9),(7,aX O),(6,aX b6),(0,mK d)]) (λx=>blk O 71 #[dO x.2.2]::blk b6 102 #[aX I]::aM I d ⟨n,tf,0⟩::ar d x.2.1::row 9 1 (.slice A9 names.length c9) names.length (names.map bY)::blk Y 67 #[aX f]::i7 f e2 (.pointer none)::aG e2 p1 S1::fr) (λx=>x.1<=names.length/\FK.rms n (names.drop x.1) x.2.1=FK.rms n names σ1/\FK.vol x.2.1.now<=100000000000000/\FK.vol x.2.1.dur<=100000000000000/\x.2.1.pend.length<=x.1/\FK.fR x.2.1.pend=0) (λx=>names.length-x.1) (0,σ1,e9) ⟨Nat.zero_le _,rfl,by rw[d8];exact Mm,Mf,by rw[L3];exact cm _,by rw[L3];rfl⟩ cf ap ?_;rintro⟨k,σ2,e7⟩ ⟨MD,wf,LM,LN,ME,LO⟩;simp only at MD wf LM LN ME LO;refine al (l':=blk O 71 #[dO e7]::blk b6 102 #[aX I]::aM I d ⟨n,tf,0⟩::ar d σ2::row 9 1 (.slice A9 names.length c9) names.length (names.map bY)::blk Y 67 #[aX f]::i7 f e2 (.pointer none)::aG e2 p1 S1::fr) aN ?_;refine sS<|sP (bB Z Z Z)<|sN<|sQ ?_
    refine aA Z (λLB=>?_) λLB=>?_
    ·
     have LD:k<names.length:=by have:(k:Int)<(names.length:Int):=LB;omega
     obtain⟨g9,rfl⟩:=Mg ai;obtain⟨s,hs⟩:∃s,names[k]?=some s:=⟨names[k],by simp[LD]⟩;have Ma:names.drop k=s::names.drop (k+1):=by
      obtain⟨h1,h2⟩:=gfGet.1 hs;rw[List.drop_eq_getElem_cons h1,h2]
     rw[Ma] at wf;refine ah<|sT<|sQ<|aj<|sS<|sP (bp (z:=1) Z Z Z Z LD) ?_
     refine cE (aF (v:=bY s) Z) (fg lp (by show(names.map bY)[0+k*1]?=_;rw[Nat.zero_add,Nat.mul_one,List.getElem?_map,hs];rfl)) ?_;refine sB Z<|sQ ?_
     by_cases HO:s=FK.aW n
     ·
      refine sG<|sM Z<|aE Z Z Z Z<|dA Z<|bX 1 Z<|aE Z Z Z Z ?_
      refine bV Z (gK (kind:=⟨#[98,97,115,101]⟩) (n:=n) In di) aN ?_;refine aB<|sP (lT (r:=false) Z Z Z (FG HO))<|sM Z<|bQ Z<|bQ Z<|bQ Z<|bQ Z<|bQ Z<|bQ Z<|bQ Z<|sP (aS Z Z Z)<|sN<|ak Z<|ah<|am<|sT<|sG<|sP (aT (r:=((k+1:Nat):Int)) Z Z eg)<|sM Z<|aq ?_
      exact aC (k+1,σ2,e7) ⟨ai,by rw[<-wf,FK.sb (.inl HO)],LM,LN,by show σ2.pend.length<=k+1;omega,LO⟩ (by show names.length-(k+1)<names.length-k;omega) cf aN
     ·
      by_cases HL:s=FK.bw n
      ·
       refine sG<|sM Z<|aE Z Z Z Z<|dA Z<|bX 1 Z<|aE Z Z Z Z ?_
       refine bV Z (gK (kind:=⟨#[98,97,115,101]⟩) (n:=n) In di) aN ?_;refine aB<|sP (lT (r:=true) Z Z Z (wm HO))<|sM Z<|iC Z<|mJ (aF Z) (ag Z)<|eJ (cv Z)<|eJ (bL 1 Z)<|mJ (aF Z) (ag Z) ?_
       refine iK Z Z Z<|cF Z (gK (kind:=⟨#[108,111,103]⟩) (n:=n) In di) aN ?_
       rintro v m ⟨rfl,rfl⟩;refine aB<|eJ (lT (r:=false) Z Z Z (FG HL))<|sP (aS Z Z Z)<|sN<|ak Z<|ah<|am<|sT<|sG<|sP (aT (r:=((k+1:Nat):Int)) Z Z eg)<|sM Z<|aq ?_
       exact aC (k+1,σ2,e7) ⟨ai,by rw[<-wf,FK.sb (.inr HL)],LM,LN,by show σ2.pend.length<=k+1;omega,LO⟩ (by show names.length-(k+1)<names.length-k;omega) cf aN
      ·
       refine sG<|sM Z<|aE Z Z Z Z<|dA Z<|bX 1 Z<|aE Z Z Z Z ?_
       refine bV Z (gK (kind:=⟨#[98,97,115,101]⟩) (n:=n) In di) aN ?_;refine aB<|sP (lT (r:=true) Z Z Z (wm HO))<|sM Z<|iC Z<|mJ (aF Z) (ag Z)<|eJ (cv Z)<|eJ (bL 1 Z)<|mJ (aF Z) (ag Z) ?_
       refine iK Z Z Z<|cF Z (gK (kind:=⟨#[108,111,103]⟩) (n:=n) In di) aN ?_
       rintro v m ⟨rfl,rfl⟩;refine aB<|eJ (lT (r:=true) Z Z Z (wm HL))<|sP (aS Z Z Z)<|sN<|aO Z<|bg Z<|sM Z ?_
       refine sO<|fm Z Z Z (Cw ⟨d,0,none⟩) Z hE (qq (name:=s) ai ai) gfE3 ?_
       rintro v m ⟨rfl,rfl⟩;refine ae<|bK Z Z Z (lK _) (by show 0<1;omega) ?_
       refine aD O #[dO (σ2.tell ⟨3,s,⟨#[]⟩⟩).2] rfl ?_;obtain⟨My,Mz,MK,MA⟩:=FK.IK (σ:=σ2) (s:=s);refine al (l':=blk O 71 #[dO (σ2.tell ⟨3,s,⟨#[]⟩⟩).2]::blk b6 102 #[aX I]::aM I d ⟨n,tf,0⟩::ar d (σ2.tell ⟨3,s,⟨#[]⟩⟩).1::row 9 1 (.slice (some ⟨g9,0,none⟩) names.length c9) names.length (names.map bY)::blk Y 67 #[aX f]::i7 f e2 (.pointer none)::aG e2 p1 S1::fr) ap ?_;have Mk:¬(s=FK.aW n\/s=FK.bw n):=λh=>h.elim HO HL;refine sN<|sQ ?_
       by_cases HZ:(σ2.tell ⟨3,s,⟨#[]⟩⟩).2=0
       ·
        rw[HZ,show dO 0=.nilIface from rfl];refine sG<|aE Z Z Z Z<|sP (cS Z Z)<|sN<|ak Z<|ah<|am<|sT<|sG<|sP (aT (r:=((k+1:Nat):Int)) Z Z eg)<|sM Z<|aq ?_
        exact aC (k+1,(σ2.tell ⟨3,s,⟨#[]⟩⟩).1,0) ⟨ai,by rw[<-wf,FK.KK Mk HZ],Nat.le_trans My LM,by rw[Mz];exact LN,by show(σ2.tell ⟨3,s,⟨#[]⟩⟩).1.pend.length<=k+1;omega,by rw[MA];exact LO⟩ (by show names.length-(k+1)<names.length-k;omega) cf aN
       ·
        refine sG<|aE Z Z Z Z<|sP (fj Z (by rw[wx HZ];rfl))<|sN<|aO Z<|an<|aJ<|aH<|cu<|aJ<|aH ?_
        have BT:σ1.opened n (FK.gN ns)=σ2.tell ⟨3,s,⟨#[]⟩⟩:=by
         have h1:FK.rms n names σ1=σ2.tell ⟨3,s,⟨#[]⟩⟩:=by rw[<-wf,FK.Gu Mk HZ]
         unfold FK.Dsk.opened;rw[<-T,h1,if_pos HZ]
        refine ic (.inl Z) Z Z hE (pO b6 O HZ I) aN ?_;rintro m rfl;refine az ?_;refine eb [ar d (σ2.tell ⟨3,s,⟨#[]⟩⟩).1] rfl (dy Z Z (ag Z)) (dy Z Z (ag Z)) ⟨_,_,_,[],.inr ⟨HS,ns,t7,by rw[<-t6,BT],by rw[<-t6,BT]⟩,rfl,rfl,λ_=>⟨rfl,rfl⟩,λh=>absurd h HZ⟩ ?_;show Ent _ (ar d (σ2.tell ⟨3,s,⟨#[]⟩⟩).1::fr);exact ap
    ·
     obtain rfl:k=names.length:=by have:¬(k:Int)<(names.length:Int):=LB;omega
     have Ml:FK.rms n names σ1=(σ2,0):=by rw[<-wf,List.drop_length];rfl
     have BT:σ1.opened n (FK.gN ns)=σ2.sync:=by
      unfold FK.Dsk.opened;rw[<-T,Ml,if_neg cP]
     refine aK<|av<|au<|ao<|sT<|bg Z ?_
     refine sO<|fm Z Z Z (rE ⟨d,0,none⟩) Z hE (jy ai ai) gfE3 ?_
     rintro v m ⟨rfl,rfl⟩;refine ae<|bK Z Z Z (lK _) (by show 0<1;omega) ?_
     refine aD O #[dO σ2.sync.2] rfl ?_;refine al (l':=blk O 71 #[dO σ2.sync.2]::blk b6 102 #[aX I]::aM I d ⟨n,tf,0⟩::ar d σ2.sync.1::blk Y 67 #[aX f]::i7 f e2 (.pointer none)::aG e2 p1 S1::fr) ap ?_;refine sN<|an ?_
     by_cases HZ:σ2.sync.2=0
     · rw[HZ,show dO 0=.nilIface from rfl]
       refine ic (.inl Z) Z Z hE (tA b6 O) aN ?_;rintro m rfl;refine ae ?_;refine eb (ar d σ2.sync.1::aM I d ⟨n,tf,0⟩::It Y f e2 p1 S1) Z (dy Z Z (ag Z)) (dy Z Z (ag Z)) ⟨_,0,_,_,.inr ⟨HS,ns,t7,by rw[<-t6,BT],by rw[<-t6,BT,HZ]⟩,rfl,rfl,λh=>absurd Z h,λ_=>⟨I,e2,p1,rfl,rfl⟩⟩ ?_
       · show Ent _ (ar d σ2.sync.1::aM I d ⟨n,tf,0⟩::blk Y 67 #[aX f]::i7 f e2 (.pointer none)::aG e2 p1 S1::fr)
         exact ap
     · refine ic (.inl Z) Z Z hE (pO b6 O HZ I) aN ?_
       rintro m rfl;refine az ?_;refine eb [ar d σ2.sync.1] rfl (dy Z Z (ag Z)) (dy Z Z (ag Z)) ⟨_,_,_,[],.inr ⟨HS,ns,t7,by rw[<-t6,BT],by rw[<-t6,BT]⟩,rfl,rfl,λ_=>⟨rfl,rfl⟩,λh=>absurd h HZ⟩ ?_
       · show Ent _ (ar d σ2.sync.1::fr)
         exact ap
 ·
  refine sG<|aE Z Z Z Z<|sP (fj Z (by rw[wx HS];rfl))<|sN<|aO Z<|an<|aH ?_
  refine ic (.inl Z) Z Z hE (pO b6 O HS I) aN ?_;rintro m rfl;refine az ?_;refine eb [ar d σ.sync.1] rfl (dy Z Z (ag Z)) (dy Z Z (ag Z)) ⟨σ.sync.1,σ.sync.2,_,[],.inl ⟨HS,rfl,rfl⟩,rfl,rfl,λ_=>⟨rfl,rfl⟩,λh=>absurd h HS⟩ ?_;show Ent _ (ar d σ.sync.1::fr);exact ap
end Go.Y

namespace FK
def Dsk.anewAt (σ:Dsk) (n:Nat) (b:ByteArray):Nat->Dsk
 | 0=>σ
 | 1=>(σ.tell ⟨1,aW (n+1),b⟩).1
 | 2=>(σ.tell ⟨1,aW (n+1),b⟩).1.sync.1
 | 3=>((σ.tell ⟨1,aW (n+1),b⟩).1.sync.1.tell ⟨3,aW n,⟨#[]⟩⟩).1
 | 4=>(((σ.tell ⟨1,aW (n+1),b⟩).1.sync.1.tell ⟨3,aW n,⟨#[]⟩⟩).1.tell ⟨3,bw n,⟨#[]⟩⟩).1
 | _=>(((σ.tell ⟨1,aW (n+1),b⟩).1.sync.1.tell ⟨3,aW n,⟨#[]⟩⟩).1.tell ⟨3,bw n,⟨#[]⟩⟩).1.sync.1
structure AnewOk (σ:Dsk) (n:Nat) (b:ByteArray):Prop where
 a0:(σ.tell ⟨1,aW (n+1),b⟩).2=0
 a1:(σ.anewAt n b 1).sync.2=0
 a2:((σ.anewAt n b 2).tell ⟨3,aW n,⟨#[]⟩⟩).2=0\/((σ.anewAt n b 2).tell ⟨3,aW n,⟨#[]⟩⟩).2=9
 a3:((σ.anewAt n b 3).tell ⟨3,bw n,⟨#[]⟩⟩).2=0\/((σ.anewAt n b 3).tell ⟨3,bw n,⟨#[]⟩⟩).2=9
 a4:(σ.anewAt n b 4).sync.2=0
 room:∀k,vol (σ.anewAt n b k).now<=4611686018427387904/\vol (σ.anewAt n b k).dur+fR (σ.anewAt n b k).pend<=4611686018427387904/\(σ.anewAt n b k).pend.length<=1000000000000
end FK
namespace Go.Y
open Go.Proofs
open Go Go.RowKit Go.SL
variable {G:Env->Prop}
section
variable {P:Program} {E:Env} {n:Nat} {D:List Deferred} {ts:List (Nat×Value)} {l:List HP} {Q:Exit->Act->World->Prop} {i:Nat} {ty:TypeId} {pos:String} {af:Array Edge} {g:Option (Nat×Bool)} {K:Act->World->Prop}
theorem BD {t O:TypeId} {x y:Operand} {d:TypeId} {v:Value} {T:Array (String×TypeId)} (Y:P.underlying t=some (.interface T)) (hx:ev ts x=some .nilIface) (hy:ev ts y=some (.iface d v)):Ev P ts (.binOp .eql t x y O) (.bool false) Any:=by
 intro ac w _ _ _ _ _ I _;exact eT (I.eval hx) (I.eval hy) (by simp[eqGuard]) (k9 Z λd=>by simp[Op.equalIn,run_underlying Y])
theorem I6 {x:Operand} {m:String} {t:TypeId} {u:Value} {f:FuncId} {I:Value} {at_:Array TypeId} {pre fr:List HP} {R:Value->List HP->Prop} (hi:Nat.blt i n=true) (Y:ev ts x=some (.func (.method m) #[.iface t u] #[]))
 (O:∀w,(Go.method (P.types.size+Made.depth) t u m).run P w=.ok (f,I) w) (hb:dX P f=true) (hE:G E) (hs:Does P G f [I].toArray pre R) (hl:Ent l (pre++fr)) (h:∀v m,R v m->At E n D ((i,v)::ts) (m++fr) K) :
 At E n D ts l (λa w=>(Oper.mk (some i) (.call {callee:=.value x,args:=#[],argTypes:=at_}) ty pos af g).wp P a w K Q):=λa w T hw=>by
 refine oL (f:=f) (args:=[I].toArray) ?_ hE hs (hw.ent hl) λv m w' hR O=>h v m hR _ w' (T.put i (Nat.le_of_ble_eq_true hi) v) O;simp[execOp,resolve,Deferred.ofValue,T.eval Y,invoke,callMethod,O,eA hb]
def Da (P:Program) (G:Env->Prop) (v:Value) (pre:List HP) (R:Value->List HP->Prop):Prop:=
 (∃f cap,v=.func (.func f) #[] cap/\dX P f=true/\Does P G f (#[]++([]:List Value).toArray++cap) pre R)\/
 ∃m t u f I,v=.func (.method m) #[.iface t u] #[]/\(∀w,(Go.method (P.types.size+Made.depth) t u m).run P w=.ok (f,I) w)/\dX P f=true/\Does P G f [I].toArray pre R
theorem I7 {x:Operand} {O:Value} {at_:Array TypeId} {pre fr:List HP} {R:Value->List HP->Prop} (hi:Nat.blt i n=true) (T:ev ts x=some O) (Y:G E) (hc:Da P G O pre R) (hl:Ent l (pre++fr)) (h:∀v m,R v m->At E n D ((i,v)::ts) (m++fr) K) :
 At E n D ts l (λa w=>(Oper.mk (some i) (.call {callee:=.value x,args:=#[],argTypes:=at_}) ty pos af g).wp P a w K Q):=by
 rcases hc with⟨f,cap,rfl,I,hd⟩|⟨m,t,u,f,u',rfl,hm,I,hd⟩
 · exact ct (xs:=[]) (args:=[]) hi T I Z Y hd hl h
 · exact I6 hi T hm I Y hd hl h
end
theorem La (e:Int):eh 62 [.nilIface,.iface 33 (.int .i64 e)] [] λv m=>v=.bool false/\m=[]:=by
 refine bz Tryz.func62 Z λE fr I=>aB<|sS<|sB Z<|sQ<|bg Z<|sP (jM Z Z)<|sM Z<|bQ Z<|bQ Z<|sP (aS Z Z Z)<|sN<|aO Z<|sS ?_
 exact sM Z<|cG Z (BD Z Z Z)<|sB Z<|an<|aH<|aw [] rfl Z ⟨rfl,rfl⟩ aN
theorem Hc {x:Int} (I:x=0\/x=9):eh 62 [dO x,.iface 33 (.int .i64 9)] [] λv m=>v=.bool (x==9)/\m=[]:=by
 rcases I with rfl|rfl
 · exact La 9
 · exact oW 9
abbrev mP:ByteArray:=⟨#[98,97,115,101]⟩
abbrev tX:ByteArray:=⟨#[108,111,103]⟩
abbrev jC (d n:Nat) (t:Bool):Array Value:=#[mK d,.int .i64 n,.bool t,.nilIface]
abbrev jB (j d n:Nat) (t:Bool):HP:=blk j 163 (jC d n t)
abbrev EW (bj bk:Nat):Value:=.func (.func 85) #[] #[aX bj,aX bk]
abbrev wrV (bj bb:Nat):Value:=.func (.func 81) #[] #[aX bj,aX bb]
abbrev Iw (d:Nat):Value:=.func (.method "Sync") #[mK d] #[]
theorem Dn {bj bb j d n c:Nat} {t:Bool} {A:Option Addr} {bs:List UInt8} {p:HP} {σ:FK.Dsk} (hn:n<100000) (I:Reads p A bs) (O:A=none->bs=[]) (hl:bs.length<=1000000000) (hv:FK.vol σ.now<=4611686018427387904) (T:σ.pend.length<=1000000000000) :
 eh 81 [aX bj,aX bb] [blk bj 102 #[aX j],blk bb 61 #[.slice A bs.length c],jB j d n t,ar d σ,p] λv m=>v=dO (σ.tell ⟨1,FK.aW (n+1),dN (FK.frame bs)⟩).2/\m=[blk bj 102 #[aX j],blk bb 61 #[.slice A bs.length c],jB j d n t,ar d (σ.tell ⟨1,FK.aW (n+1),dN (FK.frame bs)⟩).1,p]:=by
 have d6:=il bs ai;refine bz Tryz.func81 Z λE fr Y=>bH<|sS<|sB Z<|sQ<|sZ Z<|iJ 0 Z (aF Z) (ag Z)<|dv 0 Z Z Z<|bZ Z (aF Z) (ag Z)<|bZ Z (aF Z) (ag Z)<|dv 1 Z Z Z<|bZ Z (aF Z) (ag Z)<|bF Z (aT (r:=((n+1:Nat):Int)) Z Z eg)<|iJ 10 Z (aF Z) (ag Z)<|dr 12 Z (mc Z)<|cJ Z Z ?_
 refine cK 9 Z<|cF Z (gK (kind:=mP) (n:=n+1) ai di) aN ?_
 rintro v m ⟨rfl,rfl⟩;refine aB<|dK [true,true,true,true,true] (aa (ag Z) (aa (ag Z) (aa (ag Z) (aa (ag Z) (aa (ag Z) ab))))) ?_
 refine cK 11 Z<|cF Z (qB c I O ai) gfE4 ?_
 rintro v m rfl;refine az<|dK [false,true,true,true,true] (aa (ag Z) (aa (ag Z) (aa (ag Z) (aa (ag Z) ab)))) ?_
 refine cK 14 Z<|fm Z Z Z (KW ⟨d,0,none⟩) Z Y (z8 (name:=FK.aW (n+1)) ai ai ai) (aY tY .head) ?_
 rintro v m ⟨rfl,rfl⟩;refine ae<|dK [true,true,true,true] (aa (ag Z) (aa (ag Z) (aa (ag Z) (aa (ag Z) ab))))<|dr 15 Z (aQ Z)<|dE<|sT<|an<|aw [blk bj 102 #[aX j],blk bb 61 #[.slice A bs.length c],jB j d n t,ar d (σ.tell ⟨1,FK.aW (n+1),dN (FK.frame bs)⟩).1,p] rfl Z ⟨rfl,rfl⟩ ?_
 show Ent _ (blk bj 102 #[aX j]::blk bb 61 #[.slice A bs.length c]::jB j d n t::ar d (σ.tell ⟨1,FK.aW (n+1),dN (FK.frame bs)⟩).1::p::fr);exact ap
theorem tD {bj:Nat} {kind:ByteArray}:dZ G 84 [bY kind,aX bj] [] λv m=>∃bk,v=EW bj bk/\m=[blk bk 9 #[bY kind]]:=by
 refine bz Tryz.func84 Z λE fr I=>aB<|sS<|sO (cL Z Z λb2=>(sB Z (sS ?_)))
 refine sP (ew Z Z) ?_;exact sB Z<|an<|aw [blk b2 9 #[bY kind]] rfl Z ⟨b2,rfl,rfl⟩ aN
theorem uU {bj bk j d n:Nat} {t:Bool} {kind:ByteArray} {σ:FK.Dsk} (hn:n<100000) (hk:kind.size<=1000) (T:(σ.tell ⟨3,kind++FK.mS n,⟨#[]⟩⟩).2=0\/(σ.tell ⟨3,kind++FK.mS n,⟨#[]⟩⟩).2=9) (hv:FK.vol σ.now<=4611686018427387904) (d6:σ.pend.length<=1000000000000) :
 eh 85 [aX bj,aX bk] [blk bj 102 #[aX j],blk bk 9 #[bY kind],jB j d n t,ar d σ] λv m=>v=.nilIface/\m=[blk bj 102 #[aX j],blk bk 9 #[bY kind],jB j d n t,ar d (σ.tell ⟨3,kind++FK.mS n,⟨#[]⟩⟩).1]:=by
 obtain⟨ω,O⟩:∃ω,ω=σ.tell ⟨3,kind++FK.mS n,⟨#[]⟩⟩:=⟨_,rfl⟩;rw[<-O] at T;refine bz Tryz.func85 Z λE fr hE=>cc<|sS<|sB Z<|sQ<|sQ<|sZ Z<|iJ 0 Z (aF Z) (ag Z)<|dv 0 Z Z Z<|bZ Z (aF Z) (ag Z)<|bZ Z (aF Z) (ag Z)<|bZ Z (aF Z) (ag Z)<|dv 1 Z Z Z<|bZ Z (aF Z) (ag Z)<|dr 10 Z (mc Z)<|cJ Z Z ?_
 refine cK 9 Z<|cF Z (gK (kind:=kind) (n:=n) ai ai) aN ?_
 rintro v m ⟨rfl,rfl⟩;refine aB<|dK [false,true,false,true,true] (aa (ag Z) (aa (ag Z) (aa (ag Z) ab))) ?_
 refine cK 12 Z<|fm Z Z Z (Cw ⟨d,0,none⟩) Z hE (qq (name:=kind++FK.mS n) ai ai) gfE3 ?_
 rintro v m ⟨rfl,rfl⟩;refine ae ?_;rw[<-O];refine dK [true,true,true] (aa (ag Z) (aa (ag Z) (aa (ag Z) ab)))<|dr 13 Z (aQ Z)<|dE<|sT<|bg Z<|sP (ed Z Z Z) ?_
 refine bV Z (Hc T) aN ?_;refine aB<|sP (dp Z Z)<|sN ?_
 refine dQ Z (λI=>?_) λI=>?_
 ·
  have Y:ω.2=0:=by
   rcases T with h|h
   · exact h
   · rw[h] at I;simp at I
  refine bg Z<|sB Z<|an<|aH<|aw [blk bj 102 #[aX j],blk bk 9 #[bY kind],jB j d n t,ar d ω.1] rfl Z ⟨by rw[Y];rfl,by rw[O]⟩ ?_
  show Ent _ (blk bj 102 #[aX j]::blk bk 9 #[bY kind]::jB j d n t::ar d ω.1::fr);exact ap
 ·
  refine ah<|sT<|sS<|sB Z<|an<|aw [blk bj 102 #[aX j],blk bk 9 #[bY kind],jB j d n t,ar d ω.1] rfl Z ⟨rfl,by rw[O]⟩ ?_
  show Ent _ (blk bj 102 #[aX j]::blk bk 9 #[bY kind]::jB j d n t::ar d ω.1::fr);exact ap
end Go.Y

namespace Go.Y
open Go.Proofs Go.RowKit Go.SL
variable {G:Env->Prop}
abbrev Fg (b2 b3 k1 k2 j d n:Nat) (t:Bool) (s:Value) (σ:FK.Dsk) (p:HP):List HP:=[blk b2 102 #[aX j],blk b3 61 #[s],blk k1 9 #[bY mP],blk k2 9 #[bY tX],jB j d n t,ar d σ,p]
abbrev nZ (b2 b3 k1 k2 d:Nat):List Value:=[wrV b2 b3,Iw d,EW b2 k1,EW b2 k2,Iw d]
section
variable {A:Option Addr} {bs:List UInt8} {c d:Nat} {σ:FK.Dsk}
theorem BR {b2 b3 k1 k2 j n:Nat} {t:Bool} {p:HP} (K:n<100000) (Y:Reads p A bs) (hA:A=none->bs=[]) (hl:bs.length<=1000000000) (E:FK.AnewOk σ n (dN (FK.frame bs))) {k:Nat} {f:Value} (I:(nZ b2 b3 k1 k2 d)[k]?=some f) :
 Da Tryz.prog Good f (Fg b2 b3 k1 k2 j d n t (.slice A bs.length c) (σ.anewAt n (dN (FK.frame bs)) k) p) λv m=>v=.nilIface/\m=Fg b2 b3 k1 k2 j d n t (.slice A bs.length c) (σ.anewAt n (dN (FK.frame bs)) (k+1)) p:=by
 obtain⟨O,r2,T⟩:=E.room k
 match k,I with
 | 0,I=>
  obtain rfl:wrV b2 b3=f:=by injection I
  refine .inl ⟨_,_,rfl,rfl,?_⟩;refine Does.part (c:=[blk k1 9 #[bY mP],blk k2 9 #[bY tX]]) (Dn (bj:=b2) (bb:=b3) (j:=j) (d:=d) (t:=t) (c:=c) (σ:=σ.anewAt n (dN (FK.frame bs)) 0) K Y hA hl O T) (by show Ent (_::_::_::_::_::_::_::[]) (_::_::_::_::_::_::_::[]);exact ap) ?_;rintro v m ⟨rfl,rfl⟩;exact⟨_,⟨by show dO (σ.tell ⟨1,FK.aW (n+1),dN (FK.frame bs)⟩).2=_;rw[E.a0];rfl,rfl⟩,by show Ent (_::_::_::ar d (σ.anewAt n (dN (FK.frame bs)) 1)::_::_::_::[]) (_::_::_::_::_::ar d (σ.anewAt n (dN (FK.frame bs)) 1)::_::[]);exact ap⟩
 | 1,I=>
  obtain rfl:Iw d=f:=by injection I
  refine .inr ⟨_,_,_,_,_,rfl,rE ⟨d,0,none⟩,rfl,?_⟩;refine Does.part (c:=[blk b2 102 #[aX j],blk b3 61 #[.slice A bs.length c],blk k1 9 #[bY mP],blk k2 9 #[bY tX],jB j d n t,p]) (jy (d:=d) (σ:=σ.anewAt n (dN (FK.frame bs)) 1) ai ai) (by show Ent (_::_::_::_::_::_::_::[]) (_::_::_::_::_::_::_::[]);exact ap) ?_;rintro v m ⟨rfl,rfl⟩;exact⟨_,⟨by rw[E.a1];rfl,rfl⟩,by show Ent (_::_::_::_::_::_::_::[]) (_::_::_::_::_::ar d (σ.anewAt n (dN (FK.frame bs)) 1).sync.1::_::[]);exact ap⟩
 | 2,I=>
  obtain rfl:EW b2 k1=f:=by injection I
  refine .inl ⟨_,_,rfl,rfl,?_⟩;refine Does.part (c:=[blk b3 61 #[.slice A bs.length c],blk k2 9 #[bY tX],p]) (uU (bj:=b2) (bk:=k1) (j:=j) (d:=d) (t:=t) (kind:=mP) (σ:=σ.anewAt n (dN (FK.frame bs)) 2) K di E.a2 O T) (by show Ent (_::_::_::_::_::_::_::[]) (_::_::_::_::_::_::_::[]);exact ap) ?_;rintro v m ⟨rfl,rfl⟩;exact⟨_,⟨rfl,rfl⟩,by show Ent (_::_::_::ar d ((σ.anewAt n (dN (FK.frame bs)) 2).tell ⟨3,FK.aW n,⟨#[]⟩⟩).1::_::_::_::[]) (_::_::_::_::_::ar d ((σ.anewAt n (dN (FK.frame bs)) 2).tell ⟨3,FK.aW n,⟨#[]⟩⟩).1::_::[]);exact ap⟩
 | 3,I=>
  obtain rfl:EW b2 k2=f:=by injection I
  refine .inl ⟨_,_,rfl,rfl,?_⟩;refine Does.part (c:=[blk b3 61 #[.slice A bs.length c],blk k1 9 #[bY mP],p]) (uU (bj:=b2) (bk:=k2) (j:=j) (d:=d) (t:=t) (kind:=tX) (σ:=σ.anewAt n (dN (FK.frame bs)) 3) K di E.a3 O T) (by show Ent (_::_::_::_::_::_::_::[]) (_::_::_::_::_::_::_::[]);exact ap) ?_;rintro v m ⟨rfl,rfl⟩;exact⟨_,⟨rfl,rfl⟩,by show Ent (_::_::_::ar d ((σ.anewAt n (dN (FK.frame bs)) 3).tell ⟨3,FK.bw n,⟨#[]⟩⟩).1::_::_::_::[]) (_::_::_::_::_::ar d ((σ.anewAt n (dN (FK.frame bs)) 3).tell ⟨3,FK.bw n,⟨#[]⟩⟩).1::_::[]);exact ap⟩
 | 4,I=>
  obtain rfl:Iw d=f:=by injection I
  refine .inr ⟨_,_,_,_,_,rfl,rE ⟨d,0,none⟩,rfl,?_⟩;refine Does.part (c:=[blk b2 102 #[aX j],blk b3 61 #[.slice A bs.length c],blk k1 9 #[bY mP],blk k2 9 #[bY tX],jB j d n t,p]) (jy (d:=d) (σ:=σ.anewAt n (dN (FK.frame bs)) 4) ai ai) (by show Ent (_::_::_::_::_::_::_::[]) (_::_::_::_::_::_::_::[]);exact ap) ?_;rintro v m ⟨rfl,rfl⟩;exact⟨_,⟨by rw[E.a4];rfl,rfl⟩,by show Ent (_::_::_::_::_::_::_::[]) (_::_::_::_::_::ar d (σ.anewAt n (dN (FK.frame bs)) 4).sync.1::_::[]);exact ap⟩
 | k+5,I=>simp at I
theorem JC (a b c d e:Operand) (v w x y z:Value) (e1:v.cells=#[v]) (e2:w.cells=#[w]) (E:x.cells=#[x]) (I:y.cells=#[y]) (K:z.cells=#[z]):Instr.fill (λi=>some (i*1,1)) (Array.map (λx=>(Value.nilFunc).cells[x%(Value.nilFunc).cells.size]!) (Array.range (5*1))) ((List.map (λx=>x.1) [((0:Nat),a),(1,b),(2,c),(3,d),(4,e)]).zip [v,w,x,y,z])=some #[v,w,x,y,z]:=by
 have e0:Array.range (5*1)=#[0,1,2,3,4]:=rfl;rw[e0];simp[Instr.fill,e1,e2,E,I,K]
theorem Id {b2 b3 k1 k2 k:Nat} (E:k<5):∃f,(nZ b2 b3 k1 k2 d)[k]?=some f:=⟨(nZ b2 b3 k1 k2 d)[k],by simp[E]⟩
theorem EP {j n:Nat} {t:Bool} {p:HP} (hn:n<100000) (hp:Reads p A bs) (hA:A=none->bs=[]) (hl:bs.length<=1000000000) (O:FK.AnewOk σ n (dN (FK.frame bs))) :
 eh 48 [aX j,.slice A bs.length c] [aM j d ⟨n,t,0⟩,ar d σ,p] λv m=>v=.nilIface/\m=[aM j d ⟨n+1,false,0⟩,ar d (σ.anewAt n (dN (FK.frame bs)) 5),p]:=by
 refine bz Tryz.func48 Z λE fr T=>cD<|aD j (jC d n t) Z<|sS<|sO (cL Z Z λb2=>(sO (cL Z Z λb3=>(sB Z (sQ (sS (aE Z Z Z Z (dA Z (bX 3 Z (aE Z Z Z Z (sP (cS Z Z) (sN (ak Z ?_)))))))))))))
 refine ah<|sT<|sS ?_
 refine sP (ew Z Z) ?_;refine sB Z<|sS ?_
 refine sP (ew Z Z) ?_;refine sB Z<|sQ<|sQ<|sZ Z<|eI Z Z<|bZ Z (aF Z) (ag Z)<|dv 0 Z Z Z<|bZ Z (aF Z) (ag Z)<|bF Z (mc Z) ?_
 refine dr 6 Z (ew Z Z) ?_;refine dr 7 Z (bn Z)<|dr 9 Z (bn Z)<|iJ 11 Z (aF Z) (ag Z)<|dv 0 Z Z Z<|bZ Z (aF Z) (ag Z)<|bF Z (mc Z) ?_
 refine dr 16 Z (ew Z Z) ?_;refine dr 19 Z (bn Z) ?_;refine cK 8 Z<|ct Z Z Z Z T (tD (bj:=b2) (kind:=mP)) aN ?_
 rintro v m ⟨k1,rfl,rfl⟩;refine ae<|dK [true,true,true,true] (aa (ag Z) (aa (ag Z) (aa (ag Z) (aa (ag Z) ab)))) ?_
 refine cK 10 Z<|ct Z Z Z Z T (tD (bj:=b2) (kind:=tX)) aN ?_
 rintro v m ⟨k2,rfl,rfl⟩;refine ae<|dK [true,true,true,true] (aa (ag Z) (aa (ag Z) (aa (ag Z) (aa (ag Z) ab)))) ?_
 refine cK 17 Z (dB (m:=5) (z:=.nilFunc) (size:=1) (ps:=[(0,.tmp 20),(1,.tmp 26),(2,.tmp 28),(3,.tmp 30),(4,.tmp 36)]) (vs:=nZ b2 b3 k1 k2 d) (cs:=(nZ b2 b3 k1 k2 d).toArray) Z Z Z Z ai ai Z (JC _ _ _ _ _ _ _ _ _ _ Z Z Z Z Z) λb37=>?_);refine dK [true,true,true,true] (aa (ag Z) (aa (ag Z) (aa (ag Z) (aa (ag Z) ab))))<|dr 18 Z (bh Z Z)<|dE<|sT<|aj ?_
 refine aL (X:=Nat) (λk=>[(39,.int .i64 k),(38,.int .i64 5),(37,.slice (some ⟨b37,0,none⟩) 5 5),(2,aX b2),(3,aX b3)]) (λk=>Fg b2 b3 k1 k2 j d n t (.slice A bs.length c) (σ.anewAt n (dN (FK.frame bs)) k) p++(blk b37 84 (nZ b2 b3 k1 k2 d).toArray::fr)) (λk=>k<=5) (λk=>5-k) 0 (Nat.zero_le _) cf (by show Ent (_::_::_::blk b3 61 #[.slice A bs.length c]::blk b2 102 #[aX j]::_::_::_::fr) (_::_::_::_::_::ar d σ::_::_::fr);exact ap) ?_;intro k hk;replace hk:k<=5:=hk;refine al (l':=blk b2 102 #[aX j]::blk b3 61 #[.slice A bs.length c]::blk k1 9 #[bY mP]::blk k2 9 #[bY tX]::jB j d n t::ar d (σ.anewAt n (dN (FK.frame bs)) k)::p::blk b37 84 (nZ b2 b3 k1 k2 d).toArray::fr) aN ?_;refine sS<|sP (bB Z Z Z)<|sN<|sQ ?_
 refine aA Z (λI=>?_) λI=>?_
 ·
  have K:k<5:=by have:(k:Int)<5:=I;omega
  obtain⟨f,Y⟩:=Id (b2:=b2) (b3:=b3) (k1:=k1) (k2:=k2) (d:=d) K;refine ah<|sT<|sQ<|aj<|sS<|sP (bp (z:=1) Z Z Z Z K)<|cE (aF (v:=f) Z) (ag (by simpa using Y))<|sB Z<|sQ<|sZ Z<|iJ 0 Z (aF Z) (ag Z)<|cJ Z Z ?_
  refine cK 2 Z<|I7 Z Z T (BR (c:=c) (t:=t) (j:=j) hn hp hA hl O Y) (fr:=blk b37 84 (nZ b2 b3 k1 k2 d).toArray::fr) aN ?_
  rintro v m ⟨rfl,rfl⟩;refine al (l':=blk b2 102 #[aX j]::blk b3 61 #[.slice A bs.length c]::blk k1 9 #[bY mP]::blk k2 9 #[bY tX]::jB j d n t::ar d (σ.anewAt n (dN (FK.frame bs)) (k+1))::p::blk b37 84 (nZ b2 b3 k1 k2 d).toArray::fr) aN ?_;refine dK [true] (aa (ag Z) ab)<|dr 3 Z (cv Z)<|bF Z (bL 3 Z) ?_
  refine cK 5 Z<|cp Z Z Z Z Z ii ?_
  refine dK [false] ab<|dE<|sT<|sQ<|aD j (jC d n t) Z<|sG<|aE Z Z Z Z<|dA Z<|bX 3 Z<|aE Z Z Z Z<|sP (cS Z Z)<|sN<|ak Z<|ah<|am<|sT<|sG<|sP (aT (r:=((k+1:Nat):Int)) Z Z eg)<|sM Z<|aq ?_
  refine aC (k+1) (by show k+1<=5;omega) (by show 5-(k+1)<5-k;omega) cf ?_;show Ent _ (blk b2 102 #[aX j]::blk b3 61 #[.slice A bs.length c]::blk k1 9 #[bY mP]::blk k2 9 #[bY tX]::jB j d n t::ar d (σ.anewAt n (dN (FK.frame bs)) (k+1))::p::blk b37 84 (nZ b2 b3 k1 k2 d).toArray::fr);exact ap
 ·
  obtain rfl:k=5:=by have:¬(k:Int)<5:=I;omega
  refine aK<|av<|au<|ao<|sT<|sS<|aE Z Z Z Z<|dA Z<|bX 1 Z<|aE Z Z Z Z<|sP (aT (r:=((n+1:Nat):Int)) Z Z eg)<|dA Z<|bX 1 Z ?_
  refine bK Z Z Z Z ii ?_;refine sN<|sQ<|aD j (jC d (n+1) t) Z<|sG<|aE Z Z Z Z<|dA Z<|bX 2 Z ?_
  refine bK Z Z Z Z ii ?_;refine sN<|sQ<|aD j (jC d (n+1) false) Z<|sG<|sB Z<|an<|aw [aM j d ⟨n+1,false,0⟩,ar d (σ.anewAt n (dN (FK.frame bs)) 5),p] rfl Z ⟨rfl,rfl⟩ ?_
  show Ent _ (jB j d (n+1) false::ar d (σ.anewAt n (dN (FK.frame bs)) 5)::p::fr);exact ap
theorem EN {K f e:Nat} {p:EA} {S B:FK.En} {pb:HP} (Y:FK.Svd B) (O:∀x∈B.tms,B.now<=x.2) (hp:Reads pb A (FK.iX B)) (hc:(FK.iX B).length<=c) :
 eh 55 [.slice A (FK.iX B).length c,aX K] (It K f e p S++[pb]) λ_v m=>∃I T,m=It K f I T B.rd++[pb]:=by
 refine bz Tryz.func55 Z λE fr hE=>cc<|sZ Z<|iJ 0 Z (aF Z) (ag Z)<|cJ Z Z ?_
 refine cK 2 Z<|cF Z (BE Y O hp hc) gfE3 ?_
 rintro v m ⟨I,T,rfl,rfl⟩;refine az<|dK [true] (aa (ag Z) ab)<|dr 3 Z (cv Z)<|bF Z (bL 0 Z) ?_
 refine cK 5 Z<|cp Z Z Z Z Z ii ?_
 refine aD f #[aX I,.pointer none] rfl<|dK [false] ab<|dE<|bm (It K f I T B.rd++[pb]) Z ⟨I,T,rfl⟩ ?_
 show Ent _ (blk K 67 #[aX f]::i7 f I (.pointer none)::aG I T B.rd::pb::fr);exact ap
end
end Go.Y

namespace FK
open Go.Y (dN i64)
section
variable {fs:jZ} {a s v:ByteArray}
theorem iE (h:(fs.map (·.1)).Nodup):dw fs s=some v<->(s,v)∈fs:=by
 unfold dw
 induction fs with
 | nil=>simp
 | cons x fs I=>
  rw[List.map_cons,List.nodup_cons] at h;rw[List.find?_cons];cases hx:x.1==s with
  | true=>
   have e:x.1=s:=(Go.MapKept.bytes_beq _ _).1 hx;simp only[Option.map_some,Option.some.injEq,List.mem_cons];constructor
   · intro E
     exact .inl (by rw[<-e,<-E])
   · rintro(E|E)
     · rw[<-E]
     · exact absurd (e▸List.mem_map.2 ⟨_,E,rfl⟩) h.1
  | false=>
   have e:x.1≠s:=λe=>by rw[(Go.MapKept.bytes_beq _ _).2 e] at hx;cases hx
   simp only[List.mem_cons,I h.2];constructor
   · exact .inr
   · rintro(E|E)
     · exact absurd (by rw[<-E]) e
     · exact E
theorem kget_none:dw fs s=none<->s∉fs.map (·.1):=by
 constructor
 · intro h I
   obtain⟨b,E⟩:=vi I;rw[h] at E;cases E
 · intro h
   cases hk:dw fs s with
   | none=>rfl
   | some v=>
    unfold dw at hk;cases hf:fs.find? (·.1==s) with
    | none=>rw[hf] at hk;cases hk
    | some x=>exact absurd (List.mem_map.2 ⟨x,List.mem_of_find?_eq_some hf,by have K:=List.find?_some hf;exact(Go.MapKept.bytes_beq _ _).1 K⟩) h
theorem pS {gs:jZ} (h:(fs.map (·.1)).Nodup) (p:fs.Perm gs) (s:ByteArray):dw gs s=dw fs s:=by
 have I:(gs.map (·.1)).Nodup:=(p.map _).nodup_iff.1 h;cases hk:dw fs s with
 | none=>exact kget_none.2 λE=>kget_none.1 hk ((p.map _).mem_iff.2 E)
 | some v=>exact(iE I).2 (p.mem_iff.1 ((iE h).1 hk))
theorem lR (h:(fs.map (·.1)).Nodup):((fS fs a v).map (·.1)).Nodup/\∀s,s∈(fS fs a v).map (·.1)<->s∈fs.map (·.1)\/s=a:=by
 unfold fS;cases hf:fs.findIdx? (·.1==a) with
 | none=>
  have Y:a∉fs.map (·.1):=λI=>by
   obtain⟨x,E,e⟩:=List.mem_map.1 I;have:=List.findIdx?_eq_none_iff.1 hf x E;rw[(Go.MapKept.bytes_beq _ _).2 e] at this;cases this
  simp only[List.map_append,List.map_cons,List.map_nil];refine⟨List.nodup_append.2 ⟨h,by simp,λx E y O e=>Y (by simp at O;rw[<-O,<-e];exact E)⟩,λs=>by simp⟩
 | some j=>
  obtain⟨T,E,_⟩:=List.findIdx?_eq_some_iff_getElem.1 hf;have e:(fs[j]).1=a:=(Go.MapKept.bytes_beq _ _).1 E;have hs:(fs.set j (a,v)).map (·.1)=fs.map (·.1):=by
   rw[List.map_set];refine List.ext_getElem? λi=>?_;rw[List.getElem?_set]
   split
   · rename_i K
     subst K;simp[T,e]
   · rfl
  simp only[hs];refine⟨h,λs=>⟨.inl,?_⟩⟩;rintro(I|rfl)
  · exact I
  · exact List.mem_map.2 ⟨_,List.getElem_mem T,e⟩
theorem jF (h:(fs.map (·.1)).Nodup):dw (fS fs a v) s=if s=a then some v else dw fs s:=by
 have T:=lR (a:=a) (v:=v) h;have Y:(a,v)∈fS fs a v:=by
  unfold fS;cases hf:fs.findIdx? (·.1==a) with
  | none=>simp
  | some j=>
   obtain⟨O,_,_⟩:=List.findIdx?_eq_some_iff_getElem.1 hf;exact List.mem_iff_getElem?.2 ⟨j,by simp[O]⟩
 have K:∀s u,s≠a->((s,u)∈fS fs a v<->(s,u)∈fs):=λs u E=>by
  unfold fS;cases hf:fs.findIdx? (·.1==a) with
  | none=>simp[E]
  | some j=>
   obtain⟨O,hx,_⟩:=List.findIdx?_eq_some_iff_getElem.1 hf;have e:(fs[j]).1=a:=(Go.MapKept.bytes_beq _ _).1 hx;constructor
   · intro I
     obtain⟨i,hi⟩:=List.mem_iff_getElem?.1 I;rw[List.getElem?_set] at hi
     split at hi
     · first
       | (injection hi with hi;injection hi with hi;exact absurd hi.symm E)
       | (split at hi<;>first|(injection hi with hi;injection hi with hi;exact absurd hi.symm E)|cases hi)
     · exact du hi
   · intro I
     obtain⟨i,hi⟩:=List.mem_iff_getElem?.1 I;refine List.mem_iff_getElem?.2 ⟨i,?_⟩;rw[List.getElem?_set,if_neg]
     · exact hi
     · rintro rfl
       rw[List.getElem?_eq_getElem O] at hi;injection hi with hi;exact E (by rw[<-e,hi])
 by_cases E:s=a
 · subst E
   rw[if_pos rfl];exact(iE T.1).2 Y
 · rw[if_neg E]
   cases hg:dw fs s with
   | none=>exact kget_none.2 λI=>((T.2 s).1 I).elim (kget_none.1 hg) E
   | some u=>exact(iE T.1).2 ((K s u E).2 ((iE h).1 hg))
theorem oq (h:(fs.map (·.1)).Nodup):((fs.eraseP (·.1==a)).map (·.1)).Nodup/\∀s u,(s,u)∈fs.eraseP (·.1==a)<->(s,u)∈fs/\s≠a:=by
 induction fs with
 | nil=>simp
 | cons x fs ih=>
  rw[List.map_cons,List.nodup_cons] at h;rw[List.eraseP_cons];cases hx:x.1==a with
  | true=>
   have e:x.1=a:=(Go.MapKept.bytes_beq _ _).1 hx;simp only[cond_true];refine⟨h.2,λs u=>⟨λE=>⟨.tail _ E,λe2=>h.1 (by rw[e,<-e2];exact List.mem_map.2 ⟨_,E,rfl⟩)⟩,?_⟩⟩;rintro⟨E,I⟩;rcases List.mem_cons.1 E with E|E
   · exact absurd (by rw[<-e,<-E]) I
   · exact E
  | false=>
   have e:x.1≠a:=λe=>by rw[(Go.MapKept.bytes_beq _ _).2 e] at hx;cases hx
   obtain⟨T,O⟩:=ih h.2;simp only[cond_false,List.map_cons,List.nodup_cons];refine⟨⟨λE=>?_,T⟩,λs u=>?_⟩
   · obtain⟨y,Y,K⟩:=List.mem_map.1 E
     exact h.1 (K▸List.mem_map.2 ⟨y,((O y.1 y.2).1 Y).1,rfl⟩)
   · simp only[List.mem_cons,O]
     constructor
     · rintro(E|⟨E,I⟩)
       · exact⟨.inl E,by rw[show s=x.1 by rw[<-E]];exact e⟩
       · exact⟨.inr E,I⟩
     · rintro⟨E|E,I⟩
       · exact .inl E
       · exact .inr ⟨E,I⟩
theorem ml (h:(fs.map (·.1)).Nodup):dw (fs.eraseP (·.1==a)) s=if s=a then none else dw fs s:=by
 obtain⟨T,K⟩:=oq (a:=a) h
 by_cases E:s=a
 · rw[if_pos E]
   refine kget_none.2 λI=>?_;obtain⟨y,O,rfl⟩:=List.mem_map.1 I;exact((K y.1 y.2).1 O).2 E
 · rw[if_neg E]
   cases hg:dw fs s with
   | none=>
    refine kget_none.2 λI=>?_;obtain⟨y,O,rfl⟩:=List.mem_map.1 I;exact kget_none.1 hg<|List.mem_map.2 ⟨y,((K y.1 y.2).1 O).1,rfl⟩
   | some u=>exact(iE T).2 ((K s u).2 ⟨(iE h).1 hg,E⟩)
theorem lL:∀k<400,Go.Lib.atoi (kz (aW k)).data.toList=some (k:Int):=by decide +kernel
theorem wn:∀k<400,Go.Lib.atoi (kz (bw k)).data.toList=none:=by decide +kernel
theorem tC:∀k<400,(kz (aW k)).size<=18/\(kz (bw k)).size<=18/\(aW k).size<=20:=by decide +kernel
theorem Ib {a b:Nat} (I:a<400) (K:b<400) (h:aW a=aW b):a=b:=by
 have E:=lL a I;rw[h,lL b K] at E;injection E with E;omega
theorem m6 {a b:Nat} (I:a<400) (K:b<400):aW a≠bw b:=λh=>by
 have E:=lL a I;rw[h,wn b K] at E;cases E
theorem yT {k:Nat} (h:k<400):NameOk (aW k):=⟨(tC k h).1,λq E=>by rw[lL k h] at E;injection E with E;omega⟩
theorem Ba {k:Nat} (h:k<400):NameOk (bw k):=⟨(tC k h).2.1,λq E=>by rw[wn k h] at E;cases E⟩
end
structure Fb (n:Nat) (B:En) (l:List (List UInt8)) (fs:jZ):Prop where
 nd:(fs.map (·.1)).Nodup
 nm:∀s∈fs.map (·.1),s=aW n\/s=bw n
 base:dw fs (aW n)=if n=0 then none else some (dN (frame (iX B)))
 log:kA fs (bw n)=frames l
theorem Fb.perm {n:Nat} {B:En} {l:List (List UInt8)} {fs gs:jZ} (h:Fb n B l fs) (p:fs.Perm gs):Fb n B l gs:=by
 refine⟨(p.map _).nodup_iff.1 h.nd,λs E=>h.nm s ((p.map _).mem_iff.2 E),by rw[pS h.nd p];exact h.base,?_⟩;have:=h.log;unfold kA at this ⊢;rw[pS h.nd p];exact this
theorem xw (l:List UInt8):(dN l).data.toList=l:=by
 show l.toArray.toList=l;simp
theorem Fe (fs:jZ) (n:Nat) (b:List UInt8):ea fs ⟨2,bw n,dN (frame b)⟩=fS fs (bw n) (dN (kA fs (bw n)++frame b)):=by
 unfold ea;rw[if_pos rfl];unfold kA;cases hk:dw fs (bw n) with
 | none=>simp only[Option.map_none,Option.getD_none,List.nil_append]
 | some w=>
  simp only[Option.map_some,Option.getD_some];rw[Cf];have:dN w.data.toList=w:=by
   unfold dN;simp
  rw[this]
theorem Fb.logs {n:Nat} {B:En} {l:List (List UInt8)} {fs:jZ} (E:n<400) (h:Fb n B l fs) (b:List UInt8):Fb n B (l++[b]) (ea fs ⟨2,bw n,dN (frame b)⟩):=by
 rw[Fe,h.log,<-lh];have I:=lR (a:=bw n) (v:=dN (frames (l++[b]))) h.nd;refine⟨I.1,λs K=>((I.2 s).1 K).elim (h.nm s) .inr,?_,?_⟩
 · rw[jF h.nd,if_neg (m6 E E)]
   exact h.base
 · unfold kA
   rw[jF h.nd,if_pos rfl];exact xw _
structure KB (n:Nat) (B:En) (l:List (List UInt8)) (σ:Dsk):Prop where
 quiet:Quiet σ
 now:Fb n B l σ.now
 dur:Fb n B l σ.dur
 same:∀s,dw σ.now s=dw σ.dur s
theorem KB.logs {n:Nat} {B:En} {l:List (List UInt8)} {σ:Dsk} (E:n<400) (h:KB n B l σ) (b:List UInt8):KB n B (l++[b]) (σ.logs n (dN (frame b))):=by
 refine⟨h.quiet.logs n _,h.now.logs E b,h.dur.logs E b,λs=>?_⟩;show dw (ea σ.now ⟨2,bw n,dN (frame b)⟩) s=dw (ea σ.dur ⟨2,bw n,dN (frame b)⟩) s;rw[Fe,Fe,h.now.log,h.dur.log,jF h.now.nd,jF h.dur.nd,h.same]
theorem Kw {α:Type} {fs:List (ByteArray×α)} {a b:ByteArray} (I:(fs.map (·.1)).Nodup) (E:∀s∈fs.map (·.1),s=a\/s=b):fs.length<=2:=by
 match fs,I,E with
 | [],_,_=>simp
 | [_],_,_=>simp
 | [_,_],_,_=>simp
 | x::y::z::r,I,E=>
  exfalso;simp only[List.map_cons,List.nodup_cons,List.mem_cons,not_or] at I;have K:=E x.1 cP;have O:=E y.1 cP;have h3:=E z.1 cP;obtain⟨⟨T,Y,_⟩,⟨a3,_⟩,_⟩:=I;rcases K with K|K<;>rcases O with O|O<;>rcases h3 with h3|h3<;>simp_all
theorem Fb.len {n:Nat} {B:En} {l:List (List UInt8)} {fs:jZ} (h:Fb n B l fs):fs.length<=2:=Kw h.nd h.nm
theorem Fb.size {n:Nat} {B:En} {l:List (List UInt8)} {fs:jZ} (h:Fb n B l fs):∀x∈fs,x.2.size<=(frame (iX B)).length+(frames l).length:=by
 intro x K;have E:=(iE h.nd).2 (show(x.1,x.2)∈fs from K);rcases h.nm x.1 (List.mem_map.2 ⟨x,K,rfl⟩) with e|e
 · rw[e,h.base] at E
   split at E
   · cases E
   · injection E with E
     rw[<-E,Go.Y.kF];omega
 · have I:=h.log
   unfold kA at I;rw[<-e,E] at I;have:x.2.size=(frames l).length:=by
    rw[<-I];show x.2.data.size=_;simp
   omega
theorem Fb.vol {n:Nat} {B:En} {l:List (List UInt8)} {fs:jZ} (h:Fb n B l fs):vol fs<=2*((frame (iX B)).length+(frames l).length):=by
 have I:=h.len;have E:=h.size
 match fs,I,E with
 | [],_,_=>simp[FK.vol]
 | [x],_,E=>have:=E x cP;simp[FK.vol];omega
 | [x,y],_,E=>have a:=E x cP;have b:=E y cP;simp[FK.vol];omega
 | x::y::z::r,I,_=>simp at I
theorem Fb.scan {n:Nat} {B:En} {l:List (List UInt8)} {fs:jZ} (hn:n<400) (h:Fb n B l fs) (hB:(iX B).length<18446744073709551616) {ns:List ByteArray} (hp:ns.Perm (fs.map (·.1))):scan fs (gN ns)=⟨n,if n=0 then none else some (iX B)⟩:=by
 have K:∀s,s∈gN ns<->s∈fs.map (·.1):=λs=>by rw[sortB_mem,hp.mem_iff]
 have d7:n≠0->aW n∈gN ns:=λI=>by
  rw[K];have O:=h.base;rw[if_neg I] at O;exact List.mem_map.2 ⟨_,(iE h.nd).1 O,rfl⟩
 obtain⟨x,hx⟩:∃x:Sc,x=⟨n,if n=0 then none else some (iX B)⟩:=⟨_,rfl⟩;have T:∀s∈fs.map (·.1),∀a:Sc,(a=⟨0,none⟩\/a=x)->(gG fs a s=⟨0,none⟩\/gG fs a s=x)/\(a=x->gG fs a s=x)/\(s=aW n->gG fs a s=x):=by
  intro s hs a Y;rcases h.nm s hs with e|e
  · have I:n≠0:=λI=>by
     have O:=h.base;rw[if_pos I] at O;exact kget_none.1 O (e▸hs)
    have O:=h.base;rw[if_neg I] at O;have d8:next (dN (frame (iX B))).data.toList=some (iX B,[]):=by
     rw[xw];have:=tB (iX B) [] hB
     rwa [List.append_nil] at this
    have E:gG fs a s=x:=by
     subst e;rcases Y with rfl|rfl
     · rw[sa (lL n hn) (by simp;omega) O d8,hx,if_neg I]
       simp
     · rw[pJ (lL n hn) (by rw[hx];exact Int.le_refl _)]
    exact⟨.inr E,λ_=>E,λ_=>E⟩
  · have E:gG fs a s=a:=pK (by rw[e];exact wn n hn)
    refine⟨by rw[E];exact Y,λd6=>by rw[E];exact d6,λe2=>?_⟩;exact absurd (e2.symm.trans e)<|m6 hn hn
 have key:∀(L:List ByteArray) (a:Sc),(∀s∈L,s∈fs.map (·.1))->(a=⟨0,none⟩\/a=x)->(L.foldl (gG fs) a=⟨0,none⟩\/L.foldl (gG fs) a=x)/\(a=x\/aW n∈L->L.foldl (gG fs) a=x):=by
  intro L
  induction L with
  | nil=>intro a _ Y;exact⟨Y,λh=>h.elim id (λh=>by cases h)⟩
  | cons s L ih=>
   intro a hL Y;obtain⟨g1,g2,g3⟩:=T s (hL s cP) a Y;obtain⟨i1,i2⟩:=ih (gG fs a s) (λt ht=>hL t (.tail _ ht)) g1;refine⟨i1,λhc=>i2 ?_⟩;rcases hc with hc|hc
   · exact .inl (g2 hc)
   · rcases List.mem_cons.1 hc with hc|hc
     · exact .inl (g3 hc.symm)
     · exact .inr hc
 obtain⟨k1,k2⟩:=key (gN ns) ⟨0,none⟩ (λs hs=>(K s).1 hs) (.inl rfl);unfold FK.scan
 by_cases I:n=0
 · have:x=⟨0,none⟩:=by rw[hx,if_pos I,I]
   rw[<-hx];rcases k1 with k1|k1
   · rw[k1,this]
   · exact k1
 · rw[<-hx]
   exact k2<|.inr (d7 I)
theorem Fb.rms {n:Nat} {B:En} {l:List (List UInt8)} {fs:jZ} (h:Fb n B l fs) {ns:List ByteArray} (K:ns.Perm (fs.map (·.1))) (τ:Dsk):rms n (gN ns) τ=(τ,0):=by
 have E:∀s∈gN ns,s=aW n\/s=bw n:=λs O=>h.nm s (K.mem_iff.1 (sortB_mem.1 O));have key:∀(L:List ByteArray),(∀s∈L,s=aW n\/s=bw n)->FK.rms n L τ=(τ,0):=by
  intro L
  induction L with
  | nil=>intro _;rfl
  | cons s L Y=>intro I;rw[sb (I s cP)];exact Y λt T=>I t (.tail _ T)
 exact key _ E
open Go.Y (dN i64)
section
variable {pend:List DOp} {k:Nat} {dur now:jZ}
theorem Dm (h:k<=100):Go.IntKind.i64.wrap (-(k:Int)-1)=-((k+1:Nat):Int):=by
 rw[Go.SL.iI ai];omega
theorem rO (I:1<=k) (E:k<=100):(⟨dur,now,pend,-(k:Int),-(k:Int),false⟩:Dsk).writes=(⟨dur,now,pend,-((k+1:Nat):Int),-((k+1:Nat):Int),false⟩,0):=by
 unfold Dsk.writes;rw[if_neg (by rintro(h|h);cases h;simp only at h;omega),if_neg (by simp only;omega)];simp only[Dm E]
theorem Ft (E:1<=k) (I:k<=100) {o:DOp} (K:¬(o.kind=3/\dw now o.name=none)):(⟨dur,now,pend,-(k:Int),-(k:Int),false⟩:Dsk).tell o=(⟨dur,ea now o,pend++[o],-((k+1:Nat):Int),-((k+1:Nat):Int),false⟩,0):=by
 unfold Dsk.tell;rw[rO E I];simp only[show ¬((0:Int)=11) by decide,if_false,ne_eq,not_true_eq_false,if_neg K]
theorem IL (E:1<=k) (I:k<=100) {o:DOp} (h3:o.kind=3) (K:dw now o.name=none):(⟨dur,now,pend,-(k:Int),-(k:Int),false⟩:Dsk).tell o=(⟨dur,now,pend,-((k+1:Nat):Int),-((k+1:Nat):Int),false⟩,9):=by
 unfold Dsk.tell;rw[rO E I];simp only[show ¬((0:Int)=11) by decide,if_false,ne_eq,not_true_eq_false,if_pos (show o.kind=3/\dw now o.name=none from⟨h3,K⟩)]
theorem vL (E:1<=k) (I:k<=100):(⟨dur,now,pend,-(k:Int),-(k:Int),false⟩:Dsk).sync=(⟨pend.foldl ea dur,now,[],-((k+1:Nat):Int),-((k+1:Nat):Int),false⟩,0):=by
 unfold Dsk.sync;rw[rO E I];simp
end
abbrev BW (fs:jZ) (a:ByteArray):jZ:=fs.eraseP (·.1==a)
section
variable {a:ByteArray} {fs:jZ} {n:Nat}
theorem xC (h:dw fs a=none):BW fs a=fs:=
 List.eraseP_of_forall_not λx E I=>kget_none.1 h (List.mem_map.2 ⟨x,E,(Go.MapKept.bytes_beq _ _).1 I⟩)
theorem Kf (fs:jZ) (a:ByteArray):ea fs ⟨3,a,⟨#[]⟩⟩=BW fs a:=by simp[ea]
theorem Fc (fs:jZ) (a v:ByteArray):ea fs ⟨1,a,v⟩=fS fs a v:=by simp[ea]
theorem xz {dur now:jZ} {pend:List DOp} {k:Nat} (I:1<=k) (K:k<=100) (a:ByteArray) (O:dw now a=none->dw (pend.foldl ea dur) a=none) :
 ∃E x,(⟨dur,now,pend,-(k:Int),-(k:Int),false⟩:Dsk).tell ⟨3,a,⟨#[]⟩⟩=(⟨dur,BW now a,E,-((k+1:Nat):Int),-((k+1:Nat):Int),false⟩,x)/\(x=0\/x=9)/\E.foldl ea dur=BW (pend.foldl ea dur) a/\fR E=fR pend/\E.length<=pend.length+1:=by
 cases hk:dw now a with
 | none=>exact⟨pend,9,by rw[IL I K rfl hk,xC hk],.inr rfl,by rw[xC (O hk)],rfl,Nat.le_succ _⟩
 | some v=>
  refine⟨pend++[⟨3,a,⟨#[]⟩⟩],0,by rw[Ft I K (by simp[hk]),Kf],.inl rfl,by rw[List.foldl_append,List.foldl_cons,List.foldl_nil,Kf],?_,by simp⟩;rw[show fR (pend++[(⟨3,a,⟨#[]⟩⟩:DOp)])=fR pend+0 by unfold fR;rw[List.map_append,List.sum_append];rfl]
  rfl
theorem GL {v:ByteArray} (I:(fs.map (·.1)).Nodup) (K:∀s∈fs.map (·.1),s=a) (O:dw fs a=some v):fs=[(a,v)]:=by
 have E:=(iE I).1 O
 match fs,I,K,E with
 | [x],_,_,E=>simp at E;rw[E]
 | x::y::r,I,K,_=>
  have T:=K x.1 cP;have Y:=K y.1 cP;simp only[List.map_cons,List.nodup_cons,List.mem_cons,not_or] at I;exact absurd (T.trans Y.symm) I.1.1
theorem Fb.anew {B:En} {l:List (List UInt8)} (I:n+1<400) (h:Fb n B l fs) (X:ByteArray):BW (BW (fS fs (aW (n+1)) X) (aW n)) (bw n)=[(aW (n+1),X)]:=by
 have k1:=lR (a:=aW (n+1)) (v:=X) h.nd;have k2:=oq (a:=aW n) k1.1;have K:=oq (a:=bw n) k2.1;have hb:aW (n+1)≠aW n:=λe=>by have:=Ib I ai e;omega
 have hl:aW (n+1)≠bw n:=m6 I ai;refine GL K.1 (λs O=>?_) ?_
 · obtain⟨y,T,rfl⟩:=List.mem_map.1 O
   obtain⟨Y,h2⟩:=(K.2 y.1 y.2).1 T;obtain⟨h3,h4⟩:=(k2.2 y.1 y.2).1 Y;rcases(k1.2 y.1).1 (List.mem_map.2 ⟨_,h3,rfl⟩) with E|E
   · rcases h.nm _ E with e|e
     · exact absurd e h4
     · exact absurd e h2
   · exact E
 · rw[ml k2.1,if_neg hl,ml k1.1,if_neg hb,jF h.nd,if_pos rfl]
def ka (n:Nat) (S:En) (k:Nat):Dsk:=⟨[(aW n,dN (frame (iX S)))],[(aW n,dN (frame (iX S)))],[],-(k:Int),-(k:Int),false⟩
theorem Fb.one {S:En} (E:n<400) (I:n≠0):Fb n S [] [(aW n,dN (frame (iX S)))]:=by
 have O:(aW n==aW n)=true:=(Go.MapKept.bytes_beq _ _).2 rfl;refine⟨by simp,λs K=>.inl (by simpa using K),?_,?_⟩
 · rw[if_neg I]
   simp[dw,O]
 · unfold kA
   rw[kget_none.2 (by simp only[List.map_cons,List.map_nil,List.mem_singleton];exact λe=>m6 E E e.symm)]
   rfl
theorem Ic {S:En} (E:n<400) (I:n≠0):KB n S [] (ka n S 1):=⟨⟨rfl,rfl,rfl,rfl⟩,Fb.one E I,Fb.one E I,λ_=>rfl⟩
theorem Cb (fs:jZ) (a:ByteArray):vol (BW fs a)<=vol fs:=Cd
theorem xu (fs:jZ) (a v:ByteArray):vol (fS fs a v)<=vol fs+v.size:=by
 have:=rG fs ⟨1,a,v⟩
 rwa [Fc] at this
theorem KB.anew {n:Nat} {B S:En} {l:List (List UInt8)} {σ:Dsk} (hn:n+1<400) (h:KB n B l σ) (d9:vol σ.now<=1000000000000) (f7:vol σ.dur<=1000000000000) (hX:(frame (iX S)).length<=1000000000) :
 AnewOk σ n (dN (frame (iX S)))/\σ.anewAt n (dN (frame (iX S))) 5=ka (n+1) S 6:=by
 obtain⟨dur,now,pend,left,full,down⟩:=σ;obtain⟨⟨q1,q2,q3,q4⟩,I,K,T⟩:=h;simp only at q1 q2 q3 q4 I K T d9 f7;subst q1;subst q2;subst q3;subst q4;obtain⟨X,d7⟩:∃X,X=dN (frame (iX S)):=⟨_,rfl⟩;have f8:X.size<=1000000000:=by rw[d7,Go.Y.kF];exact hX
 have f1:=I.anew hn X;have f2:=K.anew hn X;unfold ka;rw[<-d7];obtain⟨E,Y⟩:∃E,E=fS now (aW (n+1)) X:=⟨_,rfl⟩;obtain⟨O,d6⟩:∃O,O=fS dur (aW (n+1)) X:=⟨_,rfl⟩;have f9:vol E<=1001000000000:=by have:=xu now (aW (n+1)) X;rw[Y];omega
 have mt:vol O<=1001000000000:=by have:=xu dur (aW (n+1)) X;rw[d6];omega
 have d8:∀s,dw E s=dw O s:=λs=>by rw[Y,d6,jF I.nd,jF K.nd,T]
 have kN:=(lR (a:=aW (n+1)) (v:=X) I.nd).1;have kD:=(lR (a:=aW (n+1)) (v:=X) K.nd).1;rw[<-Y] at f1 kN;rw[<-d6] at f2 kD;have s1:(⟨dur,now,[],-1,-1,false⟩:Dsk).tell ⟨1,aW (n+1),X⟩=(⟨dur,E,[⟨1,aW (n+1),X⟩],-((2:Nat):Int),-((2:Nat):Int),false⟩,0):=by
  have:=Ft (dur:=dur) (now:=now) (pend:=[]) (k:=1) (cm _) ai (o:=⟨1,aW (n+1),X⟩) cP;rw[Fc,<-Y] at this;exact this
 have s2:(⟨dur,E,[⟨1,aW (n+1),X⟩],-((2:Nat):Int),-((2:Nat):Int),false⟩:Dsk).sync=(⟨O,E,[],-((3:Nat):Int),-((3:Nat):Int),false⟩,0):=by
  rw[vL ai ai,List.foldl_cons,List.foldl_nil,Fc,<-d6]
 obtain⟨p3,x3,s3,g3,e3,v3,l3⟩:=xz (dur:=O) (now:=E) (pend:=[]) (k:=3) ai ai (aW n) (λhk=>by rw[List.foldl_nil,<-d8];exact hk);rw[List.foldl_nil] at e3;obtain⟨p4,x4,s4,g4,e4,v4,l4⟩:=xz (dur:=O) (now:=BW E (aW n)) (pend:=p3) (k:=4) ai ai (bw n) (λhk=>by
  rw[e3,ml kD];rw[ml kN] at hk;rw[<-d8];exact hk)
 rw[e3] at e4;have s5:(⟨O,BW (BW E (aW n)) (bw n),p4,-((5:Nat):Int),-((5:Nat):Int),false⟩:Dsk).sync=(⟨[(aW (n+1),X)],[(aW (n+1),X)],[],-((6:Nat):Int),-((6:Nat):Int),false⟩,0):=by
  rw[vL ai ai,e4,f1,f2]
 have a1:(⟨dur,now,[],-1,-1,false⟩:Dsk).anewAt n X 1=⟨dur,E,[⟨1,aW (n+1),X⟩],-((2:Nat):Int),-((2:Nat):Int),false⟩:=by
  show((⟨dur,now,[],-1,-1,false⟩:Dsk).tell ⟨1,aW (n+1),X⟩).1=_;rw[s1]
 have a2:(⟨dur,now,[],-1,-1,false⟩:Dsk).anewAt n X 2=⟨O,E,[],-((3:Nat):Int),-((3:Nat):Int),false⟩:=by
  show((⟨dur,now,[],-1,-1,false⟩:Dsk).tell ⟨1,aW (n+1),X⟩).1.sync.1=_;rw[s1,s2]
 have a3:(⟨dur,now,[],-1,-1,false⟩:Dsk).anewAt n X 3=⟨O,BW E (aW n),p3,-((4:Nat):Int),-((4:Nat):Int),false⟩:=by
  show(((⟨dur,now,[],-1,-1,false⟩:Dsk).tell ⟨1,aW (n+1),X⟩).1.sync.1.tell ⟨3,aW n,⟨#[]⟩⟩).1=_;rw[s1,s2,s3]
 have a4:(⟨dur,now,[],-1,-1,false⟩:Dsk).anewAt n X 4=⟨O,BW (BW E (aW n)) (bw n),p4,-((5:Nat):Int),-((5:Nat):Int),false⟩:=by
  show((((⟨dur,now,[],-1,-1,false⟩:Dsk).tell ⟨1,aW (n+1),X⟩).1.sync.1.tell ⟨3,aW n,⟨#[]⟩⟩).1.tell ⟨3,bw n,⟨#[]⟩⟩).1=_;rw[s1,s2,s3,s4]
 have a5:∀k,(⟨dur,now,[],-1,-1,false⟩:Dsk).anewAt n X (k+5)=⟨[(aW (n+1),X)],[(aW (n+1),X)],[],-((6:Nat):Int),-((6:Nat):Int),false⟩:=λk=>by
  show((((⟨dur,now,[],-1,-1,false⟩:Dsk).tell ⟨1,aW (n+1),X⟩).1.sync.1.tell ⟨3,aW n,⟨#[]⟩⟩).1.tell ⟨3,bw n,⟨#[]⟩⟩).1.sync.1=_;rw[s1,s2,s3,s4,s5]
 refine⟨⟨by rw[s1],by rw[a1,s2],by rw[a2,s3];exact g3,by rw[a3,s4];exact g4,by rw[a4,s5],λk=>?_⟩,a5 0⟩;have w1:=Cb E (aW n);have w2:=Cb (BW E (aW n)) (bw n)
 match k with
 | 0=>
  show vol now<=_/\vol dur+0<=_/\0<=_;omega
 | 1=>
  rw[a1];have:fR [⟨1,aW (n+1),X⟩]=X.size:=by simp[fR]
  simp only[this,List.length_cons,List.length_nil];omega
 | 2=>
  rw[a2];show vol E<=_/\vol O+0<=_/\0<=_;omega
 | 3=>
  rw[a3];have:fR ([]:List DOp)=0:=rfl;simp only[List.length_nil] at l3;simp only;omega
 | 4=>
  rw[a4];have:fR ([]:List DOp)=0:=rfl;simp only[List.length_nil] at l3;simp only;omega
 | k+5=>
  rw[a5];have:vol [(aW (n+1),X)]=X.size:=by simp[vol]
  have:fR ([]:List DOp)=0:=rfl;simp only[List.length_nil];omega
theorem xa (n:Nat) (S:En) (k:Nat):(ka n S k).rested=ka n S 1:=rfl
end
end FK

namespace Go.Y
open Go.Proofs Go.RowKit Go.SL
variable {G:Env->Prop}
def FPost (d:Nat) (σ:FK.Dsk) (n:Nat) (U:FK.En) (v:Value) (m:List HP):Prop:=
 ∃E x u mm,FK.vX σ n E x/\v=.tuple #[u,dO x]/\m=ar d E::mm/\(x≠0->u=.pointer none/\mm=[])/\(x=0->∃f e j p,u=aX f/\mm=[dT f e j,aG e p U,aM j d ⟨n,false,0⟩])
theorem zk {d n:Nat} {σ:FK.Dsk} {U:FK.En} (hJ:∀O f e p,eh 54 [mK d,xq O,rB f] (ar d σ::It O f e p FK.En.fresh) (Fi d O f σ n false U)) :
 eh 30 [mK d] [ar d σ] (FPost d σ n U):=by
 refine bz Tryz.func30 Z λE fr hE=>ae<|sS<|sA Z<|sB Z<|sS ?_
 refine ch Z wj aN ?_;rintro v m ⟨e,p,rfl,rfl⟩;refine ae<|sP (bT (ps:=[(0,.tmp 8)]) (vs:=[aX e]) (cs:=#[aX e,.pointer none]) Z Z Z Z Z)<|sO (cL Z Z λI=>(sO (cX (z:=.pointer none) Z λO=>?_)))
 refine bK Z Z Z Z ii ?_;refine aD O #[aX I] rfl<|aD I #[aX e,.pointer none] rfl ?_
 refine al (l':=ar d σ::blk O 67 #[aX I]::i7 I e (.pointer none)::aG e p FK.En.fresh::fr) ap ?_;refine sN<|bg Z ?_
 refine sP (ew Z Z) ?_;refine aE Z Z Z Z ?_;refine sP (ew Z Z) ?_;refine ch Z (hJ O I e p) aN ?_;rintro v m ⟨T,x,u,mm,ho,rfl,rfl,d7,d6⟩;refine sM Z<|bG Z Z<|bG Z Z<|sA Z<|sB Z<|sQ<|sQ ?_
 by_cases HX:x=0
 ·
  obtain⟨j,K,Y,rfl,rfl⟩:=d6 HX;subst HX;refine al (l':=blk O 67 #[aX I]::i7 I K (.pointer none)::aG K Y U::aM j d ⟨n,false,0⟩::ar d T::fr) (by show Ent (ar d T::aM j d ⟨n,false,0⟩::blk O 67 #[aX I]::i7 I K (.pointer none)::aG K Y U::fr) _;exact ap) ?_;refine sG<|cG Z (cS Z Z)<|sN<|ak Z<|ah<|sT<|sS<|aE Z Z Z Z<|dS 1 Z Z<|bK Z Z Z Z (by show 1<2;decide) ?_
  refine aD I #[aX K,aX j] rfl ?_;refine al (l':=aM j d ⟨n,false,0⟩::dT I K j::ar d T::aG K Y U::blk O 67 #[aX I]::fr) ap ?_;refine sN<|sQ<|bg Z ?_
  refine bV Z uE aN ?_;refine ae<|sN<|ak Z<|ah<|sT<|sS<|aE Z Z Z Z<|sA Z<|sB Z<|an ?_
  refine db (ar d T::[dT I K j,aG K Y U,aM j d ⟨n,false,0⟩]) Z Z Z ⟨T,0,_,_,ho,rfl,rfl,λh=>absurd Z h,λ_=>⟨I,K,j,Y,rfl,rfl⟩⟩ ?_;show Ent _ (ar d T::dT I K j::aG K Y U::aM j d ⟨n,false,0⟩::fr);exact ap
 ·
  obtain⟨rfl,rfl⟩:=d7 HX;refine al (l':=ar d T::fr) aN ?_;refine sG<|cG Z (fj Z (by rw[wx HX];rfl))<|sN<|aO Z<|bg Z<|sA Z<|sB Z<|an<|aH ?_
  exact db [ar d T] rfl Z Z ⟨T,x,_,[],ho,rfl,rfl,λ_=>⟨rfl,rfl⟩,λh=>absurd h HX⟩ aN
end Go.Y

namespace FK
def rF (n:Nat) (B:En):En:=if n=0 then En.fresh else B.rd
theorem KB.quietE {n:Nat} {B:En} {l:List (List UInt8)} {σ:Dsk} (h:KB n B l σ):σ=⟨σ.dur,σ.now,[],-1,-1,false⟩:=by
 obtain⟨dur,now,pend,left,full,down⟩:=σ;obtain⟨⟨E,I,K,O⟩,_⟩:=h;simp only at E I K O;subst E;subst I;subst K;subst O
 rfl
theorem KB.opened {n:Nat} {B:En} {l:List (List UInt8)} {σ I:Dsk} {x:Int} (h:KB n B l σ) (E:vX σ n I x):x=0/\I.down=false/\I.rested=σ:=by
 have e:=h.quietE;have K:=h.now
 revert E K
 rw[e];intro E K;have s1:(⟨σ.dur,σ.now,[],-1,-1,false⟩:Dsk).sync=(⟨σ.dur,σ.now,[],-((2:Nat):Int),-((2:Nat):Int),false⟩,0):=vL (k:=1) (cm _) ai;have Y:(⟨σ.dur,σ.now,[],-((2:Nat):Int),-((2:Nat):Int),false⟩:Dsk).sync=(⟨σ.dur,σ.now,[],-((3:Nat):Int),-((3:Nat):Int),false⟩,0):=vL (k:=2) ai ai;unfold vX at E;rw[s1] at E;rcases E with⟨O,_⟩|⟨_,ns,T,rfl,rfl⟩
 · exact absurd rfl O
 · unfold Dsk.opened
   rw[K.rms T,if_neg cP,Y];exact⟨rfl,rfl,rfl⟩
structure Smal (B:En) (l:List (List UInt8)):Prop where
 base:(frame (iX B)).length<=1000000000
 log:(frames l).length<=1000000000
 svd:Svd B
 due:∀x∈B.tms,B.now<=x.2
theorem KB.vols {n:Nat} {B:En} {l:List (List UInt8)} {σ:Dsk} (h:KB n B l σ) (E:Smal B l):vol σ.now<=4000000000/\vol σ.dur<=4000000000:=by
 have I:=h.now.vol;have K:=h.dur.vol;have h3:=E.base;have O:=E.log;constructor<;>omega
end FK
namespace Go.Y
open Go.Proofs
open Go Go.RowKit Go.SL
variable {G:Env->Prop}
section
variable {l:List (List UInt8)} {B U:FK.En} {σ:FK.Dsk} {d n:Nat} {fp:Option Addr}
theorem Lj (B:FK.En):FK.iX B≠[]:=λh=>by
 unfold FK.iX FK.cQ FK.jS at h;simp only[List.flatMap_cons,List.append_assoc] at h;have E:=FK.x9 B.now;rw[(List.append_eq_nil_iff.1 h).1] at E;exact absurd E di
theorem ED (E:FK.Smal B l):(FK.iX B).length<=1000000000:=by
 have I:=E.base;have K:(FK.iX B).length<=(FK.frame (FK.iX B)).length:=by
  unfold FK.frame;simp only[List.length_append];omega
 omega
theorem zB {ke pa:Int} (E:FK.KB n B l σ) (T:i64 pa):dZ G 29 [aX d,.int .i64 ke,.int .i64 pa] [ar d σ] λv m=>v=.tuple #[]/\∃K,FK.KB n B l K/\m=[ar d K]:=by
 refine(BL E.quiet.pend E.dur.nd T).mono ?_;rintro v m ⟨rfl,I,O,rfl⟩;refine⟨_,⟨rfl,⟨σ.dur,I,[],-1,-1,false⟩,⟨⟨rfl,rfl,rfl,rfl⟩,E.dur.perm O.symm,E.dur,λs=>?_⟩,rfl⟩,aN⟩;exact FK.pS E.dur.nd O.symm s
theorem qA {h:Nat} {ke pa:Int} (O:FK.KB n B l σ) (T:i64 pa):dZ G 13 [aX h,.int .i64 ke,.int .i64 pa] [eN h d fp,ar d σ] λv m=>v=.tuple #[]/\∃I,FK.KB n B l I/\m=[eN h d none,ar d I]:=by
 refine bz Tryz.func13 Z λE fr Y=>az<|sS<|dS 1 Z Z ?_
 refine bK Z Z Z Z ii ?_;refine aD h #[aX d,.pointer none] rfl<|sN<|sG<|dS 0 Z Z<|aE Z Z Z Z<|sM Z<|sM Z ?_
 refine ch Z (zB O T) gfE1 ?_;rintro v m ⟨rfl,I,K,rfl⟩;refine ae<|aq<|bm [eN h d none,ar d I] rfl ⟨rfl,I,K,rfl⟩ ?_
 show Ent _ (eN h d none::ar d I::fr);exact ap
theorem y3 {K f e:Nat} {p:EA} (O:n<400) (E:FK.KB n B l σ) (I:FK.Smal B l) (hR:FK.Reds (FK.rF n B) l U) :
 eh 54 [mK d,xq K,rB f] (ar d σ::It K f e p FK.En.fresh) (Fi d K f σ n false U):=by
 obtain⟨h1,h2⟩:=E.vols I;have h3:=E.quiet.pend;have h4:=ED I;refine yZ (found:=if n=0 then none else some (FK.iX B)) (l:=l) (S0:=FK.rF n B) ai (by rw[h3];show _+0<=_;omega) (by rw[h3];simp) (by have:=E.now.len;omega) (λs I=>?_) (λns hp=>E.now.scan O ai hp) ?_ hR (λh=>?_) (λx h=>?_) λx h pb A c T hc=>?_
 · rcases E.now.nm s I with rfl|rfl
   · exact FK.yT O
   · exact FK.Ba O
 · rw[E.now.log]
   have:=FK.Parse.frames .nil (l:=l) λx hx=>by have:=hR.lens x hx;omega
   simpa using this
 · unfold FK.rF
   split at h
   · rename_i Y;rw[if_pos Y]
   · cases h
 · split at h
   · cases h
   · injection h with h
     rw[<-h];exact Lj B
 · split at h
   · cases h
   · rename_i Y
     injection h with h;subst h;unfold FK.rF;rw[if_neg Y];exact EN I.svd I.due T hc
theorem qz {h:Nat} (hn:n<400) (K:FK.KB n B l σ) (hs:FK.Smal B l) (hR:FK.Reds (FK.rF n B) l U) :
 eh 14 [aX h,gD] [eN h d fp,ar d σ] λv m=>v=.int .i64 0/\∃f e j p,m=cd h f e j d p U ⟨n,false,0⟩ σ:=by
 refine bz Tryz.func14 Z λE fr hE=>az<|sS<|sO (cL Z Z λb3=>(sB Z (sS (sM Z (cE (bR (vs:=cg (-1) (-1) 0 0) Z) (aR Z) ?_)))))
 refine bV Z (eO (-1) (-1) 0 0) (aY bM bM) ?_;refine az ?_;rw[quietE K.quiet];refine al (l':=eN h d fp::ar d σ::blk b3 49 (cg (-1) (-1) 0 0).toArray::fr) (by show Ent (_::_::blk b3 49 (cg (-1) (-1) 0 0).toArray::_) _;exact ap) ?_;refine sN<|sS<|dS 0 Z Z<|aE Z Z Z Z<|sP (ed Z Z Z) ?_
 refine ch Z (zk λ_ _ _ _=>y3 hn K hs hR) gfE1 ?_;rintro v m ⟨O,x,u,mm,ho,rfl,rfl,d6,I⟩;obtain⟨rfl,T,Y⟩:=K.opened ho;obtain⟨f,e,j,p,rfl,rfl⟩:=I rfl;refine al (l':=eN h d fp::ar d O::dT f e j::aG e p U::aM j d ⟨n,false,0⟩::blk b3 49 (cg (-1) (-1) 0 0).toArray::fr) (by show Ent (ar d O::dT f e j::aG e p U::aM j d ⟨n,false,0⟩::eN h d fp::blk b3 49 (cg (-1) (-1) 0 0).toArray::fr) _;exact ap) ?_;refine sM Z<|bG Z Z<|bG Z Z<|sA Z<|sB Z<|bg Z<|dS 1 Z Z ?_
 refine bK Z Z Z Z ii ?_;refine aD h #[aX d,aX f] rfl<|sN<|sQ<|bg Z<|sP (cS Z Z)<|sN<|ak Z<|ah<|sT<|bg Z<|cE (bR (vs:=cg (-1) (-1) 0 0) Z) (aR Z) ?_
 refine bV Z (fh (σ:=O) (-1) (-1) 0 0 T) aN ?_;refine az ?_;rw[Y];refine sN<|bg Z ?_
 refine bV Z iU aN ?_;refine aB<|sB Z<|an<|aw (cd h f e j d p U ⟨n,false,0⟩ σ) Z Z ⟨rfl,f,e,j,p,rfl⟩ ?_
 show Ent _ (bN h d f::dT f e j::aG e p U::aM j d ⟨n,false,0⟩::ar d σ::fr);exact ap
end
end Go.Y

namespace Go.Y
open Go.Proofs Go.RowKit Go.SL
section
variable {l:List (List UInt8)} {σ:FK.Dsk} {B S:FK.En}
theorem Bx {f e j d n:Nat} {p:EA} (hn:n+1<400) (hk:FK.KB n B l σ) (hs:FK.Smal B l) (hS:FK.Svd S) (hX:(FK.frame (FK.iX S)).length<=1000000000) :
 eh 27 [aX f] (dg f e j d p S ⟨n,false,0⟩ σ) λv m=>v=.nilIface/\m=dg f e j d p S ⟨n+1,false,0⟩ (FK.ka (n+1) S 6):=by
 obtain⟨h1,h2⟩:=hk.vols hs;obtain⟨I,K⟩:=hk.anew hn ai ai hX;have d7:(FK.iX S).length<=1000000000:=by
  have:(FK.iX S).length<=(FK.frame (FK.iX S)).length:=by
   unfold FK.frame;simp only[List.length_append];omega
  omega
 refine bz Tryz.func27 Z λE fr hE=>cc<|sS<|sB Z<|sQ<|sZ Z<|eI Z Z<|dv 1 Z Z Z<|bZ Z (aF Z) (ag Z)<|cJ Z Z<|dv 0 Z Z Z<|bZ Z (aF Z) (ag Z) ?_
 refine cK 8 Z<|cF Z (zz hS) gfE1 ?_
 rintro v m rfl;refine az<|aI bM ?_
 rintro A c rfl Y d6-hc -
 obtain⟨O,T⟩:=jL Y d6;refine dK [false,true] (aa (ag Z) ab) ?_;refine cK 9 Z<|cF Z (EP (t:=false) ai O T d7 I) (by show Ent (aG e p S::bP (.slice A (FK.iX S).length c) (FK.iX S)::dT f e j::aM j d ⟨n,false,0⟩::ar d σ::fr) (aM j d ⟨n,false,0⟩::ar d σ::bP (.slice A (FK.iX S).length c) (FK.iX S)::aG e p S::dT f e j::fr);exact ap) ?_
 rintro v m ⟨rfl,rfl⟩;refine dK [false] ab<|dr 10 Z (aQ Z)<|dE<|sT<|an<|aw (dg f e j d p S ⟨n+1,false,0⟩ (FK.ka (n+1) S 6)) Z Z ⟨rfl,rfl⟩ ?_
 rw[K];show Ent (aM j d ⟨n+1,false,0⟩::ar d (FK.ka (n+1) S 6)::bP (.slice A (FK.iX S).length c) (FK.iX S)::aG e p S::dT f e j::fr) (dT f e j::aG e p S::aM j d ⟨n+1,false,0⟩::ar d (FK.ka (n+1) S 6)::fr);exact ap
theorem Bl {h f e j d n:Nat} {p:EA} (K:n+1<400) (I:FK.KB n B l σ) (O:FK.Smal B l) (T:FK.Svd S) (Y:(FK.frame (FK.iX S)).length<=1000000000) :
 eh 10 [aX h,gD] (cd h f e j d p S ⟨n,false,0⟩ σ) λv m=>v=.int .i64 0/\m=cd h f e j d p S ⟨n+1,false,0⟩ (FK.ka (n+1) S 1):=by
 refine bz Tryz.func10 Z λE fr hE=>bH<|sS<|sO (cL Z Z λb3=>(sB Z (sQ (sS (sM Z (dA Z (bX 1 Z (aE Z Z Z Z (sP (ez Z Z Z) (sN (ak Z (ah (sT ?_)))))))))))))
 refine bg Z<|cE (bR (vs:=cg (-1) (-1) 0 0) Z) (aR Z) ?_
 refine bV Z (eO (-1) (-1) 0 0) (aY bM lp) ?_;refine az ?_;rw[quietE I.quiet];refine al (l':=dT f e j::aG e p S::aM j d ⟨n,false,0⟩::ar d σ::bN h d f::blk b3 49 (cg (-1) (-1) 0 0).toArray::fr) (by show Ent (_::_::blk b3 49 (cg (-1) (-1) 0 0).toArray::_) _;exact ap) ?_;refine sN<|sS<|dS 1 Z Z<|aE Z Z Z Z ?_
 refine bV Z (Bx K I O T Y) aN ?_;refine cc ?_;refine al (l':=bN h d f::ar d (FK.ka (n+1) S 6)::dT f e j::aG e p S::aM j d ⟨n+1,false,0⟩::blk b3 49 (cg (-1) (-1) 0 0).toArray::fr) ap ?_;refine sB Z<|bg Z<|cE (bR (vs:=cg (-1) (-1) 0 0) Z) (aR Z) ?_
 refine bV Z (fh (-1) (-1) 0 0 Z) aN ?_;refine az<|sN<|bg Z ?_
 refine bV Z iU aN ?_;refine aB<|sB Z<|an<|aw (cd h f e j d p S ⟨n+1,false,0⟩ (FK.ka (n+1) S 1)) Z Z ⟨rfl,rfl⟩ ?_
 rw[<-FK.xa (n+1) S 6];show Ent _ (bN h d f::dT f e j::aG e p S::aM j d ⟨n+1,false,0⟩::ar d (FK.ka (n+1) S 6).rested::fr);exact ap
end
end Go.Y

namespace Go.Y
open Go.Proofs Go.RowKit Go.SL
variable {G:Env->Prop}
theorem Names.one {P:List (Nat×ByteArray)} {M:List (ByteArray×Nat)} {a s:ByteArray} (h:Names P M [(a,s)]):∃b,M=[(a,b)]/\(b,s)∈P:=by
 cases h with
 | cons h t=>
  cases t;exact⟨_,rfl,h⟩
theorem Bm {h d:Nat} {I:Option Addr} {a s:ByteArray} {now:FK.jZ} {pend:List FK.DOp} {left full:Int} {down:Bool} (hl:a.size+s.size<=1000000000000) :
 dZ G 12 [aX h] [eN h d I,ar d ⟨[(a,s)],now,pend,left,full,down⟩] λv m=>v=.int .i64 ((a.size+s.size:Nat):Int)/\m=[eN h d I,ar d ⟨[(a,s)],now,pend,left,full,down⟩]:=by
 refine bz Tryz.func12 Z λE fr hE=>ae ?_;refine cN bM λq=>bl ?_;refine al (l':=mR d q ⟨[(a,s)],now,pend,left,full,down⟩ (eN h d I::fr)) aN ?_;refine cN bM λM=>bl ?_;refine al (l':=HP.pure (Names q.P M [(a,s)])::cA bY q.md (ek M)::blk d 88 (gR q ⟨[(a,s)],now,pend,left,full,down⟩)::bI q.mn q.P now::fd q.P::row 113 3 q.pv pend.length (ix pend)::eN h d I::fr) aN ?_;refine ec .head λhN=>?_;obtain⟨b,rfl,hP⟩:=hN.one;refine sS<|sB Z<|sS<|sB Z<|sQ<|sS<|dS 0 Z Z<|aE Z Z Z Z<|dA Z<|bX 0 Z<|aE Z Z Z Z ?_
 refine sO (l6 (b:=q.md) (m:=ek [(a,b)]) Z Z Z .head λT=>(sN (aj ?_)));refine aL (X:=List (ByteArray×Nat)×Option (ByteArray×Value)×Nat) (λx=>[(13,.pointer (some ⟨T,0,none⟩)),(3,.int .i64 (x.2.2:Int)),(0,aX h)]) (λx=>dC bY T q.md (ek [(a,b)]) (ek x.1) x.2.1::blk d 88 (gR q ⟨[(a,s)],now,pend,left,full,down⟩)::bI q.mn q.P now::fd q.P::row 113 3 q.pv pend.length (ix pend)::eN h d I::fr) (λx=>(x.1=[(a,b)]/\x.2.2=0)\/(x.1=[]/\x.2.2=a.size+s.size)) (λx=>x.1.length) ([(a,b)],none,0) (.inl ⟨rfl,rfl⟩) cf aN ?_;rintro⟨K,Y,k⟩ hx;refine al (l':=dC bY T q.md (ek [(a,b)]) (ek K) Y::blk d 88 (gR q ⟨[(a,s)],now,pend,left,full,down⟩)::bI q.mn q.P now::fd q.P::row 113 3 q.pv pend.length (ix pend)::eN h d I::fr) aN ?_;refine sQ ?_
 by_cases HL:K=[]
 ·
  subst HL;obtain rfl:k=a.size+s.size:=hx.elim (λh=>by cases h.1) λh=>h.2;refine sG ?_;refine sO<|jt Z Z .head (λ_=>?_) (λj q O=>by simp at O)
  refine bG Z Z<|sN<|sQ<|ak Z<|aK<|av<|au<|ao<|sT<|bg Z<|sB Z<|an<|aw [eN h d I,ar d ⟨[(a,s)],now,pend,left,full,down⟩] rfl Z ⟨rfl,rfl⟩ ?_
  refine Ent.trans (Ent.trans (Ent.ranged.trans (cW hN)) ?_) ((cO q ⟨[(a,s)],now,pend,left,full,down⟩ (r:=eN h d I::fr)).trans gfE1);show Ent _ (blk d 88 (gR q ⟨[(a,s)],now,pend,left,full,down⟩)::bI q.md q.P [(a,s)]::bI q.mn q.P now::fd q.P::row 113 3 q.pv pend.length (ix pend)::eN h d I::fr);exact ap
 ·
  obtain⟨rfl,rfl⟩:K=[(a,b)]/\k=0:=hx.elim id λh=>absurd h.1 HL;refine sG ?_;refine sO<|jt Z Z .head (λh=>absurd (List.map_eq_nil_iff.1 h) HL) λj q9 O=>?_
  obtain⟨rfl,rfl⟩:j=0/\q9=(a,aX b):=by
   have d6:j<1:=(gfGet.1 O).1;obtain rfl:j=0:=ai;injection O with O;exact⟨rfl,O.symm⟩
  refine bG Z Z<|sN<|sQ<|aO Z<|ah<|sT<|aj<|sS<|cE (lJ (p:=(a,aX b)) Z) (kX .head)<|bG Z Z<|bG Z Z<|sA Z<|sB Z<|sG<|sM Z<|sM Z ?_
  refine sP (CS Z Z)<|sM Z<|dA Z<|cE (aF (v:=bY s) Z) (sf hP gC)<|sP (CS Z Z)<|sP (aT (r:=((a.size+s.size:Nat):Int)) Z Z (by show IntKind.i64.wrap ((a.size:Int)+(s.size:Int))=_;rw[iI ai];omega))<|sP (aT (r:=((a.size+s.size:Nat):Int)) Z Z (by show IntKind.i64.wrap (((0:Nat):Int)+((a.size+s.size:Nat):Int))=_;rw[iI ai];omega))<|sA Z<|aq<|am ?_
  exact aC ([],some (a,aX b),a.size+s.size) (.inr ⟨rfl,rfl⟩) (by show 0<1;decide) cf aN
end Go.Y

namespace FK
open Go.Y (cC)
theorem Sec.len {F:Flow} {S:En} {R:Rn} (h:Sec F S R) (I:Svd S):(iX S).length<=3600:=by
 have h1:=fW (oY I);have h3:=kI (λp=>cQ (xh p)) 20 S.Lx λp hp=>fW (vO I hp).2;have h4:=kI (λx=>cQ (xf x)) 40 S.tms λx hx=>fW (vU I hx).2;obtain⟨_,_,_,_,d6,hF⟩:=mU I h.lone.get;rw[h.lone.fl] at hF;have K:=(h.lone.ok.run _ _ h.lone.get).len;rw[h.lone.fl] at K;have h6:=h.qLe;have h7:=h.tLe;have h8:=fW (l:=[S.Lx.length]) (by intro n K;simp only[List.mem_cons,List.not_mem_nil,or_false] at K;omega);have h9:=fW (l:=[S.tms.length]) (by intro n K;simp only[List.mem_cons,List.not_mem_nil,or_false] at K;omega);have h2:(kW S.runs).length<=2200:=by
  have hk:=h.keys;have T:∀(X:List (Nat×Rn)),X.map (·.1)=[1,2]->∃A C,X=[(1,A),(2,C)]:=λX E=>by
   match X,E with
   | [],E=>cases E
   | [_],E=>simp at E
   | [(a1,A),(b1,C)],E=>
    simp only[List.map_cons,List.map_nil,List.cons.injEq,and_true] at E;obtain⟨rfl,rfl⟩:=E;exact⟨A,C,rfl⟩
   | _::_::_::_,E=>simp at E
  obtain⟨A,C,O⟩:=T _ hk;have Y:S.getR 1=some A:=oT h.lone.ok.ids (by rw[O];simp);have hC:S.getR 2=some C:=oT h.lone.ok.ids (by rw[O];simp);have e1:=wb I Y;have e2:=wb I hC;obtain⟨_,_,_,_,e3,_⟩:=mU I Y;have e5:=h.one A Y;have e6:C=R:=by have:=h.lone.get;rw[hC] at this;injection this
  have e7:=(h.lone.ok.run _ _ hC).len;have e8:(bo flow2).length<=400:=by decide +kernel
  rw[e5] at e1;rw[e6,h.lone.fl] at e7 e2;rw[O];simp only[kW,List.flatMap_cons,List.flatMap_nil,List.length_append,List.length_nil];rw[e6];omega
 unfold iX;simp only[List.length_append,List.length_cons,List.length_nil,jS] at h1 h8 h9 ⊢;omega
theorem Mv.few {k i:Nat} {S U:En} {R R':Rn} {I:List KD} (E:Mv 2 k S U R R' I) (h:Few i S):Few (i+1) U:=by
 have O:=E.sets;have T:=h.sets;have Y:=E.ends;have b2:=h.ends;have a3:=E.Ls;have b3:=h.tok;have K:=h.run;have b5:=h.now;exact⟨ai,ai,ai,by rw[E.Lt];exact K,by rw[E.now];omega⟩
theorem Sec.fresh:Svd En.fresh:=⟨Ok.fresh,List.Pairwise.nil,by decide,by decide,by decide,λx E=>by cases E⟩
structure CpSt (F:Flow) (n:Nat) (B:En) (l:List (List UInt8)) (S:En) (R:Rn) (rds:List Nat) (ts:List Hd) (σ:Dsk) (i:Nat):Prop where
 sec:Sec F S R
 seen:Seen 2 F S R (λk=>rds.getD k 0) ts
 rl:rds.length=F.Lw.length
 kb:KB n B l σ
 svd:Svd B
 due:∀x∈B.tms,B.now<=x.2
 base:(frame (iX B)).length<=1000000
 reds:Reds (rF n B) l S
 len:(frames l).length<=3000+40*i
 few:Few i S
section
variable {F:Flow} {n:Nat} {B:En} {l:List (List UInt8)} {S:En} {R:Rn} {rds:List Nat} {ts:List Hd} {σ:Dsk} {i:Nat}
theorem CpSt.smal (h:CpSt F n B l S R rds ts σ i) (hi:i<=1000):Smal B l:=⟨by have:=h.base;omega,by have:=h.len;omega,h.svd,h.due⟩
theorem CpSt.fine (h:CpSt F n B l S R rds ts σ i) (hi:i<=1000):Fine S:=h.few.fine h.sec.lone.ok ai
theorem CpSt.Svd (h:CpSt F n B l S R rds ts σ i) (hi:i<=1000):Svd S:=h.sec.svd (by have:=h.few.ends;omega) (by have:=h.few.tok;omega) (by have:=h.few.run;omega)
theorem CpSt.next (h:CpSt F n B l S R rds ts σ i):CpSt F n B l S R rds ts σ (i+1):=⟨h.sec,h.seen,h.rl,h.kb,h.svd,h.due,h.base,h.reds,by have:=h.len;omega,h.few.mono (Nat.le_succ _)⟩
theorem CpSt.lost (h:CpSt F n B l S R rds ts σ i) {E:Dsk} (k:KB n B l E):CpSt F n B l S R rds ts E i:=⟨h.sec,h.seen,h.rl,k,h.svd,h.due,h.base,h.reds,h.len,h.few⟩
theorem CpSt.note (h:CpSt F n B l S R rds ts σ i) (hi:i<=1000) (K:n<400) {op t:Nat} {U:En} {R':Rn} {E:List Nat} {ts':List Hd} (O:E.length=rds.length) (T:t<18446744073709551616) (Y:Redo S (bW op t) U) (I:Seen 2 F U R' (λk=>E.getD k 0) ts') (hk:Kp S U) (hf:Few (i+1) U) :
 CpSt F n B (l++[bW op t]) U R' E ts' (cC σ ⟨n,false,0⟩ op t) (i+1):=by
 have h1:=vu (op:=op) T;have h2:=Go.Y.il (bW op t) ai;refine⟨h.sec.kp I.lone hk,I,O.trans h.rl,h.kb.logs K _,h.svd,h.due,h.base,h.reds.snoc (h.fine hi) ai Y,?_,hf⟩;have:=h.len;rw[lh,List.length_append];omega
theorem CpSt.poll (h:CpSt F n B l S R rds ts σ i) (hi:i<=1000) (E:n<400) {k:Nat} {q:List Pl} {s:Sp} {nd:Node} (I:S.Lx=⟨2,(k:Int),0⟩::q) (K:R.Lv[k]?=some s) (T:s.state=2) (O:R.fl.Lw[k]?=some nd) :
 CpSt F n B (l++[bW 2 0]) (S.hand ⟨2,(k:Int),0⟩ q R s nd) (R.setS k ⟨3,s.Lu+1,S.Ls+1⟩) rds (ts++[⟨k,s.Lu+1,S.Ls+1⟩]) (cC σ ⟨n,false,0⟩ 2 0) (i+1):=by
 obtain⟨Y,-⟩:=h.seen.poll I K T O;exact h.note hi E rfl di (Redo.poll I h.sec.lone.get K O) Y (Jo h.sec.lone.get) ((h.sec.lone.ok.hand_mv I h.sec.lone.get K O h.sec.lone.hon).few h.few)
theorem CpSt.complete (h:CpSt F n B l S R rds ts σ i) (hi:i<=1000) (I:n<400) {t k:Nat} {s:Sp} (E:t<18446744073709551616) (K:(S.Ly.find? (·.1==t)).map (·.2)=some ⟨2,(k:Int),0⟩) (O:R.Lv[k]?=some s) (h3:s.state=3) :
 ∃R',CpSt F n B (l++[bW 4 t]) (S.complete t) R' rds ts (cC σ ⟨n,false,0⟩ 4 t) (i+1):=by
 obtain⟨R',T,-⟩:=h.seen.complete K O h3;obtain⟨R2,Y,-⟩:=h.sec.lone.ok.complete_mv K h.sec.lone.get O h3 h.sec.lone.hon;exact⟨R',h.note hi I rfl E (Redo.complete E K) T (yY S t) (Y.few h.few)⟩
theorem CpSt.fail (h:CpSt F n B l S R rds ts σ i) (hi:i<=1000) (T:n<400) {t k:Nat} {s:Sp} (E:t<18446744073709551616) (Y:(S.Ly.find? (·.1==t)).map (·.2)=some ⟨2,(k:Int),0⟩) (hs:R.Lv[k]?=some s) (h3:s.state=3) {nd:Node} (hn:F.Lw[k]?=some nd) :
 ∃R',CpSt F n B (l++[bW 5 t]) (S.fail t) R' (rds.set k (S.now+(fk nd.base nd.cap nd.LA s.Lu 0).toNat)) ts (cC σ ⟨n,false,0⟩ 5 t) (i+1):=by
 have O:=h.sec.lone;have I:R.fl.Lw[k]?=some nd:=by rw[O.fl];exact hn
 have K:=((O.ok.run 2 R O.get).fl.Lw k nd (cB I) I).1;obtain⟨d9,f7⟩:=s9 nd K s.Lu;obtain⟨_,_,_,_,_,⟨_,hc⟩,_⟩:=K;have t6:=h.few.now;have d6:k<rds.length:=by rw[h.rl];exact cB hn
 obtain⟨R',h1,-⟩:=h.seen.fail (rd':=λj=>(rds.set k (S.now+(fk nd.base nd.cap nd.LA s.Lu 0).toNat)).getD j 0) Y hs h3 hn ai (λj hj=>by
  show(rds.set k _).getD j 0=rds.getD j 0;rw[List.getD_eq_getElem?_getD,List.getD_eq_getElem?_getD,List.getElem?_set_ne (Ne.symm hj)]) (by
  show(rds.set k _).getD k 0=_;rw[List.getD_eq_getElem?_getD,List.getElem?_set_self d6]
  rfl)
 obtain⟨R2,s2,n2,f8,f9,d7,d8,mt,hm,-⟩:=O.failed hs h3;rw[<-oJ Y] at hm;exact⟨R',h.note hi T (by rw[List.length_set]) E (Redo.fail E Y) h1 (Jp S t) (hm.few h.few)⟩
theorem CpSt.beat (h:CpSt F n B l S R rds ts σ i) (hi:i<=1000) (I:n<400) {t k:Nat} {s:Sp} (E:t<18446744073709551616) (O:(S.Ly.find? (·.1==t)).map (·.2)=some ⟨2,(k:Int),0⟩) (K:R.Lv[k]?=some s) (h3:s.state=3) {nd:Node} (T:R.fl.Lw[k]?=some nd) :
 CpSt F n B (l++[bW 3 t]) (S.life ⟨2,(k:Int),0⟩ nd) R rds ts (cC σ ⟨n,false,0⟩ 3 t) (i+1):=
 h.note hi I rfl E (Redo.beat E O h.sec.lone.get T) (h.seen.beat (wh:=0) (n:=nd) K h3) (CB S _ _) ((tO (wh:=0) nd h.sec.lone.get K h.sec.lone.hon).few h.few)
theorem CpSt.tick (h:CpSt F n B l S R rds ts σ i) (hi:i<=1000) (I:n<400) {t:Nat} (ht:t<=100) {U:En} (E:Ticks (S.later t) S U) :
 ∃R',CpSt F n B (l++[bW 7 t]) U R' rds ts (cC σ ⟨n,false,0⟩ 7 t) (i+1):=by
 obtain⟨R',O,h2,h3,-⟩:=h.seen.tick E;obtain⟨b1,b2,b3,T⟩:=E.bound h.sec.lone.ok;have K:=h.sec.lone.ok.massLe;have Y:=G6 S t;have f1:=h.few.sets;have f2:=h.few.ends;have f3:=h.few.tok;have f4:=h.few.now;exact⟨R',h.note hi I rfl ai (Redo.tick ai E) O E.kp ⟨ai,ai,ai,by rw[T];exact h.few.run,by rw[h3];omega⟩⟩
theorem IV {E:Nat->Nat} (h:Seen 2 F S R E ts):Seen 2 F S.rd R E ts:=⟨h.lone.rd,h.rdy,⟨h.tsk.nd,h.tsk.low,h.tsk.at_,h.tsk.inj,h.tsk.work⟩⟩
theorem CpSt.anew (h:CpSt F n B l S R rds ts σ i) (hi:i<=1000) (K:n+1<400):(frame (iX S)).length<=3700/\CpSt F (n+1) S [] S.rd R rds ts (ka (n+1) S 1) i:=by
 have I:=h.Svd hi;have O:=h.sec.len I;have T:=Go.Y.il (iX S) ai;refine⟨ai,h.sec.rd,IV h.seen,h.rl,Ic K (Nat.succ_ne_zero n),I,h.sec.lone.due,ai,?_,Nat.zero_le _,⟨?_,h.few.ends,h.few.tok,h.few.run,h.few.now⟩⟩
 · unfold rF
   rw[if_neg (Nat.succ_ne_zero n)];exact .nil
 · show S.tms.length<=_
   have:=h.sec.tLe;have E:=(h.sec.lone.ok.run _ _ h.sec.lone.get).fl.head.2.2;rw[h.sec.lone.fl] at E;omega
end
end FK
namespace Go.Y
open Go.Proofs
open Go Go.RowKit Go.SL
section
variable {k:Nat} {R:FK.Rn} {s:FK.Sp}
theorem jj {x a b c d e:HP} {r:List HP}:Ent (x::a::b::c::d::e::r) ([a,b,c,d,e]++(x::r)):=by
 show Ent _ (a::b::c::d::e::x::r);exact ap
theorem CU {a b c:List HP}:Ent (a++(b++c)) (b++(a++c)):=by
 refine Ent.perm ?_;rw[<-List.append_assoc,<-List.append_assoc];exact List.perm_append_comm.append_right c
theorem vM (h:R.Lv[k]?=some s):(bx (R.Lv.map (·.state)))[0+k*1]?=some (.int .i64 s.state):=by
 simp[bx,h]
theorem Fs (h:R.Lv[k]?=some s):(bx (R.Lv.map (·.Lu)))[0+k*1]?=some (.int .i64 s.Lu):=by
 simp[bx,h]
theorem CF {l:List Int} {x:Int} (h:l[k]?=some x):(bx l)[0+k*1]?=some (.int .i64 x):=by
 simp[bx,h]
end
end Go.Y

namespace FK
structure HonSt (F:Flow) (l:List (List UInt8)) (S:En) (R:Rn) (rds:List Nat) (ts:List Hd) (i:Nat):Prop where
 seen:Seen 2 F S R (λk=>rds.getD k 0) ts
 lg:Lg (3000+40*i) l S
 few:Few i S
 len:rds.length=F.Lw.length
 tsl:ts.length<=i
section
variable {F:Flow} {l:List (List UInt8)} {S:En} {R:Rn} {rds:List Nat} {ts:List Hd} {i:Nat}
theorem HonSt.next (h:HonSt F l S R rds ts i):HonSt F l S R rds ts (i+1):=⟨h.seen,h.lg.mono ai,h.few.mono (Nat.le_succ _),h.len,by have:=h.tsl;omega⟩
end
end FK
namespace FK
theorem yp (n:Node) (h:ef n) (k:Int):n.base<=fk n.base n.cap n.LA k 0:=by
 obtain⟨_,_,_,_,⟨K,_⟩,⟨O,_⟩,⟨h3,_⟩⟩:=h;unfold fk;have E:(0:Int)%(n.LA+1)=0:=Int.zero_emod _;rw[E]
 split
 · omega
 · split
   · have I:(1:Int)<=2 ^ (k.toNat-1):=by
      have:=Nat.one_le_two_pow (n:=k.toNat-1)
      exact_mod_cast this
     have:n.base*1<=n.base*2 ^ (k.toNat-1):=Int.mul_le_mul_of_nonneg_left I ai;omega
   · omega
end FK
namespace Go.Y
open Go.Proofs
open Go Go.RowKit Go.SL
def bO:List FK.Hd->List Value
 | []=>[]
 | a::l=>bS 2 a.node a.tri a.tok++bO l
theorem ql:∀(l:List FK.Hd) (a:FK.Hd),bO (l++[a])=bO l++bS 2 a.node a.tri a.tok
 | [],a=>by simp[bO]
 | b::l,a=>by
  show bS 2 b.node b.tri b.tok++bO (l++[a])=_;rw[ql l a,<-List.append_assoc]
  rfl
theorem rW:∀{l:List FK.Hd} {k:Nat} {a:FK.Hd},l[k]?=some a->∀(j:Nat) (u:Value),(bS 2 a.node a.tri a.tok)[j]?=some u->(bO l)[k*4+j]?=some u
 | [],_,_,h,_,_,_=>by simp at h
 | b::l,0,a,h,j,u,hu=>by
  simp at h;subst h;show(bS 2 b.node b.tri b.tok++bO l)[0*4+j]?=_;have E:=(gfGet.1 hu).1;rw[List.getElem?_append_left (by simpa using E)];simpa using hu
 | b::l,k+1,a,h,j,u,hu=>by
  show(bS 2 b.node b.tri b.tok++bO l)[(k+1)*4+j]?=_;rw[List.getElem?_append_right (by simp;omega)];rw[show(k+1)*4+j-(bS 2 b.node b.tri b.tok).length=k*4+j by simp;omega];exact rW (by simpa using h) j u hu
theorem Jg {l:List Nat} {k:Nat} {x:Nat} (h:l[k]?=some x):(eD l)[0+k*1]?=some (aV x):=by
 simp[eD,h]
theorem GS {l:List Nat} {k:Nat} {x:Nat}:(eD l).set (0+k*1) (aV x)=eD (l.set k x):=by
 simp[eD,List.map_set]
end Go.Y
