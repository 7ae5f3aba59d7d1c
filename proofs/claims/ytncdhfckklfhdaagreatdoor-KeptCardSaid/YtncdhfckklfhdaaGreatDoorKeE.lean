/- The walk of flow.Order: the nodes, each behind those for which it waits. -/
import Derived.Test.YtncdhfckklfhdaaGreatDoorKeD
import Derived.ScopeJumps
import Derived.WalkMore
import Derived.Laws.MakeOwn
import Derived.Laws.BitsAllLaws
import Derived.LoopTactic
import Derived.Deep.OwnRows
import Derived.Deep.LoopGhost
import Derived.Maps.AppendAt
import Derived.OwnWalk
import Derived.Deep.RegionWith
import Derived.Deep.DeepCutAuto
import Derived.StillTailTactics
import Derived.Laws.Externs
import Derived.Stop.Asserts
import Derived.Recover
import Derived.Test.YtncdhfckklfhdaaGreatDoorKeA
import Derived.Laws.BitsLemmas
import Derived.WalkKit
import Derived.MapKept
import Derived.Laws.StructEq
import Derived.Maps.RangeRun
import Derived.LaidEql
set_option linter.defProp false
set_option maxHeartbeats 4000000
set_option maxRecDepth 100000
variable{ts:List (Nat×Go.Value)}{R:Go.Value->List Go.SL.HP->Prop}{Q:Go.Exit->Go.Act->Go.World->Prop}{D:List Go.Deferred}{x y:Go.Operand}{u u' v z:Go.Value}{g:Option (Nat×Bool)}{P:Go.Program}{K Kk:Go.Act->Go.World->Prop}{l r:List Go.SL.HP}{af:Array Go.Edge}{E:Go.SL.Env}{G:Go.SL.Env->Prop}{A:Option Go.Addr}{B b c i j m n o:Nat}{e kt s t ty:Go.TypeId}{vs xs:List Go.Value}{w w0:Go.World}{I cs:Array Go.Value}{ns:List FK.Node}{bs:List Nat}{k:Go.IntKind}{f:Go.FuncId}{T:Bool->List (Nat×Go.Value)}{p:Go.SL.HP}{φ:Go.World->Prop}{d:Option Go.Tmp}{fs:Array Go.Field}{α:Type}{fn:Go.Func}
namespace Go.Y
open Go.Proofs Tryz Go.RowKit Go.Deep
def Blk(w:World)(g:Nat)(t:TypeId)(cs:Array Value):Prop:=w.heap[g]?=some (.cells cs t (0,0))
section
variable{w':World}{g:Nat}
def Blk.lt(h:Blk w g t cs):g<w.heap.size:=by
 rcases Nat.lt_or_ge g w.heap.size with E|I
 ·exact E
 ·unfold Blk at h;rw[Array.getElem?_eq_none I]at h;cases h
def Blk.cell(h:Blk w g t cs)(i:Nat):w.cell? ⟨g,i,none⟩=cs[i]?:=cell_of_row w g i cs t (0,0) h
def Blk.free(h:Blk w g t cs)(i:Nat):w.frozen? ⟨g,i,none⟩=false:=by
 unfold Blk at h;simp[World.frozen?,h]
theorem Blk.made(w:World)(t:TypeId)(cs:Array Value):Blk (w.alloc (.cells cs t)) w.heap.size t cs:=heap_alloc_new w _
def Blk.put(h:Blk w g t cs)(i:Nat)(u:Value):Blk (w.setCell ⟨g,i,none⟩ u) g t (cs.setIfInBounds i u):=by
 unfold Blk at h ⊢;simp[World.setCell,Array.getElem?_modify,h]
theorem Blk.same(h:Blk w g t cs)(s:Same B w w')(E:g<B):Blk w' g t cs:=(s g E).trans h
end
section
variable{l:List FK.Node}{F F':Nat->Nat}
def fP(l:List FK.Node)(i m:Nat)(j:Nat):Nat:=if j<i then FK.mask (FK.aft l j) else if j=i then FK.mask ((FK.aft l i).take m) else 0
def fJ(n:Nat)(F:Nat->Nat):Array Value:=((List.range n).map λj=>Value.int .u64 (F j)).toArray
def m6(h:j<n):(fJ n F)[j]?=some (.int .u64 (F j)):=by simp[fJ,h]
theorem vS(I:∀k,k≠j->F' k=F k):(fJ n F).setIfInBounds j (.int .u64 (F' j))=fJ n F':=by
 apply Array.ext_getElem?;intro k;unfold fJ;rw[Array.getElem?_setIfInBounds]
 by_cases hk:j=k
 ·subst hk
  by_cases E:j<n<;>simp[E]
 ·rw[if_neg hk]
  by_cases E:k<n
  ·simp[E,I k (λe=>hk e.symm)]
  ·simp[E]
theorem By{g:Nat}(h:Blk w g 240 (fJ n F))(E:∀k,k≠j->F' k=F k):Blk (w.setCell ⟨g,j,none⟩ (.int .u64 (F' j))) g 240 (fJ n F'):=by
 have:=h.put j (.int .u64 (F' j))
 rwa [vS E]at this
def Bw(l:List FK.Node)(n:Nat):madeCells #[Value.int .u64 0] n=fJ n (fP l 0 0):=by
 have:fP l 0 0=λ_=>0:=by funext j;simp[fP,FK.mask]
 rw[this];unfold madeCells fJ;apply Array.ext_getElem?;intro k
 by_cases hk:k<n<;>simp[hk,Nat.mod_one]
theorem DF{x:Nat}(h:(FK.aft l i)[m]?=some x):fP l i (m+1) i=fP l i m i|||(1<<<x):=by
 obtain⟨E,I⟩:=gfGet.1 h;simp only[fP,Nat.lt_irrefl,if_false,if_true];rw[List.take_succ_eq_append_getElem E,FK.Bz,I];simp[FK.mask]
theorem Bx{k:Nat}(h:k≠i):fP l i m k=fP l i b k:=by simp[fP,h]
theorem DG(h:(FK.aft l i).length<=m):fP l i m=fP l (i+1) 0:=by
 funext j
 unfold fP;rw[List.take_of_length_le h]
 by_cases E:j<i
 ·rw[if_pos E,if_pos am]
 ·by_cases I:j=i
  ·subst I;simp
  ·rw[if_neg E,if_neg I,if_neg am];split<;>simp[FK.mask]
theorem Fa:∀{l:List Nat},(∀k∈l,k<n)->FK.mask l<2 ^ n:=by
 intro l
 induction l with
 |nil=>intro _;exact Nat.two_pow_pos _
 |cons k l I=>
  intro h;simp only[FK.mask];refine Nat.or_lt_two_pow ?_ (I λx E=>h x (by simp[E]));rw[Nat.one_shiftLeft];exact Nat.pow_lt_pow_right am (h k di)
def ul(h:∀i,∀k∈FK.aft l i,k<n):fP l i m j<2 ^ n:=by
 unfold fP
 split
 ·exact Fa (h j)
 ·split
  ·exact Fa λk hk=>h i k (List.mem_of_mem_take hk)
  ·exact Nat.two_pow_pos _
def oB(a b:Nat)(E:a<4096)(I:b<4096):bits BinOp.and IntKind.u64 (a:Int) (b:Int)=((a&&&b:Nat):Int):=bits_and_u64_nat a b am am
def xu(h:b≠0):b&&&(b-1)<b:=by
 have:b&&&(b-1)<=b-1:=Nat.and_le_right;omega
def FC(I:World->List Nat->Prop)(l:List FK.Node)(e:Ending)(w':World):Prop:=
 ∃(left:Nat) (T:List Nat),e=.returned (.int .u64 left)/\I w' T/\FK.Ordering l left T/\(∀i,left.testBit i=true->∃k∈FK.aft l i,left.testBit k=true)
def clr(left t:Nat):Nat:=left&&&(18446744073709551615-2 ^ t)
def oc{left t:Nat}(J:t<64)(E:left<18446744073709551616)(j:Nat):(clr left t).testBit j=(left.testBit j&&decide (j≠t)):=by
 unfold clr;rw[Nat.testBit_and]
 by_cases K:j<64
 ·have e:18446744073709551615-2 ^ t=2 ^ 64-(2 ^ t+1):=am
  have I:2 ^ t<2 ^ 64:=Nat.pow_lt_pow_right am J;rw[e,Nat.testBit_two_pow_sub_succ I,Nat.testBit_two_pow];simp[K,eq_comm]
 ·have I:2 ^ 64<=2 ^ j:=Nat.pow_le_pow_right am am
  have:left.testBit j=false:=Nat.testBit_lt_two_pow am;rw[this];simp
def clr_lt{left t:Nat}(I:t<64)(E:left<18446744073709551616)(J:left.testBit t=true):clr left t<left:=by
 have K:clr left t<=left:=Nat.and_le_left;have O:clr left t≠left:=by
  intro e;have:=oc I E t;rw[e,J]at this;simp at this
 omega
def sX{t:Nat}(E:t<64):IntKind.u64.wrap (2 ^ t)=2 ^ t:=by
 rw[IntKind.wrap_u64];have I:2 ^ t<2 ^ 64:=Nat.pow_lt_pow_right am E;have e:((2:Int) ^ t)=((2 ^ t:Nat):Int):=by simp
 rw[e]
 generalize 2 ^ t=x at I
 omega
def DM(h:n<=12):IntKind.u64.wrap (IntKind.u64.wrap (2 ^ n)-1)=((2 ^ n-1:Nat):Int):=by
 rw[sX am,IntKind.wrap_u64];have E:2 ^ n<=2 ^ 12:=Nat.pow_le_pow_right am h;have I:=Nat.two_pow_pos n;have e:((2:Int) ^ n)=((2 ^ n:Nat):Int):=by simp
 rw[e]
 generalize 2 ^ n=x at E I
 omega
def nW{left:Nat}(h:FK.Ordering l left bs)(K:l.length<=12):left<4096:=by
 have:left<2 ^ 12:=by
  apply Nat.lt_of_not_le;intro E;have I:left≠0:=by intro e;rw[e]at E;exact absurd E fh
  have J:=Nat.testBit_log2 I;have O:=((h.bits _).1 J).1;have h3:12<=left.log2:=(Nat.le_log2 I).2 E;omega
 simpa using this
def Asked(l:List FK.Node)(left E:Nat):Prop:=(∀i,E.testBit i=true->left.testBit i=true)/\∀i,left.testBit i=true->E.testBit i=true\/∃k∈FK.aft l i,left.testBit k=true
def Asked.start(l:List FK.Node)(left:Nat):Asked l left left:=⟨λ_ h=>h,λ_ h=>.inl h⟩
def Asked.next{left:Nat}(h:Asked l left b){t:Nat}(J:b.testBit t=true)(K:∀j,j<t->b.testBit j=false)(O:∃k∈FK.aft l t,left.testBit k=true):Asked l left (b&&&(b-1)):=by
 have e:=FK.rz t b J K;refine⟨λi hi=>?_,λi hi=>?_⟩
 ·rw[e i]at hi;simp at hi;exact h.1 i hi.1
 ·rcases h.2 i hi with hw|hw
  ·by_cases I:i=t
   ·subst I;exact .inr O
   ·exact .inl (by rw[e i];simp[hw,I])
  ·exact .inr hw
def Again(w:World)(A:Option Addr)(c:Nat)(l:List FK.Node)(F:FuncId)(cap:Array Value)(I:World->List Nat->Prop)(a:Act)(w':World):Prop:=
 ∃(left:Nat) (T:List Nat) (u2 u3 u6 u7 u8 u9 E J K O Y d6 d7 d8 d9 f7 f8 f9 mt t6 t7 t8 wf BT Fd In LE LT NT NU NV NW NX NY NZ N0 N1 N2 N3 N4 N5 N6 N7 N8 N9 Oa Ob Oc Od Oe Of Og Oh Oi Oj Ol Om On Oo Oq Or Ot Ou:Value),a={tmps:=#[.slice A l.length c,.func (.func F) #[] cap,u2,u3,.int .u64 left,.slice (some ⟨w.heap.size,0,none⟩) l.length l.length,u6,u7,u8,u9,E,J,K,O,Y,d6,d7,d8,d9,f7,f8,f9,mt,t6,t7,t8,wf,BT,Fd,In,LE,LT,NT,NU,NV,NW,NX,NY,NZ,N0,N1,N2,N3,N4,N5,N6,N7,N8,N9,Oa,Ob,Oc,Od,Oe,Of,Og,Oh,Oi,Oj,Ol,Om,On,Oo,Oq,Or,Ot,Ou],defers:=[]}/\
  I w' T/\FK.Ordering l left T/\Blk w' w.heap.size 240 (fJ l.length (fP l l.length 0))
def lR(w:World)(B:Nat)(A:Option Addr)(c:Nat)(l:List FK.Node)(F:FuncId)(cap:Array Value)(I:World->List Nat->Prop)(hB:B<=w.heap.size)(hl:l.length<=12)
(hv:∀i,∀k∈FK.aft l i,k<l.length)(N1:∀n∈l,∀x∈n.after,0<=x)
(hF:∀(args:Array Value) (W:World),(callFunc F args).run prog W=.ok (.enter F args) W)(h0:I w [])(hI:∀W T,I W T->NodesAt W B A c l/\Tab W/\w.heap.size<=W.heap.size)
(NV:∀W W' T,I W T->Below w.heap.size W W'->I W' T)
(NW:∀W T k,I W T->w.heap.size<W.heap.size->k<l.length->k∉T->(∀j∈FK.aft l k,j∈T)->Calls prog F (#[.int .i64 k]++cap) W λe W'=>
  e=.returned (.tuple #[])/\I W' (T++[k])/\W.heap.size<=W'.heap.size/\∀b,w.heap.size<=b->b<W.heap.size->W'.heap[b]?=W.heap[b]?) :
 Calls prog 186 #[.slice A l.length c,.func (.func F) #[] cap] w (FC I l):=by
 have HN:=Lib.hid (hI w [] h0).1;have H0:=Lib.hid h0;have HI:=Lib.hid hI;have HS:=Lib.hid NV;have HT:=Lib.hid NW;have HV:=Lib.hid hv;have HP:=Lib.hid N1;clear h0 hI NV NW hv N1;have Py:∀W:World,(Instr.makeSlice 335 (.int .i64 (l.length:Int)) (.int .i64 (l.length:Int))).run prog W=.ok (.slice (some ⟨W.heap.size,0,none⟩) l.length l.length) (W.alloc (.cells (fJ l.length (fP l 0 0)) 240)):=λW=>by
  rw[<-Bw];exact run_make_row' (P:=prog) 335 240 (.int .u64 0) 8 underlying335 (by kernel_rfl) rfl .i64 .i64 l.length am am W
 obtain⟨left,f9⟩:∃x,x=2 ^ l.length-1:=⟨_,rfl⟩;have Ow:IntKind.u64.wrap (IntKind.u64.wrap (2 ^ l.length)-1)=(left:Int):=by rw[DM hl,f9]
 have Oj:Hid (FK.Ordering l left []):=by rw[f9];exact .start l
 clear f9;obtain⟨T,Ot⟩:∃T:List Nat,Hid (T=[]):=⟨_,rfl⟩;rw[<-Ot.out]at Oj H0
 go_enter func186,ntmps186
 go_wp2
 refine wp_scope_jumps 0 (Again w A c l F cap I) (λa _=>(RowKit.intOf (a.tmps.getD 4 undef)).toNat) rfl ?_ ?_
 ·go_wp2
  go_loopw [21] (λi wr=>∃k:Nat,k<=l.length/\i=.int .i64 k/\Blk wr w.heap.size 240 (fJ l.length (fP l k 0))/\Below w.heap.size w wr) (λi _=>l.length-(RowKit.intOf i).toNat)
  case atStart=>exact⟨0,am,rfl,Blk.made _ _ _,(Below.refl _ _).alloc (cx _) _⟩
  case round=>
   obtain⟨k,hk,rfl,E,O⟩:=hrel;have Ol:=E.lt
   by_cases N8:k<l.length
   ·obtain⟨h1,h2,h3⟩:=HN.out
    obtain⟨b,off,rfl,Ou,d8⟩:=h3 am;have N9:=(d8 k l[k] (by simp[N8])).keep (O.to_same.mono hB) Ou;obtain⟨c0,c1,c2,c3,c4,c5,⟨A6,n6,c6,hi⟩,hr⟩:=N9;have Oa:=Lib.hid hi;have Om:=Lib.hid E;have NY:=Lib.hid O;clear d8 h3 hr hi E O
    go_wp2
    obtain⟨wo,rfl⟩:∃wo:World,wo=wr:=⟨_,rfl⟩
    go_loopw [29] (λi ws=>∃m:Nat,m<=l[k].after.length/\i=.int .i64 m/\Blk ws w.heap.size 240 (fJ l.length (fP l k m))/\Below w.heap.size w ws) (λi _=>l[k].after.length-(RowKit.intOf i).toNat)
    case atStart=>exact⟨0,am,rfl,Om.out.same (B:=wo.heap.size) (λx hx=>Below.heap_alloc _ _ _ hx) Ol,NY.out.alloc am _⟩
    case round=>
     obtain⟨m,hm,rfl,E,O⟩:=hrel;have t7:FK.aft l k=l[k].after.map Int.toNat:=FK.IH (by simp[N8])
     by_cases N2:m<l[k].after.length
     ·have NZ:Same B wo wr:=λx hx=>(O.block x am).trans (NY.out.block x am).symm
      obtain⟨b6,o6,Ov,OB,Oh⟩:=(Oa.out.keep NZ).cells am;have Ox:=Oh m l[k].after[m] (by simp[N2]);have Oy:0<=l[k].after[m]:=HP.out l[k] (List.getElem_mem _) _ (List.getElem_mem _);have On:=HV.out k l[k].after[m].toNat (by rw[t7];exact List.mem_map_of_mem (List.getElem_mem _));obtain⟨xn,N6⟩:∃xn:Nat,l[k].after[m]=(xn:Int):=⟨l[k].after[m].toNat,am⟩;have N3:(FK.aft l k)[m]?=some xn:=by rw[t7,List.getElem?_map,List.getElem?_eq_getElem N2,N6];simp
      rw[N6]at Ox Oy On;simp only[Int.toNat_natCast]at On;have N4:fP l k m k<18446744073709551616:=Nat.lt_of_lt_of_le (ul (n:=12) λi x hx=>by have:=HV.out i x hx;omega) fh;have N5:2 ^ xn<18446744073709551616:=Nat.lt_of_lt_of_le (Nat.pow_lt_pow_right (n:=12) am am) fh;have d8:wr.cell? ⟨w.heap.size,k,none⟩=some (.int .u64 (fP l k m k:Nat)):=by rw[E.cell];exact m6 N8
      have d6:wr.frozen? ⟨w.heap.size,k,none⟩=false:=E.free k;have Oo:IntKind.u64.wrap (2 ^ xn)=2 ^ xn:=sX am;have Pz:bits BinOp.or IntKind.u64 ((fP l k m k:Nat):Int) (2 ^ xn)=((fP l k (m+1) k:Nat):Int):=by
       have:=bits_or_u64_nat (fP l k m k) (2 ^ xn) N4 N5;rw[DF N3,Nat.one_shiftLeft,<-this];simp
      have HB:=Lib.hid E;have Ob:=Lib.hid O;have wf:=E.lt;have PA:=Oa.out.len;have PB:=Oa.out.cap;subst Ov;clear t7 NZ Oh N6 N3 N4 N5 E O
      go_wp2
      go_region
      go_wp2
      go_roundw
      case rel=>exact⟨m+1,am,by go_num,By HB.out λx hx=>Bx hx,(nq Ob.out)⟩
      case measure=>simp[RowKit.intOf];omega
     ·have HB:=Lib.hid E
      have Ob:=Lib.hid O;have wf:=E.lt;have Oz:=Lib.hid (DG (l:=l) (i:=k) (m:=m) (by rw[t7];simp;omega));clear t7 E O
      go_wp2
      go_roundw
      case rel=>exact⟨k+1,am,by go_num,by rw[<-Oz.out];exact HB.out,Ob.out⟩
      case measure=>simp[RowKit.intOf];omega
   ·obtain rfl:k=l.length:=am
    have hi:=HS.out w wr T H0.out O;have ho:=Oj.out
    go_wp2
    go_step3
    go_wp2
    have BT:=nW ho hl;have Fd:=Lib.hid hi;have HO:=Lib.hid ho;have HB:=Lib.hid E;have wf:=E.lt;clear hi ho E
    go_loop [4,10] (λs t=>∃K:Nat,s=.int .u64 left/\t=.int .u64 K/\Asked l left K/\K<4096) (λ_ t=>(RowKit.intOf t).toNat)
    case atStart=>exact⟨left,rfl,rfl,.start _ _,BT⟩
    case round=>
     obtain⟨K,rfl,rfl,t6,N7⟩:=hrel;have d9:=Lib.hid t6;clear t6
     by_cases hz:K=0
     ·have Oc:((K:Int) !=0)=false:=by simp[hz]
      have HZ:=Lib.hid hz;clear hz
      go_wp2
      simp only[Exit.jump]
      go_ret
      exact⟨left,T,rfl,Fd.out,HO.out,λi hi=>(d9.out.2 i hi).resolve_left (by rw[HZ.out];simp)⟩
     ·obtain⟨t1,t2,t3⟩:=tD K am hz
      have In:=Lib.hid (ua K am hz wr (HI.out _ _ Fd.out).2.1);have Oc:((K:Int) !=0)=true:=by simp;omega
      generalize Lib.ctz 64 K=t at In t1 t2 t3
      have f7:left.testBit t=true:=d9.out.1 t t1;have LE:t<l.length:=((HO.out.bits t).1 f7).1;have LT:fP l l.length 0 t=FK.mask (FK.aft l t):=by simp[fP,LE]
      obtain⟨nf,Y⟩:∃nf,nf=fP l l.length 0 t:=⟨_,rfl⟩;have t8:nf<4096:=by rw[Y];exact ul (n:=12) λi x hx=>by have:=HV.out i x hx;omega
      have d8:wr.cell? ⟨w.heap.size,t,none⟩=some (.int .u64 (nf:Nat)):=by rw[HB.out.cell,Y];exact m6 LE
      have J:=FK.o9 (FK.aft l t) left;rw[<-LT,<-Y]at J;have Od:=Lib.hid J;have T1:=Lib.hid t1;have T2:=Lib.hid t2;have TL:=Lib.hid f7;have HZ:=Lib.hid hz
      by_cases hb:nf&&&left=0
      ·have hand:bits BinOp.and IntKind.u64 (nf:Int) (left:Int)=0:=by rw[oB _ _ t8 BT,hb];rfl
       have Oo:IntKind.u64.wrap (2 ^ t)=2 ^ t:=sX t3;have Oe:bits BinOp.andNot IntKind.u64 (left:Int) (2 ^ t)=((clr left t:Nat):Int):=by
        have hp:2 ^ t<2 ^ 64:=Nat.pow_lt_pow_right am t3;have:=u64_andNot_nat left (2 ^ t) am (by simpa using hp);simpa[clr]using this
       have d6:∀k∈FK.aft l t,left.testBit k=false:=J.1 hb;have f8:∀j∈FK.aft l t,j∈T:=λj hj=>Classical.byContradiction λhn=>by
        have h1:=(HO.out.bits j).2 ⟨HV.out t j hj,hn⟩;rw[d6 j hj]at h1;cases h1
       have NT:=Lib.hid (HT.out wr T t Fd.out wf LE ((HO.out.bits t).1 f7).2 f8);have NU:=Lib.hid d6;clear LT Y J t1 t2 f7 hz hb d6 f8
       go_wp2_with (go_at_call 188;refine In.out.mono ?_;rintro e w2 ⟨rfl,rfl⟩)
       refine NT.out.mono ?_;rintro e w3 ⟨rfl,NX,Oi,d7⟩;have Of:=Lib.hid NX;have mt:=Lib.hid d7;clear NX d7
       go_wp2
       go_step3
       exact⟨rfl,⟨clr left t,T++[t],_,_,_,_,_,_,_,_,_,_,_,_,_,_,_,_,_,_,_,_,_,_,_,_,_,_,_,_,_,_,_,_,_,_,_,_,_,_,_,_,_,_,_,_,_,_,_,_,_,_,_,_,_,_,_,_,_,_,_,_,_,_,_,rfl,Of.out,HO.out.tell TL.out NU.out (oc t3 am),(mt.out _ (cx _) wf).trans HB.out⟩⟩
      ·have hand:bits BinOp.and IntKind.u64 (nf:Int) (left:Int)=((nf&&&left:Nat):Int):=oB _ _ t8 BT
       have Oq:(((nf&&&left:Nat):Int)==0)=false:=by simp;omega
       have hw:bits BinOp.and IntKind.u64 (K:Int) ((K:Int)-1)=((K&&&(K-1):Nat):Int):=by
        have:=oB K (K-1) N7 am
        rwa [show((K-1:Nat):Int)=(K:Int)-1 by omega]at this
       have Or:=xu hz;have N0:∃k∈FK.aft l t,left.testBit k=true:=Classical.byContradiction λhn=>hb (J.2 λk hk=>by
        cases hx:left.testBit k with
        |false=>rfl
        |true=>exact absurd ⟨k,hk,hx⟩ hn)
       have Og:=Lib.hid N0;have OA:1<=K:=am;clear LT Y J t1 t2 f7 hz hb N0
       go_wp2_with (go_at_call 188;refine In.out.mono ?_;rintro e w2 ⟨rfl,rfl⟩)
       go_round
       case rel=>exact⟨K&&&(K-1),rfl,rfl,d9.out.next T1.out T2.out Og.out,am⟩
       case measure=>simp[RowKit.intOf];omega
 ·rintro a' w' ⟨left,T,u2,u3,u6,u7,u8,u9,OC,OD,OE,OF,OG,OH,OI,OJ,OK,OL,OM,ON,OO,OP,OQ,OR,OS,OT,OU,OV,OW,OX,OY,OZ,O0,O1,O2,O3,O4,O5,O6,O7,O8,O9,Pa,Pb,Pc,Pd,Pe,Pf,Pg,Ph,Pi,Pj,Pk,Pm,Pn,Po,Pp,Pq,Pr,Ps,Pt,Pu,Pv,Pw,Px,rfl,hi,ho,E⟩
  go_wp2
  have BT:=nW ho hl;have Fd:=Lib.hid hi;have HO:=Lib.hid ho;have HB:=Lib.hid E;have wf:=E.lt;clear hi ho E
  go_loop [4,10] (λs t=>∃K:Nat,s=.int .u64 left/\t=.int .u64 K/\Asked l left K/\K<4096) (λ_ t=>(RowKit.intOf t).toNat)
  case atStart=>exact⟨left,rfl,rfl,.start _ _,BT⟩
  case round=>
   obtain⟨K,rfl,rfl,t6,N7⟩:=hrel;have d9:=Lib.hid t6;clear t6
   by_cases hz:K=0
   ·have Oc:((K:Int) !=0)=false:=by simp[hz]
    have HZ:=Lib.hid hz;clear hz
    go_wp2
    simp only[Exit.jump]
    go_ret
    exact⟨left,T,rfl,Fd.out,HO.out,λi hi=>(d9.out.2 i hi).resolve_left (by rw[HZ.out];simp)⟩
   ·obtain⟨t1,t2,t3⟩:=tD K am hz
    have In:=Lib.hid (ua K am hz w' (HI.out _ _ Fd.out).2.1);have Oc:((K:Int) !=0)=true:=by simp;omega
    generalize Lib.ctz 64 K=t at In t1 t2 t3
    have f7:left.testBit t=true:=d9.out.1 t t1;have LE:t<l.length:=((HO.out.bits t).1 f7).1;have LT:fP l l.length 0 t=FK.mask (FK.aft l t):=by simp[fP,LE]
    obtain⟨nf,Y⟩:∃nf,nf=fP l l.length 0 t:=⟨_,rfl⟩;have t8:nf<4096:=by rw[Y];exact ul (n:=12) λi x hx=>by have:=HV.out i x hx;omega
    have d8:w'.cell? ⟨w.heap.size,t,none⟩=some (.int .u64 (nf:Nat)):=by rw[HB.out.cell,Y];exact m6 LE
    have J:=FK.o9 (FK.aft l t) left;rw[<-LT,<-Y]at J;have Od:=Lib.hid J;have T1:=Lib.hid t1;have T2:=Lib.hid t2;have TL:=Lib.hid f7;have HZ:=Lib.hid hz
    by_cases hb:nf&&&left=0
    ·have hand:bits BinOp.and IntKind.u64 (nf:Int) (left:Int)=0:=by rw[oB _ _ t8 BT,hb];rfl
     have Oo:IntKind.u64.wrap (2 ^ t)=2 ^ t:=sX t3;have Oe:bits BinOp.andNot IntKind.u64 (left:Int) (2 ^ t)=((clr left t:Nat):Int):=by
      have hp:2 ^ t<2 ^ 64:=Nat.pow_lt_pow_right am t3;have:=u64_andNot_nat left (2 ^ t) am (by simpa using hp);simpa[clr]using this
     have d6:∀k∈FK.aft l t,left.testBit k=false:=J.1 hb;have f8:∀j∈FK.aft l t,j∈T:=λj hj=>Classical.byContradiction λhn=>by
      have h1:=(HO.out.bits j).2 ⟨HV.out t j hj,hn⟩;rw[d6 j hj]at h1;cases h1
     have NT:=Lib.hid (HT.out w' T t Fd.out wf LE ((HO.out.bits t).1 f7).2 f8);have NU:=Lib.hid d6;clear LT Y J t1 t2 f7 hz hb d6 f8
     go_wp2_with (go_at_call 188;refine In.out.mono ?_;rintro e w2 ⟨rfl,rfl⟩)
     refine NT.out.mono ?_;rintro e w3 ⟨rfl,NX,Oi,d7⟩;have Of:=Lib.hid NX;have mt:=Lib.hid d7;clear NX d7
     go_wp2
     go_step3
     exact⟨rfl,⟨clr left t,T++[t],_,_,_,_,_,_,_,_,_,_,_,_,_,_,_,_,_,_,_,_,_,_,_,_,_,_,_,_,_,_,_,_,_,_,_,_,_,_,_,_,_,_,_,_,_,_,_,_,_,_,_,_,_,_,_,_,_,_,_,_,_,_,_,rfl,Of.out,HO.out.tell TL.out NU.out (oc t3 am),(mt.out _ (cx _) wf).trans HB.out⟩,by have:=clr_lt t3 am TL.out;simpa[RowKit.intOf]using this⟩
    ·have hand:bits BinOp.and IntKind.u64 (nf:Int) (left:Int)=((nf&&&left:Nat):Int):=oB _ _ t8 BT
     have Oq:(((nf&&&left:Nat):Int)==0)=false:=by simp;omega
     have hw:bits BinOp.and IntKind.u64 (K:Int) ((K:Int)-1)=((K&&&(K-1):Nat):Int):=by
      have:=oB K (K-1) N7 am
      rwa [show((K-1:Nat):Int)=(K:Int)-1 by omega]at this
     have Or:=xu hz;have N0:∃k∈FK.aft l t,left.testBit k=true:=Classical.byContradiction λhn=>hb (J.2 λk hk=>by
      cases hx:left.testBit k with
      |false=>rfl
      |true=>exact absurd ⟨k,hk,hx⟩ hn)
     have Og:=Lib.hid N0;have OA:1<=K:=am;clear LT Y J t1 t2 f7 hz hb N0
     go_wp2_with (go_at_call 188;refine In.out.mono ?_;rintro e w2 ⟨rfl,rfl⟩)
     go_round
     case rel=>exact⟨K&&&(K-1),rfl,rfl,d9.out.next T1.out T2.out Og.out,am⟩
     case measure=>simp[RowKit.intOf];omega
def rx(w:World)(B:Nat)(A:Option Addr)(c:Nat)(l:List FK.Node)(F:FuncId)(cap:Array Value)(I:World->List Nat->Prop)(Y:B<=w.heap.size)(hl:l.length<=12)
(hv:∀i,∀k∈FK.aft l i,k<l.length)(O:∀n∈l,∀x∈n.after,0<=x)
(hF:∀(args:Array Value) (W:World),(callFunc F args).run prog W=.ok (.enter F args) W)(h0:I w [])(hI:∀W T,I W T->NodesAt W B A c l/\Tab W/\w.heap.size<=W.heap.size)
(E:∀W K T,I W T->Below w.heap.size W K->I K T)
(J:∀W T k,I W T->k<l.length->k∉T->(∀j∈FK.aft l k,j∈T)->Calls prog F (#[.int .i64 k]++cap) W λe K=>
  e=.returned (.tuple #[])/\I K (T++[k])/\W.heap.size<=K.heap.size/\∀b,w.heap.size<=b->b<W.heap.size->K.heap[b]?=W.heap[b]?) :
 Calls prog 186 #[.slice A l.length c,.func (.func F) #[] cap] w (FC I l):=
 lR w B A c l F cap I Y hl hv O hF h0 hI E λW T k h _=>J W T k h
end
section
variable{base size:Nat}
def zL(h:w.ownsRow base e size v n xs):∃A c,v=.slice A n c/\(A=none->n=0/\c=0)/\n<=c/\c<=maxLen:=by
 rcases h.2 with⟨rfl,rfl⟩|⟨g,cap,E,rfl,_,_,I,J,_⟩
 ·exact⟨none,0,rfl,λ_=>⟨rfl,rfl⟩,cx _,Nat.zero_le _⟩
 ·exact⟨_,cap,rfl,(λh=>by cases h),I,J⟩
def Ik(h:w.ownsRow base e size v n xs){k:Nat}(hk:v.ownBlock=some k):base<=k/\k<w.heap.size:=h.lt k hk
end
section
variable(w:World)
theorem run_app_nothing(base:Nat)(t K e:TypeId)(i:TypeInfo)(size:Nat)(J:P.underlying t=some (.slice e))(hi:P.info? e=some i)
(v:Value)(n:Nat)(xs:List Value)(E:w.ownsRow base e size v n xs)(c:Nat):(Builtin.append_ #[t,t] K #[v,.slice none 0 c]).run P w=.ok v w:=by
 rcases E.2 with⟨rfl,rfl⟩|⟨g,cap,O,rfl,_,_,I,_⟩
 ·simp[Builtin.append_,run_underlying J,sizeOf,typeInfo,hi,Builtin.lenOf,Builtin.firstCells]
 ·simp[Builtin.append_,run_underlying J,sizeOf,typeInfo,hi,Builtin.lenOf,Builtin.firstCells,I,storeCells]
end
def jf(b o:Nat):Array Value:=#[.pointer (some ⟨b,o,none⟩),.pointer (some ⟨b,o+1,none⟩),.pointer (some ⟨b,o+2,none⟩),.pointer (some ⟨b,o+3,none⟩),.pointer (some ⟨b,o+4,none⟩),.pointer (some ⟨b,o+5,none⟩)]
theorem put6{g:Nat}{x4 x5:Value}(h:Blk w g t #[v,u,z,u',x4,x5])(E I J K O T:Value) :
 Blk ((((((w.setCell ⟨g,0,none⟩ E).setCell ⟨g,1,none⟩ I).setCell ⟨g,2,none⟩ J).setCell ⟨g,3,none⟩ K).setCell ⟨g,4,none⟩ O).setCell ⟨g,5,none⟩ T) g t #[E,I,J,K,O,T]:=by
 have h:=h.put 0 E;have h:=h.put 1 I;have h:=h.put 2 J;have h:=h.put 3 K;have h:=h.put 4 O;have h:=h.put 5 T;simpa using h
def yS(w:World)(b:Nat) :
 Calls prog 158 #[.pointer (some ⟨b,0,none⟩)] w λe w'=>e=.returned (.agg (jf b 0))/\Below w.heap.size w w':=by
 go_enter func158,ntmps158
 go_wp2
 go_still_tail 19,(by kernel_rfl)
 change wpList _ _ _ _ _ ((w.alloc (.cells #[.pointer none,.pointer none,.pointer none,.pointer none,.pointer none,.pointer none] 263)).drew)
 have E:Blk ((w.alloc (.cells #[.pointer none,.pointer none,.pointer none,.pointer none,.pointer none,.pointer none] 263)).drew) w.heap.size 263 #[.pointer none,.pointer none,.pointer none,.pointer none,.pointer none,.pointer none]:=Blk.made w _ _;have J:Below w.heap.size w ((w.alloc (.cells #[.pointer none,.pointer none,.pointer none,.pointer none,.pointer none,.pointer none] 263)).drew):=((Below.refl _ _).alloc (cx _) _).drew;obtain⟨K,O⟩:∃K,K=((w.alloc (.cells #[.pointer none,.pointer none,.pointer none,.pointer none,.pointer none,.pointer none] 263)).drew):=⟨_,rfl⟩;rw[<-O]at E J ⊢;clear O;have c0:=E.cell 0;have c1:=E.cell 1;have c2:=E.cell 2;have c3:=E.cell 3;have c4:=E.cell 4;have c5:=E.cell 5;have f0:=E.free 0;have f1:=E.free 1;have f2:=E.free 2;have f3:=E.free 3;have f4:=E.free 4;have f5:=E.free 5;simp only[List.getElem?_toArray,List.getElem?_cons_zero,List.getElem?_cons_succ]at c0 c1 c2 c3 c4 c5;have HB:=Lib.hid E;clear E
 go_wp2
 have Y:Below w.heap.size w ((((((K.setCell ⟨w.heap.size,0,none⟩ (.pointer (some ⟨b,0,none⟩))).setCell ⟨w.heap.size,1,none⟩ (.pointer (some ⟨b,1,none⟩))).setCell ⟨w.heap.size,2,none⟩ (.pointer (some ⟨b,2,none⟩))).setCell ⟨w.heap.size,3,none⟩ (.pointer (some ⟨b,3,none⟩))).setCell ⟨w.heap.size,4,none⟩ (.pointer (some ⟨b,4,none⟩))).setCell ⟨w.heap.size,5,none⟩ (.pointer (some ⟨b,5,none⟩))):=(((((J.setCell di _).setCell di _).setCell di _).setCell di _).setCell di _).setCell di _;have I:Blk (((((((K.setCell ⟨w.heap.size,0,none⟩ (.pointer (some ⟨b,0,none⟩))).setCell ⟨w.heap.size,1,none⟩ (.pointer (some ⟨b,1,none⟩))).setCell ⟨w.heap.size,2,none⟩ (.pointer (some ⟨b,2,none⟩))).setCell ⟨w.heap.size,3,none⟩ (.pointer (some ⟨b,3,none⟩))).setCell ⟨w.heap.size,4,none⟩ (.pointer (some ⟨b,4,none⟩))).setCell ⟨w.heap.size,5,none⟩ (.pointer (some ⟨b,5,none⟩)))) w.heap.size 263 (jf b 0):=
  put6 HB.out _ _ _ _ _ _
 obtain⟨w3,T⟩:∃w3,w3=((((((K.setCell ⟨w.heap.size,0,none⟩ (.pointer (some ⟨b,0,none⟩))).setCell ⟨w.heap.size,1,none⟩ (.pointer (some ⟨b,1,none⟩))).setCell ⟨w.heap.size,2,none⟩ (.pointer (some ⟨b,2,none⟩))).setCell ⟨w.heap.size,3,none⟩ (.pointer (some ⟨b,3,none⟩))).setCell ⟨w.heap.size,4,none⟩ (.pointer (some ⟨b,4,none⟩))).setCell ⟨w.heap.size,5,none⟩ (.pointer (some ⟨b,5,none⟩))):=⟨_,rfl⟩;rw[<-T]at I Y ⊢;clear T c0 c1 c2 c3 c4 c5 f0 f1 f2 f3 f4 f5 HB J;have d0:=I.cell 0;have d1:=I.cell 1;have d2:=I.cell 2;have d3:=I.cell 3;have d4:=I.cell 4;have d5:=I.cell 5;simp only[jf,List.getElem?_toArray,List.getElem?_cons_zero,List.getElem?_cons_succ]at d0 d1 d2 d3 d4 d5;refine bodyPost_ret (v:=.agg (jf b 0)) (by simp[results,Tryz.results158,go_sem,d0,d1,d2,d3,d4,d5,jf]) rfl<|⟨rfl,Y⟩
def flat_len{α:Type}(f:α->List UInt8)(c:Nat):∀(l:List α),(∀x∈l,(f x).length<=c)->(l.flatMap f).length<=c*l.length
 | [],_=>by simp
 |x::l,h=>by
  have:=flat_len f c l λy E=>h y (by simp[E]);have I:=h x di;simp only[List.flatMap_cons,List.length_append,List.length_cons,Nat.mul_add];omega
def Cc{n:FK.Node}{len:Nat}(E:len<=12)(J:FK.fY n)(I:FK.EdgesOk len (-1) n.after):(FK.js n).length<=57:=by
 obtain⟨T,Y,⟨b1,b2⟩,⟨c1,c2⟩,⟨d1,d2⟩,⟨e1,e2⟩,f1,f2⟩:=J;have K:=I.bounds;have O:n.after.length<=12:=by
  rcases I.length_le am with h|h
  ·omega
  ·rw[h];simp
 have h:=flat_len (λk:Int=>FK.dJ k.toNat) 3 n.after λk hk=>FK.ef (by have:=K k hk;omega);have g1:=FK.ef (n:=n.NR.toNat) am;have g2:=FK.ef (n:=n.close.toNat) am;have g3:=FK.ef (n:=n.beat.toNat) am;have g4:=FK.ef (n:=n.base.toNat) am;have g5:=FK.ef (n:=n.cap.toNat) am;have g6:=FK.ef (n:=n.NS.toNat) am;have g7:=FK.ef (n:=n.after.length) am;simp only[FK.js,List.length_append];omega
def tK(n:FK.Node):List Int:=[n.NR,n.close,n.beat,n.base,n.cap,n.NS]
theorem yU(n:FK.Node):FK.js n=(tK n).flatMap (λk=>FK.dJ k.toNat)++FK.dJ n.after.length++n.after.flatMap λk=>FK.dJ k.toNat:=by
 simp[FK.js,tK]
end Go.Y
namespace Go.SL
open Go.RowKit Go.Y
section
variable{ops:Array Oper}{rest:List Oper}{pos:String}
def Gives(P:Program)(G:Env->Prop)(f:FuncId)(args:Array Value)(φ:World->Prop)(R:Value->List HP->Prop):Prop:=
 ∀E w,G E->E.is w->φ w->Calls P f args w λe w'=>∃v m,e=.returned v/\R v m/\Holds E w' (m++[old E w])
def Gives.below{f:FuncId}{args:Array Value}{φ:World->Prop}{R:Value->Prop}(h:∀E w,G E->E.is w->φ w->Calls P f args w λe w'=>∃v,e=.returned v/\R v/\Below w.heap.size w w'):Gives P G f args φ λv m=>R v/\m=[]:=λE w I hw J=>
 (h E w I hw J).mono λ_e _w' ⟨v,K,O,T⟩=>⟨v,[],K,⟨O,rfl⟩,(Holds.start hw).below T⟩
def fg{args:Array Value}(h:∀E w,G E->E.is w->φ w->Calls P f args w λe w'=>e=.returned v/\Below w.heap.size w w'):Gives P G f args φ λu m=>u=v/\m=[]:=
 Gives.below λE w I hw J=>(h E w I hw J).mono λ_ _ ⟨K,O⟩=>⟨v,K,rfl,O⟩
def nE{xs:List Operand}{at_:Array TypeId}{args:List Value}(hi:Nat.blt i n=true)(J:eT P f=true)(O:rE ts xs=some args)(T:G E)
(Y:Gives P G f args.toArray φ R)(hφ:∀w,Holds E w l->φ w)(h:∀v m,R v m->At E n D ((i,v)::ts) (m++l) K) :
 At E n D ts l (λa w=>(Oper.mk (some i) (.call {callee:=.value (.func f),args:=xs.toArray,argTypes:=at_}) ty pos af g).wp P a w K Q):=λa w I hw=>by
 have:=eU I.knows O;have hr:(execOp a.eval (Oper.mk (some i) (.call {callee:=.value (.func f),args:=xs.toArray,argTypes:=at_}) ty pos af g)).run P w=.ok (.enter f args.toArray) w:=by
  simp[execOp,resolve,Deferred.ofValue,Act.eval,invoke,this,eZ J]
 show(Oper.mk (some i) (.call {callee:=.value (.func f),args:=xs.toArray,argTypes:=at_}) ty pos af g).wp P a w K Q;unfold Oper.wp;rw[hr];refine(Y E w T hw.is (hφ w hw)).mono λe w' ⟨v,m,he,hR,hh⟩=>?_;subst he;exact h v m hR _ w' (I.put i (Nat.le_of_ble_eq_true hi) v)<|Holds.later hw hh
def Gives.body{I:Func}{c:Code}{args:List Value}{R:Value->List HP->Prop}(O:P.funcs[f]?=some I)(T:I.body=some c)(Y:Nat.ble args.length I.ntmps=true)
(h:∀E w0,G E->E.is w0->φ w0->At E I.ntmps [] (fU 0 args) [old E w0] (c.wp P (nt P I E [old E w0] R))):Gives P G f args.toArray φ R:=λE w hE hw hφ=>by
 refine calls_of_wp O T<|h E w hE hw hφ _ _ ⟨?_,rfl,?_⟩<|Holds.start hw
 ·have:=Nat.le_of_ble_eq_true Y
  simp;omega
 ·intro i v hi
  obtain⟨_,J⟩:=fV args 0 i v hi;rw[Nat.sub_zero]at J;have K:i<args.length:=(gfGet.1 J).1;simp[Array.getElem?_append,K,(gfGet.1 J).2]
theorem EE(s:Sel (old E w0) l r)(I:E.is w0)(h:∀w,Below w0.heap.size w0 w->φ w):∀w,Holds E w l->φ w:=λw hw=>h w (hw.old s I)
def oz(s:Sel (old E w0) l r)(J:E.is w0)(I:w0.cell? ⟨b,o,none⟩=some v):∀w,Holds E w l->cw ⟨b,o,none⟩ v w:=
 EE s J λw K=>by
  have:=World.block_lt_of_cell? _ _ I;exact(K.cell this).trans I
def Ih(s:Sel (old E w0) l r)(K:E.is w0)(I:∀j v,vs[j]?=some v->w0.cell? ⟨b,o+j,none⟩=some v):∀w,Holds E w l->ie b o vs w:=
 EE s K λw O j v J=>by
  have:=World.block_lt_of_cell? _ _ (I j v J);exact(O.cell this).trans (I j v J)
def Gives.does{args:Array Value}(h:Gives P G f args (λ_=>True) R):Does P G f args [] R:=λE w _fr I hw=>
 (h E w I hw.is trivial).mono λ_e _w' ⟨v,m,J,K,O⟩=>⟨v,m,J,K,Holds.later hw O⟩
end
end Go.SL
namespace Go.Y
open Go.Proofs Tryz Go.RowKit Go.SL
abbrev dB(v:Value)(l:List UInt8):HP:=row 5 1 v l.length (dj l)
def B0(b:Nat):Does prog G 158 #[eg b 0] [] λv m=>v=.agg (jf b 0)/\m=[]:=
 (fg (φ:=λ_=>True) λ_ w _ _ _=>yS w b).does
def sa{args:Array Value}{l l':List UInt8}(h:∀w,km w 0 v l->Calls prog f args w (yj w 0 v l')):Does prog G f args [dB v l] λv' m=>m=[dB v' l']:=λE w fr _ hw=>by
 refine(h w (hw.row .head)).mono λe w' ⟨v',J,I,K,O⟩=>⟨v',_,J,rfl,?_⟩;exact od hw K I O
def rR(v:Value)(l:List UInt8)(m:Nat)(I:m<18446744073709551616)(J:l.length<=1099511627776):Does prog G 102 #[v,cd m] [dB v l] λv' r=>r=[dB v' (l++FK.dJ m)]:=
 sa λw K=>qw w 0 v l m I K J (Nat.zero_le _)
def eB(v:Value)(l:List UInt8)(m:Nat)(I:m<9223372036854775808)(J:l.length<=1099511627776):Does prog G 120 #[v,aA m] [dB v l] λv' r=>r=[dB v' (l++FK.dJ m)]:=
 sa λw K=>rr w 0 v l m I K J (Nat.zero_le _)
def px(s:Sel (old E w0) l r)(K:E.is w0)(h:NodesAt w0 B A c ns)(I:B<=w0.heap.size):∀w,Holds E w l->NodesAt w w.heap.size A c ns:=
 EE s K λ_w J=>(h.keep (J.to_same.mono I)).more (Nat.le_trans I J.size)
end Go.Y
namespace Go.SL
open Go.RowKit
section
variable{ops:Array Oper}{rest:List Oper}{pos:String}
section
variable{X:List PanicEntry->List HP->Prop}{s' t':TypeId}{ms:Array (String×TypeId)}{fr pre:List HP}{xs:List Operand}{r s:ResultVar}{c:List PanicEntry}{a:Act}{m:String}
def bl{I:Nat×Nat}{r:List HP}[h:Has b l (.cells cs t I) r](J:cs=vs.toArray):∀w,Holds E w l->ie b 0 vs w:=kF λj v O=>by
 subst J;simpa using O
def DoesX(P:Program)(G:Env->Prop)(f:FuncId)(args:Array Value)(pre:List HP)(R:Value->List HP->Prop)(X:List PanicEntry->List HP->Prop):Prop:=
 ∀E w fr,G E->Holds E w (pre++fr)->Calls P f args w λe w'=>(∃v m,e=.returned v/\R v m/\Holds E w' (m++fr))\/∃c m,e=.panicked c/\X c m/\Holds E w' (m++fr)
def H6(P:Program)(fn:Func)(E:Env)(fr:List HP)(R:Value->List HP->Prop)(X:List PanicEntry->List HP->Prop):Exit->Act->World->Prop:=
 bodyPost P fn λe w'=>(∃v m,e=.returned v/\R v m/\Holds E w' (m++fr))\/∃c m,e=.panicked c/\X c m/\Holds E w' (m++fr)
def DoesX.body{c:Code}{args:List Value}{R:Value->List HP->Prop}(O:P.funcs[f]?=some fn)(T:fn.body=some c)(Y:Nat.ble args.length fn.ntmps=true)
(h:∀E fr,G E->At E fn.ntmps [] (fU 0 args) (pre++fr) (c.wp P (H6 P fn E fr R X))):DoesX P G f args.toArray pre R X:=by
 intro E w fr hE hw;refine calls_of_wp O T<|h E fr hE _ _ ⟨?_,rfl,?_⟩ hw
 ·have:=Nat.le_of_ble_eq_true Y
  simp;omega
 ·intro i v hi
  obtain⟨_,I⟩:=fV args 0 i v hi;rw[Nat.sub_zero]at I;have J:i<args.length:=(gfGet.1 I).1;simp[Array.getElem?_append,J,(gfGet.1 I).2]
theorem lO{e:Exit}(T:e=.ret\/e=.normal)(h:At E n D ts l (nt P fn E fr R e)):At E n D ts l (H6 P fn E fr R X e):=λa w f hw=>by
 have:=h a w f hw;rcases T with rfl|rfl
 ·obtain⟨I,v,J,O⟩:=this
  exact⟨I,v,J,.inl O⟩
 ·obtain⟨I,v,J,O⟩:=this
  exact⟨I,v,J,.inl O⟩
def gN(m:List HP)(I:X c m)(J:Ent l (m++fr)):At E n [] ts l (H6 P fn E fr R X (.panic c)):=λ_ _ f hw=>
 ⟨f.defers,.inr ⟨c,m,rfl,I,hw.ent J⟩⟩
def cW(h:At E n D ts l (Q (.panic c))):At E n D ts l (Exit.then K Q (.panic c)):=h
def eX{id:Nat}(h:At E n D ts l (Q (.panic c))):At E n D ts l (Exit.inBlock id Q (.panic c)):=h
def jU{X:Type}{T:X->List (Nat×Value)}{L:X->List HP}{I:X->Prop}{μ:X->Nat}{m:Nat}(h:At E n D ts l (Q (.panic c))):At E n D ts l (zo n D E T L I μ m Q (.panic c)):=h
def E5(I:ev ts x=some (.iface t v))(h:At E n D ts l (Q (.panic [{v:=.iface t v,recovered:=false}]))):At E n D ts l (λa w=>(Oper.mk d (.panic x) ty pos af g).wp P a w K Q):=λa w f hw=>by
 have J:(execOp a.eval (Oper.mk d (.panic x) ty pos af g)).run P w=.halt (.panic (.iface t v)) w:=by simp[execOp,f.eval I,Instr.panic]
 show(Oper.mk d (.panic x) ty pos af g).wp P a w K Q;unfold Oper.wp;rw[J];exact h a w f hw
def wn{o:Oper}{args:Array Value}(O:(execOp a.eval o).run P w=.ok (.enter f args) w)(T:G E)(Y:DoesX P G f args pre R X)(hw:Holds E w (pre++fr))
(hk:∀v m w',R v m->Holds E w' (m++fr)->K (a.put o.dst v) w')(hp:∀c m w',X c m->Holds E w' (m++fr)->Q (.panic c) a w'):o.wp P a w K Q:=by
 unfold Oper.wp;rw[O];refine(Y E w fr T hw).mono λe w' h=>?_;rcases h with⟨v,m,I,hR,J⟩|⟨c,m,I,hX,J⟩
 ·subst I
  exact hk v m w' hR J
 ·subst I
  exact hp c m w' hX J
def om{at_:Array TypeId}{args:List Value}(hi:Nat.blt i n=true)(O:eT P f=true)(T:rE ts xs=some args)(Y:G E)
(hs:DoesX P G f args.toArray pre R X)(hl:Ent l (pre++fr))(hp:∀c m,X c m->At E n D ts (m++fr) (Q (.panic c)))(h:∀v m,R v m->At E n D ((i,v)::ts) (m++fr) K) :
 At E n D ts l (λa w=>(Oper.mk (some i) (.call {callee:=.value (.func f),args:=xs.toArray,argTypes:=at_}) ty pos af g).wp P a w K Q):=λa w I hw=>by
 refine wn (f:=f) (args:=args.toArray) ?_ Y hs (hw.ent hl) (λv m w' hR J=>h v m hR _ w' (I.put i (Nat.le_of_ble_eq_true hi) v) J) λc m w' hX J=>hp c m hX a w' I J;have:=eU I.knows T;simp[execOp,resolve,Deferred.ofValue,Act.eval,invoke,this,eZ O]
theorem zP{first:Array Value}{at_:Array TypeId}{args:List Value}(hi:Nat.blt i n=true)
(T:ev ts x=some (.func (.func f) first I))(Y:eT P f=true)(hx:rE ts xs=some args)(hE:G E)(hs:DoesX P G f (first++args.toArray++I) pre R X)(hl:Ent l (pre++fr))(hp:∀c m,X c m->At E n D ts (m++fr) (Q (.panic c)))
(h:∀v m,R v m->At E n D ((i,v)::ts) (m++fr) K) :
 At E n D ts l (λa w=>(Oper.mk (some i) (.call {callee:=.value x,args:=xs.toArray,argTypes:=at_}) ty pos af g).wp P a w K Q):=λa w J hw=>by
 refine wn (f:=f) (args:=first++args.toArray++I) ?_ hE hs (hw.ent hl) (λv m w' hR O=>h v m hR _ w' (J.put i (Nat.le_of_ble_eq_true hi) v) O) λc m w' hX O=>hp c m hX a w' J O;have:=eU J.knows hx;simp[execOp,resolve,Deferred.ofValue,J.eval T,invoke,this,eZ Y]
theorem jH{at_:Array TypeId}{args:List Value}(I:rE ts xs=some args)(h:∀w,φ w->(callFunc f args.toArray).run P w=.ok (.value v) w):Ev P ts (.call {callee:=.value (.func f),args:=xs.toArray,argTypes:=at_}) v φ:=by
 intro a w _ _ _ _ _ J O;have:=eU J I;simp[execOp,resolve,Deferred.ofValue,Act.eval,invoke,this,h w O]
theorem fR{r:Operand}{at_:Array TypeId}{args:List Value}(J:ev ts r=some (.iface t u))(O:rE ts xs=some args)(T:∀w,(Go.method (P.types.size+Made.depth) t u m).run P w=.ok (f,u') w)
(h:∀w,φ w->(callFunc f (u'::args).toArray).run P w=.ok (.value v) w):Ev P ts (.call {callee:=.invoke r m,args:=xs.toArray,argTypes:=at_}) v φ:=by
 intro a w _ _ _ _ _ I Y;have h1:=eU I O;have h2:(#[a.eval r]++(xs.toArray.map a.eval))=#[Value.iface t u]++args.toArray:=by simp[I.eval J,h1]
 simp only[execOp,resolve,Sem.run_bind,Sem.run_pure,Result.andThen_ok,h2,invoke];simp[callMethod,T,h w Y]
theorem zi{at_:Array TypeId}{args:List Value}{o:Obj}{v:Nat->Value}(hi:Nat.blt i n=true)(J:rE ts xs=some args)(O:∀w,(callFunc f args.toArray).run P w=.ok (.value (v w.heap.size)) (w.alloc o))
(h:∀b,At E n D ((i,v b)::ts) (ob b o::l) K):At E n D ts l (λa w=>(Oper.mk (some i) (.call {callee:=.value (.func f),args:=xs.toArray,argTypes:=at_}) ty pos af g).wp P a w K Q):=λa w I hw=>by
 have T:=eU I.knows J;have:(execOp a.eval (Oper.mk (some i) (.call {callee:=.value (.func f),args:=xs.toArray,argTypes:=at_}) ty pos af g)).run P w=.ok (.value (v w.heap.size)) (w.alloc o):=by
  simp[execOp,resolve,Deferred.ofValue,Act.eval,invoke,T,O w]
 show(Oper.mk (some i) (.call {callee:=.value (.func f),args:=xs.toArray,argTypes:=at_}) ty pos af g).wp P a w K Q;unfold Oper.wp;rw[this];exact h _ _ _ (I.put i (Nat.le_of_ble_eq_true hi) _)<|hw.alloc _
def gw{r:Operand}{at_:Array TypeId}{args:List Value}(hi:Nat.blt i n=true)(O:ev ts r=some (.iface t u))(T:rE ts xs=some args)
(I:∀w,(Go.method (P.types.size+Made.depth) t u m).run P w=.ok (f,u') w)(Y:eT P f=true)(hE:G E)(hs:Does P G f (u'::args).toArray pre R)(hl:Ent l (pre++fr))(h:∀v m,R v m->At E n D ((i,v)::ts) (m++fr) K) :
 At E n D ts l (λa w=>(Oper.mk (some i) (.call {callee:=.invoke r m,args:=xs.toArray,argTypes:=at_}) ty pos af g).wp P a w K Q):=λa w J hw=>by
 refine tY (f:=f) (args:=(u'::args).toArray) ?_ hE hs (hw.ent hl) λv m w' hR I=>h v m hR _ w' (J.put i (Nat.le_of_ble_eq_true hi) v) I;have h1:=eU J.knows T;have h2:(#[a.eval r]++(xs.toArray.map a.eval))=#[Value.iface t u]++args.toArray:=by simp[J.eval O,h1]
 simp only[execOp,resolve,Sem.run_bind,Sem.run_pure,Result.andThen_ok,h2,invoke];simp[callMethod,I,eZ Y]
theorem ev_as{s:TypeId}{d:TypeDesc}(I:P.underlying s=some d)(T:(match d with | .interface _=>true|_=>false)=false)(J:ev ts x=some (.iface s u)):Ev P ts (.typeAssert x t s true) (.tuple #[u,.bool true]) Any:=by
 intro a w _ _ _ _ _ O _;simp only[execOp,O.eval J,Instr.typeAssert,Sem.run_bind,run_underlying I,Result.andThen_ok];cases d<;>simp_all
def Nz{s:TypeId}(I:P.underlying s=some (.interface ms))(J:ev ts x=some (.iface s' u))(O:(P.info? s').map (λi=>(Go.lacking ms i.methods).isEmpty)=some true):Ev P ts (.typeAssert x t s true) (.tuple #[.iface s' u,.bool true]) Any:=by
 intro a w _ _ _ _ _ T _;simp[execOp,T.eval J,Go.run_typeAssert_hasB I O u t w]
theorem oN{s:TypeId}(I:P.underlying s=some (.interface ms))(J:ev ts x=some (.iface s' u))(O:(P.info? s').map (λi=>(Go.lacking ms i.methods).isEmpty)=some false)(T:(P.info? s).map (·.zero)=some (some z)):Ev P ts (.typeAssert x t s true) (.tuple #[z,.bool false]) Any:=by
 intro a w _ _ _ _ _ Y _;simp[execOp,Y.eval J,Go.run_typeAssert_lacksB I O T u t w]
theorem GY{s:TypeId}(O:P.underlying t=some (.interface ms))(T:ev ts x=some (.iface s u))(Y:ev ts y=some (.iface s' v))(I:Nat.beq s s'=false):Ev P ts (.binOp .eql t x y t') (.bool false) Any:=by
 intro ac w _ _ _ _ _ J _;have:s≠s':=λe=>by subst e;simp at I
 exact ff (J.eval T) (J.eval Y) (by simp[eqGuard]) (mQ Z λd=>by simp[Op.equalIn,run_underlying O,this])
def uB{s:TypeId}{u v:Int}{I:TypeInfo}{r:Bool}(O:P.underlying t=some (.interface ms))(T:P.underlying s=some (.int k))(hi:P.info? s=some I)(hc:I.comparable=true)(Y:ev ts x=some (.iface s (.int k u)))(hy:ev ts y=some (.iface s (.int k v)))(hr:(u==v)=r):Ev P ts (.binOp .eql t x y t') (.bool r) Any:=by
 intro ac w _ _ _ _ _ J _;subst hr;refine ff (J.eval Y) (J.eval hy) (by simp[eqGuard]) ?_;have h:∀d,(Op.equalIn (d+2) t (.iface s (.int k u)) (.iface s (.int k v))).run P w=.ok (u==v) w:=λd=>by
  simp[Op.equalIn,run_underlying O,run_underlying T,typeInfo,hi,hc]
 show(do pure (.bool (<-Op.equal t (.iface s (.int k u)) (.iface s (.int k v)))):Sem Value).run P w=_;simp only[Op.equal,Op.maxDepth,Sem.run_bind,h 9998,Result.andThen_ok,Sem.run_pure]
def Cq(P:Program)(E:Env)(ts:List (Nat×Value))(l:List HP)(r:ResultVar)(v:Value):Prop:=
 ∀(a:Act) (w:World),(∀i u,look i ts=some u->a.tmps[i]?=some u)->Holds E w l->((match r with | .tmp t=>pure (a.tmps.getD t undef) | .cell c t=>do loadVar t (<-asAddr (a.tmps.getD c undef))):Sem Value).run P w=.ok v w
def bS{t:Nat}(h:look t ts=some v):Cq P E ts l (.tmp t) v:=λa w k _=>by simp[fQ (k t v h)]
theorem dN{c:Nat}{p:Addr}(I:ky P t=some false)(h:look c ts=some (.pointer (some p)))(hc:∀w,Holds E w l->cw p v w):Cq P E ts l (.cell c t) v:=λa w k hw=>by
 simp only[fQ (k c _ h),asAddr,Sem.run_bind,Sem.run_pure,Result.andThen_ok];exact gL I<|hc w hw
def bU{c:Nat}{m:Nat}(I:ky P t=some true)(J:dq P t m)(O:vs.length=m)(h:look c ts=some (eg b o))(hc:∀w,Holds E w l->ie b o vs w):Cq P E ts l (.cell c t) (.agg vs.toArray):=λa w k hw=>by
 simp only[fQ (k c _ h),asAddr,Sem.run_bind,Sem.run_pure,Result.andThen_ok];exact yr I J O<|hc w hw
def Bj(I:fn.results=#[r])(h:Cq P E ts l r v)(k:∀i u,look i ts=some u->a.tmps[i]?=some u)(hw:Holds E w l):(results fn a.tmps).run P w=.ok v w:=by
 have:=h a w k hw;simp only[results,I];simp only[Array.mapM_eq_mapM_toList,List.mapM_cons,List.mapM_nil,Sem.run_bind,Sem.run_map];cases r<;>simp_all
def Bi(I:fn.results=#[r,s])(h:Cq P E ts l r u)(J:Cq P E ts l s v)(k:∀i u,look i ts=some u->a.tmps[i]?=some u)(hw:Holds E w l):(results fn a.tmps).run P w=.ok (.tuple #[u,v]) w:=by
 have O:=h a w k hw;have T:=J a w k hw;simp only[results,I];simp only[Array.mapM_eq_mapM_toList,List.mapM_cons,List.mapM_nil,Sem.run_bind,Sem.run_map];cases r<;>cases s<;>simp_all
def Bh{q:ResultVar}{x:Value}(J:fn.results=#[r,s,q])(h:Cq P E ts l r u)(O:Cq P E ts l s v)(I:Cq P E ts l q x)(k:∀i u,look i ts=some u->a.tmps[i]?=some u)(hw:Holds E w l):(results fn a.tmps).run P w=.ok (.tuple #[u,v,x]) w:=by
 have T:=h a w k hw;have Y:=O a w k hw;have h3:=I a w k hw;simp only[results,J];simp only[Array.mapM_eq_mapM_toList,List.mapM_cons,List.mapM_nil,Sem.run_bind,Sem.run_map];cases r<;>cases s<;>cases q<;>simp_all
def pz(m:List HP)(I:fn.results=#[r])(h:Cq P E ts l r v)(J:R v m)(O:Ent l (m++fr)):At E n [] ts l (nt P fn E fr R .ret):=λ_ _ f hw=>
 ⟨f.defers,v,Bj I h f.get hw,_,m,rfl,J,hw.ent O⟩
def de(m:List HP)(I:fn.results=#[r,s])(h:Cq P E ts l r u)(J:Cq P E ts l s v)(O:R (.tuple #[u,v]) m)(T:Ent l (m++fr)):At E n [] ts l (nt P fn E fr R .ret):=λ_ _ f hw=>
 ⟨f.defers,_,Bi I h J f.get hw,_,m,rfl,O,hw.ent T⟩
def fo{q:ResultVar}{x:Value}(m:List HP)(J:fn.results=#[r,s,q])(h:Cq P E ts l r u)(O:Cq P E ts l s v)(I:Cq P E ts l q x)(T:R (.tuple #[u,v,x]) m)(Y:Ent l (m++fr)):At E n [] ts l (nt P fn E fr R .ret):=λ_ _ f hw=>
 ⟨f.defers,_,Bh J h O I f.get hw,_,m,rfl,T,hw.ent Y⟩
end
end
open Go.RowKit
section
variable{ops:Array Oper}{rest:List Oper}{pos:String}
section
variable{fr l' pre:List HP}{u':FrameMode}
def nO(P:Program):List Field->Option (List (Nat×Nat))
 | []=>some []
 |f::fs=>match P.info? f.type,nO P fs with
  |some i,some r=>some ((f.offset,i.size)::r)
  |_,_=>none
def va{w:World}:∀{fs:List Field} {I:List (Nat×Nat)},nO P fs=some I->(fs.mapM λf=>(do pure (f.offset,<-sizeOf f.type):Sem (Nat×Nat))).run P w=.ok I w
 | [],I,h=>by simp[nO]at h;subst h;simp
 |f::fs,I,h=>by
  simp only[nO]at h
  split at h
  ·rename_i i r hi K
   injection h with h;subst h;have J:(sizeOf f.type).run P w=.ok i.size w:=by simp[sizeOf,typeInfo,hi]
   rw[List.mapM_cons];simp only[Sem.run_bind,J,Result.andThen_ok,Sem.run_pure,va K]
  ·cases h
def bI{I:List (Nat×Nat)}{ps:List (Nat×Operand)}(O:P.underlying t=some (.struct fs))(T:nO P fs.toList=some I)(Y:iV P t z)
(J:rE ts (ps.map (·.2))=some vs)(K:Instr.fill (I.toArray[·]?) z.cells ((ps.map (·.1)).zip vs)=some cs):Ev P ts (.build t ps.toArray) (.agg cs) Any:=by
 intro a w _ _ _ _ _ kn _;have he:(ps.toArray.map λp=>(p.1,a.eval p.2)).toList=(ps.map (·.1)).zip vs:=by
  have:=eU kn J;rw[<-this];simp;clear J K this
  induction ps with
  |nil=>rfl
  |cons p ps ih=>simp;exact ih
 simp only[execOp,Instr.build,Sem.run_bind,iZ Y,run_underlying O,Result.andThen_ok,Array.mapM_eq_mapM_toList,Sem.run_map,va T,he];simp only[Result.andThen_ok,K,Sem.run_pure]
def DoesD(P:Program)(G:Env->Prop)(f:FuncId)(args:Array Value)(u u':FrameMode)(pre:List HP)(R:List HP->Prop):Prop:=
 ∀E w fr,G E->Holds E w (pre++fr)->CallsD P f args u w λe I w'=>e=.returned (.tuple #[])/\I=u'/\∃m,R m/\Holds E w' (m++fr)
def H7(P:Program)(fn:Func)(E:Env)(fr:List HP)(R:Value->List HP->Prop):Exit->Act->World->Prop:=
 bodyPostD P fn λe w'=>∃v m,e=.returned v/\R v m/\Holds E w' (m++fr)
def pE{c:Code}{args:List Value}(K:P.funcs[f]?=some fn)(O:fn.body=some c)(T:Nat.ble args.length fn.ntmps=true)
(h:∀E fr,G E->At E fn.ntmps [] (fU 0 args) (pre++fr) (c.wp P (H7 P fn E fr R))):Does P G f args.toArray pre R:=by
 intro E w fr Y hw;refine calls_of_wp_defers K O<|h E fr Y _ _ ⟨?_,rfl,?_⟩ hw
 ·have:=Nat.le_of_ble_eq_true T
  simp;omega
 ·intro i v hi
  obtain⟨_,I⟩:=fV args 0 i v hi;rw[Nat.sub_zero]at I;have J:i<args.length:=(gfGet.1 I).1;simp[Array.getElem?_append,J,(gfGet.1 I).2]
theorem x8{first cap:Array Value}(J:ev ts x=some (.func (.func f) first cap))(h:At E n ({target:=.fn (.func f) cap,args:=first}::D) ts l K) :
 At E n D ts l (λa w=>(Oper.mk none (.defer {callee:=.value x,args:=#[],argTypes:=#[]}) ty pos af g).wp P a w K Q):=λa w I hw=>by
 have O:(execOp a.eval (Oper.mk none (.defer {callee:=.value x,args:=#[],argTypes:=#[]}) ty pos af g)).run P w=.ok (.defer {target:=.fn (.func f) cap,args:=first}) w:=by
  simp[execOp,resolve,Deferred.ofValue,I.eval J]
 show(Oper.mk none (.defer {callee:=.value x,args:=#[],argTypes:=#[]}) ty pos af g).wp P a w K Q;unfold Oper.wp;rw[O];exact h _ w ⟨I.size,by simp[Act.put,I.defers],λi v hi=>I.get i v hi⟩ hw
def iv{first cap:Array Value}{Rd:List HP->Prop}{e:Exit}(J:e=.ret\/e=.normal)(K:settle u'=.returning)(O:eT P f=true)(T:G E)
(Y:DoesD P G f (first++cap) .returning u' pre Rd)(hl:Ent l (pre++l'))(h:∀m,Rd m->At E n [] ts (m++l') (nt P fn E fr R .ret)):At E n [{target:=.fn (.func f) cap,args:=first}] ts l (H7 P fn E fr R e):=λa w I hw=>by
 have key:Leaves P fn a.tmps (λe w'=>∃v m,e=.returned v/\R v m/\Holds E w' (m++fr)) a.defers .returning w:=by
  rw[I.defers];refine leaves_cons (f:=f) (args:=first++cap) di (by simp[invoke,eZ O]) ((Y E w l' T (hw.ent hl)).mono ?_);rintro e d6 w' ⟨rfl,rfl,m,hm,hh⟩;simp only[K];obtain⟨_,v,hr,hx⟩:=h m hm {a with defers:=[]} w' ⟨I.size,rfl,I.get⟩ hh;exact⟨v,hr,hx⟩
 rcases J with rfl|rfl<;>exact key
def m8{first cap:Array Value}{Rd:List HP->Prop}{c:List PanicEntry}(J:settle u'=.returning)(K:eT P f=true)(O:G E)
(T:DoesD P G f (first++cap) (.panicking c) u' pre Rd)(Y:Ent l (pre++l'))(h:∀m,Rd m->At E n [] ts (m++l') (nt P fn E fr R .ret)):At E n [{target:=.fn (.func f) cap,args:=first}] ts l (H7 P fn E fr R (.panic c)):=λa w I hw=>by
 show Leaves P fn a.tmps (λe w'=>∃v m,e=.returned v/\R v m/\Holds E w' (m++fr)) a.defers (.panicking c) w;rw[I.defers];refine leaves_cons (f:=f) (args:=first++cap) di (by simp[invoke,eZ K]) ((T E w l' O (hw.ent Y)).mono ?_);rintro e d6 w' ⟨rfl,rfl,m,hm,hh⟩;simp only[J];obtain⟨_,v,hr,hx⟩:=h m hm {a with defers:=[]} w' ⟨I.size,rfl,I.get⟩ hh;exact⟨v,hr,hx⟩
def DoesD.recover{f:FuncId}{fn:Func}{c:Code}{id d:Nat}{args:List Value}{u u':FrameMode}{v:Value}{pre:List HP}{R:List HP->Prop}(hf:P.funcs[f]?=some fn)
(hb:fn.body=some (.seq (.region id #[⟨some d,.call {callee:=.builtin .recover,args:=#[],argTypes:=#[]},ty,pos,af,none⟩] false) c))(hn:Nat.ble args.length fn.ntmps=true)(hd:Nat.blt d fn.ntmps=true)
(hu:(u=.returning/\u'=.returning/\v=.nilIface)\/∃I,u=.panicking ({v:=v,recovered:=false}::I)/\u'=.panicking ({v:=v,recovered:=true}::I))
(h:∀E fr,G E->At E fn.ntmps [] ((d,v)::fU 0 args) (pre++fr) (c.wp P (nt P fn E fr λv m=>v=.tuple #[]/\R m))):DoesD P G f args.toArray u u' pre R:=by
 intro E w fr hE hw;refine callsD_of_wpS hf hb λO cs hc=>?_;have d6:Fits fn.ntmps [] (fU 0 args) {tmps:=args.toArray++Array.replicate (fn.ntmps-args.toArray.size) undef,defers:=[]}:=by
  refine⟨?_,rfl,?_⟩
  ·have:=Nat.le_of_ble_eq_true hn
   simp;omega
  ·intro i v hi
   obtain⟨_,T⟩:=fV args 0 i v hi;rw[Nat.sub_zero]at T;have d8:i<args.length:=(gfGet.1 T).1;simp[Array.getElem?_append,d8,(gfGet.1 T).2]
 have hk:=h E fr hE _ w (d6.put d (Nat.le_of_ble_eq_true hd) v) hw;have J:∀c₁:Frame,c₁={O with mode:=u'}->c.wpS P (bodyPostS P fn O cs λe d7 w'=>e=.returned (.tuple #[])/\d7=u'/\∃m,R m/\Holds E w' (m++fr)) (({tmps:=args.toArray++Array.replicate (fn.ntmps-args.toArray.size) undef,defers:=[]}:Act).put (some d) v) (c₁::cs) w:=by
  rintro c₁ rfl;refine wpS_of_wp<|Code.wp_mono ?_ hk
  intro e a w' Y;cases e with
  |normal=>exact let⟨h1,v,T,v',m,h3,⟨h4,h5⟩,h6⟩:=Y;⟨h1,u',rfl,v,T,by rw[h3,h4],rfl,m,h5,h6⟩
  |ret=>exact let⟨h1,v,T,v',m,h3,⟨h4,h5⟩,h6⟩:=Y;⟨h1,u',rfl,v,T,by rw[h3,h4],rfl,m,h5,h6⟩
  |panic c=>exact let⟨_,v',m,h3,_⟩:=Y;by cases h3
  |exit _=>exact Y.elim
  |goto _=>exact Y.elim
  |outgrown=>exact let⟨v',m,h3,_⟩:=Y;by cases h3
 apply wpS_seq;apply wpS_region;have d9:∀(a:Act) (w:World),(execOp a.eval ⟨some d,.call {callee:=.builtin .recover,args:=#[],argTypes:=#[]},ty,pos,af,none⟩).run P w=.ok .recover w:=λa w=>by
  simp[execOp,resolve,invoke,builtin]
 simp only[List.size_toArray,List.length_cons,List.length_nil,Nat.zero_add,List.range_one,wpOpsS,List.getElem?_toArray,List.getElem?_cons_zero,Region.wanted,if_true,d9];rcases hu with⟨rfl,rfl,rfl⟩|⟨I,rfl,rfl⟩
 ·have K:recoverD (O::cs)=none:=by simp[recoverD,hc]
  simp only[K,Exit.thenS];exact J O (by cases O;simp_all)
 ·have K:recoverD (O::cs)=some (v,{O with mode:=.panicking ({v:=v,recovered:=true}::I)}::cs):=by simp[recoverD,hc]
  simp only[K,Exit.thenS];exact J _ Z
end
end
open Go.RowKit
section
variable{ops:Array Oper}{rest:List Oper}{pos:String}
section
variable{b d:Bool}{c:Operand}
def gv(k:Bool)(v:Value):Value:=if k then v else undef
def cj{op:Op}(hi:Nat.blt i n=true)(I:Ev P ts op (.bool d) φ)(J:∀w,Holds E w l->φ w)(h:∀c:Bool,c=d->At E n D ((i,.bool c)::ts) l (wpList P ops Q rest)) :
 At E n D ts l (wpList P ops Q (⟨some i,op,ty,pos,af,none⟩::rest)):=mo hi I J (h d rfl)
def AtT(E:Env)(n:Nat)(D:List Deferred)(T:Bool->List (Nat×Value))(c:Bool)(l:List HP)(K:Act->World->Prop):Prop:=At E n D (T c) l K
def bK(c:Bool)(I:ts=T c)(h:AtT E n D T c l K):At E n D ts l K:=by
 subst I;exact h
def cz{c:Bool}{op:Op}{t:Nat}(hi:Nat.blt i n=true)(O:(ops[j]?).bind (·.dst)=some t)(Y:∀c,look t (T c)=some (.bool c))(I:Ev P (T b) op v φ)(hφ:∀w,Holds E w l->φ w)
(h:At E n D ((i,gv (c==b) v)::T c) l (wpList P ops Q rest)):AtT E n D T c l (wpList P ops Q (⟨some i,op,ty,pos,af,some (j,b)⟩::rest)):=by
 unfold AtT
 by_cases hc:c=b
 ·subst hc
  refine iS Z O (Y c)<|kW hi I hφ ?_
  have:gv (c==c) v=v:=by simp[gv]
  rwa [this]at h
 ·have J:c=!b:=by cases c<;>cases b<;>simp_all
  refine zY Z hi Z O (Y c) J ?_;have:gv (c==b) v=undef:=by simp[gv,hc]
  rwa [this]at h
def wT{xs:List Operand}{at_:Array TypeId}{args:List Value}{b:Nat}{tb:TypeId}[hh:Has b l (.cells cs tb) r](hi:Nat.blt i n=true)(J:rE ts xs=some args)(O:∀w,Holds E w l->φ w)
(T:∀w,φ w->w.heap[b]?=some (.cells cs tb)->(callFunc f args.toArray).run P w=.ok (.value u) (w.setCell ⟨b,j,none⟩ v))
(h:At E n D ((i,u)::ts) (blk b tb (cs.setIfInBounds j v)::r) K):At E n D ts l (λa w=>(Oper.mk (some i) (.call {callee:=.value (.func f),args:=xs.toArray,argTypes:=at_}) ty pos af g).wp P a w K Q):=λa w I hw=>by
 have Y:=eU I.knows J;have:(execOp a.eval (Oper.mk (some i) (.call {callee:=.value (.func f),args:=xs.toArray,argTypes:=at_}) ty pos af g)).run P w=.ok (.value u) (w.setCell ⟨b,j,none⟩ v):=by
  simp[execOp,resolve,Deferred.ofValue,Act.eval,invoke,Y,T w (O w hw) (hw.ob hh.sel).1]
 show(Oper.mk (some i) (.call {callee:=.value (.func f),args:=xs.toArray,argTypes:=at_}) ty pos af g).wp P a w K Q;unfold Oper.wp;rw[this];exact h _ _ (I.put i (Nat.le_of_ble_eq_true hi) u)<|hw.store hh.sel
def dV(hc:ev ts c=some (.bool b))(I:ev ts x=some (gv (b==true) (.bool d)))(J:ev ts y=some (.bool false)):Ev P ts (.pick c x y) (.bool (b&&d)) Any:=by
 have:=aF (P:=P) hc I J;cases b<;>exact this
def xf(hc:ev ts c=some (.bool b))(I:ev ts x=some (.bool true))(J:ev ts y=some (gv (b==false) (.bool d))):Ev P ts (.pick c x y) (.bool (b||d)) Any:=by
 have:=aF (P:=P) hc I J;cases b<;>exact this
end
end
end Go.SL
namespace Go.Y
open Go.Proofs Tryz Go.RowKit Go.Deep
def eO(l:List Int):List Value:=l.map (Value.int .i64)
def bn(n:FK.Node)(v:Value):List Value:=[.int .i64 n.NR,.int .i64 n.close,.int .i64 n.beat,.int .i64 n.base,.int .i64 n.cap,.int .i64 n.NS,v]
def dc:List FK.Node->List Value->List Value
 |n::l,v::vs=>bn n v++dc l vs
 |_,_=>[]
def L6(w:World)(base:Nat)(v:Value)(l:List Int):Prop:=w.ownsRow base 3 1 v l.length (eO l)
structure OwnNodes(w:World)(base:Nat)(v:Value)(l:List FK.Node)(vs:List Value):Prop where
 len:vs.length=l.length
 row:w.ownsRow base 51 7 v l.length (dc l vs)
 ints:∀(i:Nat) (n:FK.Node) (u:Value),l[i]?=some n->vs[i]?=some u->L6 w base u n.after
def nX:∀(l:List FK.Node) (vs:List Value) (n:FK.Node) (v:Value),vs.length=l.length->dc (l++[n]) (vs++[v])=dc l vs++bn n v
 | [],[],n,v,_=>by simp[dc]
 | [],_::_,_,_,h=>by simp at h
 |_::_,[],_,_,h=>by simp at h
 |m::l,u::vs,n,v,h=>by simp only[List.cons_append,dc,nX l vs n v (by simpa using h),List.append_assoc]
theorem mD:∀(l:List FK.Node) (vs:List Value) (i j:Nat) (n:FK.Node) (v:Value),vs.length=l.length->l[i]?=some n->vs[i]?=some v->j<7->(dc l vs)[i*7+j]?=(bn n v)[j]?
 | [],_,i,_,_,_,_,h,_,_=>by simp at h
 |_::_,[],i,_,_,_,h,_,_,_=>by simp at h
 |m::l,u::vs,0,j,n,v,h,h1,h2,hj=>by
  simp at h1 h2;subst h1;subst h2;simp only[dc,Nat.zero_mul,Nat.zero_add];rw[List.getElem?_append_left (by simp[bn];omega)]
 |m::l,u::vs,i+1,j,n,v,h,h1,h2,hj=>by
  simp only[List.getElem?_cons_succ]at h1 h2;simp only[dc];rw[List.getElem?_append_right (by simp[bn];omega)];have:(i+1)*7+j-(bn m u).length=i*7+j:=by simp[bn];omega
  rw[this];exact mD l vs i j n v (by simpa using h) h1 h2 hj
def j5:(prog.info? 3).map (λi=>(i.zero,i.size,i.bytes))=some (some (.int .i64 0),1,8):=by kernel_rfl
def zV:(prog.info? 51).map (λi=>(i.zero,i.size,i.bytes))=some (some (.agg #[.int .i64 0,.int .i64 0,.int .i64 0,.int .i64 0,.int .i64 0,.int .i64 0,.slice none 0 0]),7,72):=by kernel_rfl
def qe(l:List FK.Node):Prop:=l.length*72<=140737488355328/\∀n∈l,n.after.length*8<=140737488355328
def OwnNodes.nodesAt{base:Nat}{l:List FK.Node}(h:OwnNodes w base (.slice A l.length c) l vs)
(hr:∀n∈l,(i64 n.NR/\i64 n.close/\i64 n.beat/\i64 n.base/\i64 n.cap/\i64 n.NS)/\∀x∈n.after,i64 x):NodesAt w w.heap.size A c l:=by
 have J:=h.row;rcases J.2 with⟨K,h0⟩|⟨g,cap,f7,K,hb,hg,h1,h2,_⟩
 ·injection K with _ _ hc
  subst hc;exact⟨am,am,λhl=>by omega⟩
 ·injection K with hA _ hc
  subst hA;subst hc;refine⟨h1,by unfold maxLen at h2;omega,λhl=>⟨g,0,rfl,(Ik J rfl).2,λi n T=>?_⟩⟩;obtain⟨hi,_⟩:=gfGet.1 T;have Y:∃u,vs[i]?=some u:=⟨vs[i]'(by rw[h.len];exact hi),by simp⟩;obtain⟨u,Y⟩:=Y;have I:=h.ints i n u T Y;have E:∀j x,j<7->(bn n u)[j]?=some x->w.cell? ⟨g,0+i*7+j,none⟩=some x:=λj x hj hx=>by
   have:=J.cells (g:=g) rfl (i*7+j) x (by rw[mD l vs i j n u h.len T Y hj];exact hx);have e:(⟨g,0,none⟩:Addr).add (i*7+j)=⟨g,i*7+j,none⟩:=by unfold Addr.add;split<;>simp_all
   rw[e]at this;rw[Nat.zero_add];exact this
  obtain⟨A6,c6,rfl,d9,h6,d6⟩:=zL I;have O:=hr n (cg T);refine⟨E 0 _ am rfl,E 1 _ am rfl,E 2 _ am rfl,E 3 _ am rfl,E 4 _ am rfl,E 5 _ am rfl,⟨A6,c6,E 6 _ am rfl,O.2,h6,by unfold maxLen at d6;omega,λhl=>?_⟩,O.1⟩;rcases I.2 with⟨K,h0⟩|⟨g6,d7,d8,K,_⟩
  ·omega
  ·injection K with hA _ _
   subst hA;refine⟨g6,0,rfl,(Ik I rfl).2,λj x hx=>?_⟩;have:=I.cells (g:=g6) rfl j (.int .i64 x) (by simp[eO,hx]);have e:(⟨g6,0,none⟩:Addr).add j=⟨g6,j,none⟩:=by unfold Addr.add;split<;>simp_all
   rw[e]at this;rw[Nat.zero_add];exact this
end Go.Y
namespace Go.SL
open Go.RowKit
def j7{size:Nat}(s:Sel (row e size v m xs) l r)
(h0:v=cB->m=0->xs=[]->At E n D ts r K)
(h1:∀g cap I,v=dQ g m cap->xs.length=m*size->m<=cap->cap<=maxLen->I.size=cap*size->I.toList.take (m*size)=xs->At E n D ts (blk g e I::r) K):At E n D ts l K:=λa w f hw=>by
 have h:=hw.sel s;obtain⟨F1,F2,Y,O,hd,⟨⟨J,T⟩,hF⟩,hl⟩:=h.star;rcases T with⟨rfl,rfl⟩|⟨g,cap,I,rfl,_,hg,hm,hc,hs,ht⟩
 ·exact h0 Z Z (List.eq_nil_of_length_eq_zero (by simpa using J)) a w f ⟨hw.is,hl.mono O⟩
 ·exact h1 g cap I Z J hm hc hs ht a w f ⟨hw.is,F1,F2,Y,O,hd,⟨hF g Z,hg⟩,hl⟩
def aN{size:Nat}(s:Sel (row e size v m xs) l r)
(h:∀A c,v=.slice A m c->(A=none->m=0/\c=0)->(∀T,A=some T->∃g,T=⟨g,0,none⟩)->m<=c->c<=maxLen->xs.length=m*size->At E n D ts l K):At E n D ts l K:=λa w f hw=>by
 obtain⟨I,O⟩:=hw.row s;rcases O with⟨rfl,rfl⟩|⟨g,cap,Y,rfl,_,hg,hm,hc,hs,ht⟩
 ·exact h none 0 rfl (λ_=>⟨rfl,rfl⟩) (λ_ J=>by cases J) (cx _) (Nat.zero_le _) I a w f hw
 ·exact h _ cap rfl (λJ=>by cases J) (λT J=>by injection J with J;exact⟨g,J.symm⟩) hm hc I a w f hw
def fB{size g cap:Nat}(J:m<=cap)(hc:cap<=maxLen)(O:I.size=cap*size)(T:I.toList.take (m*size)=xs) :
 Ent (blk g e I::r) (row e size (dQ g m cap) m xs::r):=λw _ ⟨F1,F2,h1,h2,hd,Y,hl⟩=>
 ⟨F1,F2,h1,h2,hd,⟨⟨by rw[<-T];simp[O];rw[Nat.min_eq_left J],.inr ⟨g,cap,I,rfl,Nat.zero_le _,Y.2,J,hc,O,T⟩⟩,λk hk=>by injection hk with hk;subst hk;exact Y.1⟩,hl⟩
def ne{size g:Nat}(s:Sel (row e size (dQ g m c) m xs) l r)(h:∀j u,vs[j]?=some u->xs[o+j]?=some u):∀w,Holds E w l->ie g o vs w:=λw hw j v I=>by
 have:=(hw.row s).cells (g:=g) rfl (o+j) v (h j v I)
 rwa [add_plain,Nat.zero_add]at this
def ii{size g:Nat}(s:Sel (row e size (dQ g m c) m xs) l r)(h:xs[o]?=some u):∀w,Holds E w l->cw ⟨g,o,none⟩ u w:=λw hw=>by
 have:=(hw.row s).cells (g:=g) rfl o u h
 rwa [add_plain,Nat.zero_add]at this
def bC{m:List HP}(h:At E n D ts (m++l) K):At E n D ts (HP.all m::l) K:=λa w f hw=>h a w f (hw.ent Ent.unall)
end Go.SL
namespace Go.Y
open Go.Proofs Tryz Go.RowKit Go.SL
abbrev bL(v:Value)(l:List Int):HP:=row 3 1 v l.length (eO l)
def dC(vs:List Value)(l:List FK.Node):List HP:=(vs.zip l).map λp=>bL p.1 p.2.after
def nodesOwn(v:Value)(l:List FK.Node):HP:=HP.ex λvs:List Value=>HP.all (HP.pure (vs.length=l.length)::row 51 7 v l.length (dc l vs)::dC vs l)
def Star.mem{w:World}{p:HP}:∀{l:List HP} {F:Nat->Prop},Star w l F->p∈l->p.sat w F
 | [],_,_,h=>by cases h
 |q::l,F,⟨F1,F2,h1,h2,hd,hp,hl⟩,h=>by
  rcases List.mem_cons.1 h with rfl|h
  ·exact p.loc h1 (λ_ _=>rfl) hp
  ·exact p.loc h2 (λ_ _=>rfl)<|Star.mem hl h
def nodesOwn.own(s:Sel (nodesOwn v ns) l r)(hw:Holds E w l):∃vs,OwnNodes w 0 v ns vs:=by
 obtain⟨F1,F2,h1,h2,hd,⟨vs,Y⟩,hl⟩:=(hw.sel s).star;obtain⟨_,G2,_,_,_,J,_,G4,_,_,_,O,I⟩:=Y;refine⟨vs,J,O.1,λi nd u hi T=>?_⟩;have hz:(vs.zip ns)[i]?=some (u,nd):=by simp[List.getElem?_zip_eq_some,hi,T]
 have hm:bL u nd.after∈dC vs ns:=List.mem_map.2 ⟨(u,nd),cg hz,rfl⟩;exact(Star.mem I hm).1
def nodesOwn.at(s:Sel (nodesOwn (.slice A ns.length c) ns) l r)(I:∀n∈ns,(i64 n.NR/\i64 n.close/\i64 n.beat/\i64 n.base/\i64 n.cap/\i64 n.NS)/\∀x∈n.after,i64 x) :
 ∀w,Holds E w l->NodesAt w w.heap.size A c ns:=λw hw=>by
 obtain⟨vs,h⟩:=nodesOwn.own s hw;exact h.nodesAt I
def nodesOwn.ent(h:vs.length=ns.length):Ent (row 51 7 v ns.length (dc ns vs)::(dC vs ns++r)) (nodesOwn v ns::r):=by
 have e1:Ent (row 51 7 v ns.length (dc ns vs)::(dC vs ns++r)) ((HP.pure (vs.length=ns.length)::row 51 7 v ns.length (dc ns vs)::dC vs ns)++r):=Ent.pure h;exact(e1.trans Ent.all).trans (Ent.ex (f:=λvs:List Value=>HP.all (HP.pure (vs.length=ns.length)::row 51 7 v ns.length (dc ns vs)::dC vs ns)) vs)
def nk(s:Sel (nodesOwn v ns) l r)
(h:∀vs:List Value,vs.length=ns.length->At E n D ts (row 51 7 v ns.length (dc ns vs)::(dC vs ns++r)) K):At E n D ts l K:=λa w f hw=>by
 obtain⟨F1,F2,O,T,Y,⟨vs,J⟩,hl⟩:=(hw.sel s).star;obtain⟨F3,F4,h3,h4,d6,I,J⟩:=J;refine h vs I a w f ⟨hw.is,?_⟩;exact Star.join (l:=row 51 7 v ns.length (dc ns vs)::dC vs ns) (F1:=F1) (F2:=F2) O T Y (Star.mono h4 J) hl
end Go.Y
namespace FK
def tJ(b:List UInt8)(p:Nat):Nat->Nat->Nat->Except Nat (Nat×Nat)
 |0,_,_=>.error p
 |k+1,i,n=>match b[p+i]? with
  |none=>.error p
  |some c=>if c.toNat<128 then(if c.toNat=0/\0<i then .error p else .ok (n+c.toNat*128 ^ i,p+i+1)) else tJ b p k (i+1) (n+c.toNat%128*128 ^ i)
def Mb(b:List UInt8)(p:Nat):rd b p=tJ b p 3 0 0:=by
 unfold rd;simp only[tJ,Nat.add_zero];cases h0:b[p]? with
 |none=>rfl
 |some c=>
  simp only
  by_cases hc:c.toNat<128
  ·simp[hc]
  ·simp only[hc,if_false,Nat.zero_add]
   cases h1:b[p+1]? with
   |none=>rfl
   |some d=>
    simp only
    by_cases I:d.toNat<128
    ·simp only[I,if_true]
     by_cases E:d.toNat=0
     ·simp[E]
     ·simp[E]
    ·simp only[I,if_false]
     cases h2:b[p+2]? with
     |none=>rfl
     |some e=>
      simp only
      by_cases J:e.toNat<128
      ·simp only[J,if_true]
       by_cases E:e.toNat=0
       ·simp[E]
       ·simp[E]
      ·simp only[J,if_false]
theorem tM{b:List UInt8}{p q:Nat}(h:rd b p=.ok (n,q)):n<2097152/\p<q/\q<=b.length:=by
 unfold rd at h
 split at h
 ·cases h
 ·rename_i c hc
  have O:=(gfGet.1 hc).1
  split at h
  ·injection h with h;injection h with E I;omega
  ·split at h
   ·cases h
   ·rename_i d J
    have T:=(gfGet.1 J).1
    split at h
    ·split at h
     ·cases h
     ·injection h with h;injection h with E I;omega
    ·split at h
     ·cases h
     ·rename_i e K
      have Y:=(gfGet.1 K).1
      split at h
      ·split at h
       ·cases h
       ·injection h with h;injection h with E I;omega
      ·cases h
def iK(l:List Int)(after:List Int):Node:=⟨l.getD 0 0,l.getD 1 0,l.getD 2 0,l.getD 3 0,l.getD 4 0,l.getD 5 0,after⟩
def gW(b:List UInt8):Nat->List Int->Rd Node
 |0,l,p=>andThen (gu b (gp b) p) λafter p=>.ok (iK l after,p)
 |k+1,l,p=>andThen (gp b p) λx p=>gW b k (l++[x]) p
def Bn(b:List UInt8)(p:Nat):ig b p=gW b 6 [] p:=rfl
end FK
namespace Go
def Jj(i n c:Nat)(E:n<128 ^ i)(hi:i<=2)(hc:c<128):bits BinOp.or IntKind.i64 (n:Int) ((c*128 ^ i:Nat):Int)=((n+c*128 ^ i:Nat):Int):=by
 have J:128 ^ i=2 ^ (7*i):=by rw[Nat.pow_mul]
 have K:c*128 ^ i+n<2 ^ 63:=by
  have:i=0\/i=1\/i=2:=am;rcases this with rfl|rfl|rfl<;>simp at E ⊢<;>omega
 have hw:∀n:Int,0<=n->n<2 ^ 63->IntKind.i64.wrap n=n:=λn O I=>by
  have h3:(2:Int) ^ 63=9223372036854775808:=by decide
  exact IntWalk.i64_in n am
 have:=(bits_nat .i64 63 fh hw n (c*128 ^ i) am am).2;rw[this,J];have I:=Nat.two_pow_add_eq_or_of_lt (i:=7*i) (b:=n) (by rw[<-J];exact E) c;rw[Nat.or_comm,Nat.mul_comm c,<-I,Nat.add_comm]
theorem FB(c:Nat)(hc:c<256):bits BinOp.and IntKind.u8 (c:Int) 127=((c%128:Nat):Int):=by
 have:=u8_and_nat c 127 am am;rw[show((127:Int))=((127:Nat):Int) from rfl,this];have key:∀x:Fin 256,x.val&&&127=x.val%128:=by decide +kernel
 rw[key ⟨c,hc⟩]
end Go
namespace Go.Y
open Go.Proofs Tryz Go.RowKit Go.SL
structure Reads(p:HP)(A:Option Addr)(bs:List UInt8):Prop where
 form:bs≠[]->∃b o,A=some ⟨b,o,none⟩
 cell:∀w F,p.sat w F->∀b o,A=some ⟨b,o,none⟩->∀(j:Nat) (x:UInt8),bs[j]?=some x->w.cell? ⟨b,o+j,none⟩=some (zb x.toNat)
def Reads.at{bs:List UInt8}{x:UInt8}(h:Reads p A bs)(s:Sel p l r)(I:A=some ⟨b,o,none⟩)(J:bs[j]?=some x):∀w,Holds E w l->cw ⟨b,o+j,none⟩ (zb x.toNat) w:=λw hw=>by
 obtain⟨F1,_,_,_,_,K,_⟩:=(hw.sel s).star;exact h.cell w F1 K b o I j x J
def shl7(c i:Nat)(hc:c<128)(hi:i<=2):IntKind.i64.wrap ((c:Int)*2 ^ min (7*(i:Int)).toNat IntKind.i64.bits)=((c*128 ^ i:Nat):Int):=by
 have:i=0\/i=1\/i=2:=am;rcases this with rfl|rfl|rfl
 ·exact iP (x:=(c:Int)*1) am
 ·exact iP (x:=(c:Int)*128) am
 ·exact iP (x:=(c:Int)*16384) am
def iO{bs:List UInt8}(hp:Reads p A bs)(hl:bs.length<=1099511627776)(r q:Nat)(hq:q<=bs.length) :
 DoesX prog G 141 [eg r 0].toArray [blk r 249 #[.slice A bs.length c,aA q],p]
  (λu m=>∃n O:Nat,FK.rd bs q=.ok (n,O)/\u=aA n/\m=[blk r 249 #[.slice A bs.length c,aA O],p])
  (λx m=>∃e O:Nat,FK.rd bs q=.error e/\x=[{v:=.iface 246 (aA e),recovered:=false}]/\m=[blk r 249 #[.slice A bs.length c,aA O],p]):=by
 refine DoesX.body func141 Z Z λE fr hE=>aE<|sS<|sB Z<|sS<|cE 1 Z Z<|aL Z Z Z Z<|sA Z<|sB Z<|sQ<|cu (X:=Nat) (λ_=>[(3,aA q)]) (λO=>[blk r 249 #[.slice A bs.length c,aA O],p]++fr) (λ_=>FK.rd bs q=.error q) ?_ ?_
 ·refine bp Z<|sN<|ai<|aO (X:=Nat×Nat) (λx=>[(11,aA x.1),(4,aA x.2),(3,aA q),(0,eg r 0)]) (λx=>blk r 249 #[.slice A bs.length c,aA (q+x.1:Nat)]::p::fr) (λx=>x.1<=3/\x.2<128 ^ x.1/\FK.tJ bs q (3-x.1) x.1 x.2=FK.rd bs q/\q+x.1<=bs.length) (λx=>3-x.1) (0,0) ⟨am,by simp,(FK.Mb bs q).symm,hq⟩ bW aQ ?_
  rintro⟨i,n⟩ ⟨hi,hn,K,mt⟩;simp only at hi hn K mt ⊢;refine sS<|sP (bq Z Z Z)<|sN<|sQ<|aC Z (λf7=>?_) λf7=>?_
  ·have d9:i<=2:=am;refine aa<|sT<|sQ<|ai<|bp Z<|sB Z<|sQ<|sQ<|sZ Z<|ea Z Z<|dy 1 Z Z Z<|bN Z (au Z) (ah Z)<|cC Z Z<|dy 0 Z Z Z<|jW 7 Z (au Z) (ah Z)<|bB Z (bh Z Z)<|bB Z (bc Z Z Z)<|dE<|sT<|aC Z (λf8=>?_) λf8=>?_
   ·refine aM<|aw<|er Z<|aw<|az<|aq<|aT (q+i) (by rw[<-K,show 3-i=(2-i)+1 by omega,FK.tJ,List.getElem?_eq_none am]) bW aQ
   ·have T:q+i<bs.length:=am;obtain⟨b,o,hA⟩:=hp.form (by intro h;simp[h]at T);obtain⟨x,hx⟩:∃x,bs[q+i]?=some x:=⟨bs[q+i],by simp[T]⟩;have t6:=x.toNat_lt;have t7:128 ^ i<=16384:=Nat.pow_le_pow_right am (by omega:i<=2);have I:=K;rw[show 3-i=(2-i)+1 by omega,FK.tJ,hx]at I;simp only at I;refine aa<|sT<|sQ<|sZ Z<|ea Z Z<|dy 0 Z Z Z<|bN Z (au Z) (ah Z)<|cC Z Z<|dy 1 Z Z Z<|bN Z (au Z) (ah Z)<|bB Z (aV (z:=1) Z Z (by rw[hA];rfl) Z T)<|bN Z (au Z) (hp.at bJ hA (by simpa using hx))<|bB Z (aX Z)<|dE<|sT<|bp Z<|cZ Z<|bm 1 Z<|aL Z Z Z Z<|sP (bH Z Z (iP am))<|cZ Z<|bm 1 Z<|bD Z Z Z Z fW<|sN<|bp Z<|bY Z (ID Z Z (FB _ t6))<|sP (cD Z Z Z (iP am))<|bY Z (lq Z Z (iP am))<|sP (nF Z Z am (shl7 (x.toNat%128) i am d9))<|sP (zm Z Z (Jj i n (x.toNat%128) hn d9 am))<|sB Z<|bp Z<|sP (bq Z Z Z)<|ap<|sT<|aC Z (λf9=>?_) λf9=>?_
    ·rw[if_pos am]at I;have hm:x.toNat%128=x.toNat:=Nat.mod_eq_of_lt am;refine sQ<|sS<|sM Z (cj Z (bc Z Z Z) dp λY d6=>(sM Z ?_))
     refine bK Y (by rfl)<|cz Z Z (λ_=>rfl) (bg Z) dp<|bK Y (by rfl)<|cz Z Z (λ_=>rfl) (dX Z Z Z) dp<|cj Z (dV Z Z Z) dp λJ d7=>sN<|cf Z (λJ=>?_) λJ=>?_
     ·simp only[d7,d6,Bool.and_eq_true,decide_eq_true_eq]at J;refine aM<|aw<|er Z<|aw<|az<|aq<|aT (q+i+1) (by rw[<-I,if_pos am]) bW aQ
     ·rw[if_neg (by intro h;rw[d7,d6]at J;simp at J;omega)]at I;refine aa<|sT<|bp Z<|sB Z<|an<|aJ<|aD<|bM<|aJ<|pd<|lO (.inl Z)<|ar _ Z Z ⟨n+x.toNat%128*128 ^ i,q+i+1,by rw[<-I,hm],rfl,rfl⟩ aQ
    ·rw[if_neg am]at I;refine aa<|al<|sT<|sG<|sP (bH Z Z (iP am))<|sM Z<|ap<|aH (i+1,n+x.toNat%128*128 ^ i) ⟨by simp only;omega,by rw[Nat.pow_succ];have:=Nat.mul_le_mul_right (128 ^ i) (show x.toNat%128<=127 by omega);simp only;omega,by show FK.tJ bs q (3-(i+1)) (i+1) _=_;rw[show 3-(i+1)=2-i by omega];exact I,by simp only;omega⟩ (by simp only;omega) bW aQ
  ·obtain rfl:i=3:=am;exact aM<|aw<|az<|aq<|aT (q+3) K.symm bW aQ
 intro O d8;exact sG<|bY Z (em Z Z Z)<|sO<|E5 Z<|gN _ ⟨q,O,d8,rfl,rfl⟩ aQ
def FJ(k:Int):List UInt8:=FK.dJ k.toNat
def nz(d:Nat)(ns:List FK.Node)(k:Nat):List UInt8:=FK.dJ d++FK.dJ ns.length++(ns.take k).flatMap FK.js
def Eh{d:Nat}{k:Nat}{nd:FK.Node}(h:ns[k]?=some nd):nz d ns (k+1)=nz d ns k++FK.js nd:=by
 obtain⟨hk,E⟩:=gfGet.1 h;unfold nz;rw[List.take_succ_eq_append_getElem hk,E];simp
def G7{d:Nat}(K:d<=1048576)(E:ns.length<=12)(I:∀n∈ns,FK.fY n/\FK.EdgesOk ns.length (-1) n.after)(k:Nat):(nz d ns k).length<=700:=by
 have h:=flat_len FK.js 57 (ns.take k) λn J=>by
  have:=I n (List.mem_of_mem_take J);exact Cc E this.1 this.2
 have O:=FK.ef (n:=d) am;have T:=FK.ef (n:=ns.length) am;have h3:(ns.take k).length<=12:=by simp;omega
 have Y:57*(ns.take k).length<=57*12:=Nat.mul_le_mul_left _ h3;unfold nz;simp only[List.length_append];omega
def K8(b:Nat):∀j,j<6->(jf b 0)[j]?=some (eg b j)
 |0,_=>rfl|1,_=>rfl|2,_=>rfl|3,_=>rfl|4,_=>rfl|5,_=>rfl
 |j+6,h=>by omega
def GR(f:α->List UInt8)(l:List α)(j:Nat):((l.take j).flatMap f).length<=(l.flatMap f).length:=by
 have:l.flatMap f=(l.take j).flatMap f++(l.drop j).flatMap f:=by rw[<-List.flatMap_append,List.take_append_drop]
 rw[this];simp
def wC{l:List α}{x:α}(h:l[j]?=some x):l.take (j+1)=l.take j++[x]:=by
 obtain⟨E,I⟩:=gfGet.1 h;rw[List.take_succ_eq_append_getElem E,I]
def iN(nd:FK.Node)(E:Option Addr)(I:Nat):List Value:=[aA nd.NR,aA nd.close,aA nd.beat,aA nd.base,aA nd.cap,aA nd.NS,.slice E nd.after.length I]
theorem C6(J K O T Y z5 z6:Value)(nd:FK.Node)(E:Option Addr)(I:Nat):iW #[J,K,O,T,Y,z5,z6] 0 (iN nd E I)=(iN nd E I).toArray:=by simp[iW,iN]
theorem NodeAt.row{off:Nat}{nd:FK.Node}(h:NodeAt w B b off nd):∃I J,(∀j v,(iN nd I J)[j]?=some v->w.cell? ⟨b,off+j,none⟩=some v)/\IntsAt w B I J nd.after:=by
 obtain⟨K,O,T,h3,Y,h5,⟨A,c,h6,hi⟩,_⟩:=h;refine⟨A,c,λj v E=>?_,hi⟩
 match j,E with
 |0,E=>injection E with E;subst E;exact K
 |1,E=>injection E with E;subst E;exact O
 |2,E=>injection E with E;subst E;exact T
 |3,E=>injection E with E;subst E;exact h3
 |4,E=>injection E with E;subst E;exact Y
 |5,E=>injection E with E;subst E;exact h5
 |6,E=>injection E with E;subst E;exact h6
 |j+7,E=>simp[iN]at E
def Lj{nd:FK.Node}(h:FK.fY nd):∀x∈tK nd,0<=x/\x<=1048576:=by
 obtain⟨I,J,⟨K,O⟩,⟨T,Y⟩,⟨d1,d2⟩,⟨e1,e2⟩,f1,f2⟩:=h;intro x E;simp only[tK,List.mem_cons,List.not_mem_nil,or_false]at E;rcases E with rfl|rfl|rfl|rfl|rfl|rfl<;>omega
abbrev EI(e:Nat):List PanicEntry:=[{v:=.iface 246 (aA e),recovered:=false}]
section
variable{b bs:List UInt8}{l xs:List Int}{e q':Nat}
def rW(v:Value)(xs:List Int)(x:Int):bL v (xs++[x])=row 3 1 v (xs.length+1) (eO xs++[aA x]):=by simp[bL,eO]
theorem wW(r:FK.Rd α)(l:List α)(q:Nat):FK.lG r 0 l q=.ok (l,q):=rfl
def wX{r:FK.Rd α}{l:List α}{q:Nat}{x:α}(h:r q=.ok (x,q')):FK.lG r (n+1) l q=FK.lG r n (l++[x]) q':=by simp only[FK.lG,h]
theorem zQ{r:FK.Rd α}{l:List α}{q:Nat}(h:r q=.error e):FK.lG r (n+1) l q=.error e:=by simp only[FK.lG,h]
theorem wS{r:FK.Rd α}{q:Nat}(h:FK.rd b q=.ok (n,q')):FK.gu b r q=FK.lG r n [] q':=by simp only[FK.gu,h]
theorem vh{r:FK.Rd α}{q:Nat}(h:FK.rd b q=.error e):FK.gu b r q=.error e:=by simp only[FK.gu,h]
theorem pW{q:Nat}(h:FK.rd b q=.ok (n,q')):FK.gp b q=.ok ((n:Int),q'):=by simp only[FK.gp,h]
theorem qU{q:Nat}(h:FK.rd b q=.error e):FK.gp b q=.error e:=by simp only[FK.gp,h]
theorem Jx(hp:Reads p A bs)(hl:bs.length<=1099511627776)(r q:Nat)(hq:q<=bs.length) :
 DoesX prog G 183 [eg r 0,.func (.func 141) #[eg r 0] #[]].toArray [blk r 249 #[.slice A bs.length c,aA q],p]
  (λu m=>∃(xs:List Int) (q':Nat),FK.gu bs (FK.gp bs) q=.ok (xs,q')/\q'<=bs.length/\(∀x∈xs,0<=x/\x<2097152)/\m=[bL u xs,blk r 249 #[.slice A bs.length c,aA q'],p])
  (λx m=>∃e q':Nat,FK.gu bs (FK.gp bs) q=.error e/\x=EI e/\m=[blk r 249 #[.slice A bs.length c,aA q'],p]):=by
 refine DoesX.body func183 Z Z λE fr hE=>aE<|sS<|sB Z<|sS<|sB Z<|sQ<|bp Z<|sO<|om Z Z Z hE (iO hp hl r q hq) aQ ?_ ?_
 ·rintro c m ⟨e,q',he,rfl,rfl⟩;exact aE<|cW<|cW<|gN _ ⟨e,q',vh he,rfl,rfl⟩ aQ
 rintro v m ⟨n,q1,hn,rfl,rfl⟩;refine aE ?_;obtain⟨d8,d9,T⟩:=FK.tM hn;refine sB Z<|ai<|aO (X:=Nat×List Int×Value×Nat) (λx=>[(6,aA x.1),(5,x.2.2.1),(0,eg r 0),(1,.func (.func 141) #[eg r 0] #[])]) (λx=>bL x.2.2.1 x.2.1::blk r 249 #[.slice A bs.length c,aA x.2.2.2]::p::fr) (λx=>FK.lG (FK.gp bs) x.1 x.2.1 x.2.2.2=FK.gu bs (FK.gp bs) q/\x.2.2.2<=bs.length/\(∀y∈x.2.1,0<=y/\y<2097152)/\x.2.1.length+x.1<=2097152) (λx=>x.1) (n,[],cB,q1) ⟨(wS hn).symm,T,by simp,by simp;omega⟩ bW Ent.row0 ?_
 rintro⟨k,xs,v5,q2⟩ ⟨K,I,hb,J⟩;simp only at K I hb J ⊢;refine sQ<|bp Z<|sP (dX Z Z Z)<|sN<|aC Z (λO=>?_) λO=>?_
 ·obtain⟨k,rfl⟩:∃j,k=j+1:=⟨k-1,am⟩;refine aa<|sT<|sQ<|ai<|sG<|sM Z<|sM Z<|sO<|zP Z Z Z Z hE (iO (c:=c) hp hl r q2 I) (bo bJ bJ) ?_ ?_
  ·rintro c m ⟨e,q',he,rfl,rfl⟩;refine aE<|eX<|cW<|jU<|eX<|cW<|gN _ ⟨e,q',by rw[<-K,zQ (qU he)],rfl,rfl⟩<|Ent.cons<|Ent.cons Ent.drop
  rintro v m ⟨y,q3,hy,rfl,rfl⟩;refine aE ?_;obtain⟨f7,f8,Y⟩:=FK.tM hy;refine sO (fd (z:=aA 0) Z Z Z Z Z Z λd6=>dL rfl (ce rfl rfl j5 rfl am rfl rfl gP (news:=[aA y]) rfl fX iy eG gk am λv' d7=>sA Z<|ap<|al<|sT<|sG<|bY Z (dd (r:=(k:Int)) Z Z ib)<|sA Z<|ap (aH (k,xs++[(y:Int)],v',q3) ⟨by rw[<-K,wX (pW hy)],Y,λz hz=>(by rcases List.mem_append.1 hz with h|h;exact hb z h;simp at h;omega),by simp only[List.length_append,List.length_cons,List.length_nil];omega⟩ (by simp only;omega) bW (by rw[rW];exact Ent.cons Ent.drop))))
 ·obtain rfl:k=0:=am;refine aM<|aw<|az<|aq<|sT<|bp Z<|sB Z<|an<|lO (.inl Z)<|ar [_,_,_] rfl Z ⟨xs,q2,by rw[<-K,wW],I,hb,rfl⟩ aQ
def oq(xs:List Int):Array Value:=#[aA (xs.getD 0 0),aA (xs.getD 1 0),aA (xs.getD 2 0),aA (xs.getD 3 0),aA (xs.getD 4 0),aA (xs.getD 5 0),cB]
theorem Bv:∀(xs:List Int) (x:Int),xs.length<6->(oq xs).setIfInBounds xs.length (aA x)=oq (xs++[x])
 | [],_,_=>rfl | [_],_,_=>rfl | [_,_],_,_=>rfl | [_,_,_],_,_=>rfl | [_,_,_,_],_,_=>rfl | [_,_,_,_,_],_,_=>rfl
 |_::_::_::_::_::_::_,_,h=>by simp at h;omega
def vR(xs:List Int)(l:List Int)(v:Value):(oq xs).setIfInBounds 6 v=(bn (FK.iK xs l) v).toArray:=rfl
def AV(nd:FK.Node)(v:Value):iW (bn nd v).toArray 0 (bn nd v)=(bn nd v).toArray:=by simp[iW,bn]
theorem Gl{k:Nat}{q:Nat}(h:FK.rd b q=.ok (n,q')):FK.gW b (k+1) l q=FK.gW b k (l++[(n:Int)]) q':=by simp only[FK.gW,pW h,FK.andThen]
theorem Dp{k:Nat}{q:Nat}(h:FK.rd b q=.error e):FK.gW b (k+1) l q=.error e:=by simp only[FK.gW,qU h,FK.andThen]
theorem Bm{q:Nat}(h:FK.gu b (FK.gp b) q=.ok (xs,q')):FK.gW b 0 l q=.ok (FK.iK l xs,q'):=by simp only[FK.gW,h,FK.andThen]
theorem Dq{q:Nat}(h:FK.gu b (FK.gp b) q=.error e):FK.gW b 0 l q=.error e:=by simp only[FK.gW,h,FK.andThen]
def Small(nd:FK.Node):Prop:=(∀x∈tK nd,0<=x/\x<2097152)/\∀x∈nd.after,0<=x/\x<2097152
def Small.i64{nd:FK.Node}(h:Small nd):(i64 nd.NR/\i64 nd.close/\i64 nd.beat/\i64 nd.base/\i64 nd.cap/\i64 nd.NS)/\∀x∈nd.after,i64 x:=by
 have E:=h.1;simp only[tK,List.mem_cons,List.not_mem_nil,or_false,forall_eq_or_imp,forall_eq]at E;obtain⟨J,K,O,T,Y,a6⟩:=E;unfold Go.Y.i64;exact⟨⟨am,am,am,am,am,am⟩,λx I=>by have:=h.2 x I;omega⟩
def vo(h:∀x∈xs,0<=x/\x<2097152)(i:Nat):0<=xs.getD i 0/\xs.getD i 0<2097152:=by
 rw[List.getD_eq_getElem?_getD];cases hx:xs[i]? with
 |none=>simp
 |some x=>simpa using h x (cg hx)
def Bl(hp:Reads p A bs)(hl:bs.length<=1099511627776)(r q:Nat)(hq:q<=bs.length) :
 DoesX prog G 143 [eg r 0].toArray [blk r 249 #[.slice A bs.length c,aA q],p]
  (λu m=>∃(nd:FK.Node) (v:Value) (q':Nat),FK.ig bs q=.ok (nd,q')/\q'<=bs.length/\Small nd/\u=.agg (bn nd v).toArray/\m=[bL v nd.after,blk r 249 #[.slice A bs.length c,aA q'],p])
  (λx m=>∃e q':Nat,FK.ig bs q=.error e/\x=EI e/\m=[blk r 249 #[.slice A bs.length c,aA q'],p]):=by
 refine DoesX.body func143 Z Z λE fr hE=>aE<|sS<|sO (cO (z:=.agg #[aA 0,aA 0,aA 0,aA 0,aA 0,aA 0,cB]) Z λT=>(sN (sQ (sS (bV Z (B0 T) aQ (aW<|sM Z<|sN<|ai (aO (X:=List Int×Nat) (λx=>[(6,aA (x.1.length:Nat)),(5,.agg (jf T 0)),(2,eg T 0),(0,eg r 0)]) (λx=>blk T 51 (oq x.1)::blk r 249 #[.slice A bs.length c,aA x.2]::p::fr) (λx=>x.1.length<=6/\FK.gW bs (6-x.1.length) x.1 x.2=FK.ig bs q/\x.2<=bs.length/\∀y∈x.1,0<=y/\y<2097152) (λx=>6-x.1.length) ([],q) ⟨by simp,(FK.Bn bs q).symm,hq,by simp⟩ bW aQ ?_)))))))
 rintro⟨xs,q1⟩ ⟨d7,J,K,hb⟩;simp only at d7 J K hb ⊢;refine sS<|sP (bq Z Z Z)<|sN<|sQ<|aC Z (λc7=>?_) λc7=>?_
 ·have O:xs.length<6:=am;have I:6-xs.length=(5-xs.length)+1:=am;refine aa<|sT<|sQ<|ai<|sS<|sP (Aj Z Z Z Z Z O (K8 T xs.length O))<|sB Z<|sG<|sM Z<|sM Z<|sO<|om Z Z Z hE (iO (c:=c) hp hl r q1 K) (bo bJ bJ) ?_ ?_
  ·rintro c m ⟨e,q',he,rfl,rfl⟩;refine aE<|eX<|cW<|jU<|eX<|cW<|gN _ ⟨e,q',by rw[<-J,I,Dp he],rfl,rfl⟩<|Ent.cons<|Ent.cons Ent.drop
  rintro v m ⟨y,q3,Y,rfl,rfl⟩;refine aE ?_;obtain⟨f7,f8,d6⟩:=FK.tM Y;refine cZ Z<|bD Z Z Z Z (by simp[oq];omega) ?_
  rw[Bv xs y O];refine ap<|al<|sT<|sG<|sP (bH (r:=((xs++[(y:Int)]).length:Nat)) Z Z (by rw[iP am];simp))<|sM Z<|ap<|aH (xs++[(y:Int)],q3) ⟨by simp only[List.length_append,List.length_cons,List.length_nil];omega,by rw[<-J,I,Gl Y];simp only[List.length_append,List.length_cons,List.length_nil];rw[show 6-(xs.length+(0+1))=5-xs.length by omega],d6,λz hz=>(by rcases List.mem_append.1 hz with h|h;exact hb z h;simp at h;omega)⟩ (by simp only[List.length_append,List.length_cons,List.length_nil];omega) bW aQ
 ·have h6:xs.length=6:=am;rw[h6]at J;refine aM<|aw<|az<|aq<|sT<|bp Z<|sM Z<|sP (gj Z Z)<|sO<|om Z Z Z hE (Jx (c:=c) hp hl r q1 K) (bo bJ bJ) ?_ ?_
  ·rintro c m ⟨e,q',he,rfl,rfl⟩;refine aE<|cW<|gN _ ⟨e,q',by rw[<-J,Dq he],rfl,rfl⟩<|Ent.cons<|Ent.cons Ent.drop
  rintro v m ⟨l,q3,Y,d8,d9,rfl⟩;refine cF<|aN .head ?_
  rintro A6 c6 rfl _ _ _ _ _;refine bm 6 Z<|bD Z Z Z Z (by simp[oq]) ?_
  rw[vR xs l];refine sN<|sS<|bF (bR (vs:=bn (FK.iK xs l) (.slice A6 l.length c6)) Z) (bl Z)<|sO<|bk Z (m:=7) (vs:=bn (FK.iK xs l) (.slice A6 l.length c6)) Z Z Z Z (by simp[bn,Value.oneCell']) (by simp[bn]) ?_
  rw[AV];refine sN<|an<|lO (.inl rfl)<|pz [_,_,_] rfl (bU (vs:=bn (FK.iK xs l) (.slice A6 l.length c6)) rfl rfl rfl rfl (bl rfl)) ⟨FK.iK xs l,_,q3,by rw[<-J];exact Bm Y,d8,⟨λx J=>by simp only[tK,FK.iK,List.mem_cons,List.not_mem_nil,or_false]at J;rcases J with rfl|rfl|rfl|rfl|rfl|rfl<;>exact vo hb _,d9⟩,rfl,rfl⟩ Ent.drop
end
section
variable{fr:List HP}
def tB:∀(a:List HP) {b:List HP},Ent (a++b) b
 | [],_=>aQ
 |_::a,_=>Ent.drop.trans (tB a)
def xe(nd:FK.Node)(v:Value):Instr.fill (λi=>some (i*7,7)) (Array.map (λx=>(Value.agg #[aA 0,aA 0,aA 0,aA 0,aA 0,aA 0,cB]).cells[x%(Value.agg #[aA 0,aA 0,aA 0,aA 0,aA 0,aA 0,cB]).cells.size]!) (Array.range (1*7)))
 ((List.map (λx=>x.1) [((0:Nat),Operand.tmp 15)]).zip [Value.agg (bn nd v).toArray])=some (bn nd v).toArray:=by
 have e1:Array.range (1*7)=#[0,1,2,3,4,5,6]:=rfl;rw[e1];simp[Instr.fill,bn,Value.cells]
theorem sh{nd:FK.Node}(h:vs.length=ns.length):dC (vs++[v]) (ns++[nd])=dC vs ns++[bL v nd.after]:=by
 unfold dC;rw[List.zip_append h];simp
def DC{v':Value}{nd:FK.Node}{x y z:HP}(h:vs.length=ns.length) :
 Ent (row 51 7 v' (ns.length+1) (dc ns vs++bn nd u)::x::bL u nd.after::y::z::(dC vs ns++fr)) (y::z::row 51 7 v' (ns++[nd]).length (dc (ns++[nd]) (vs++[u]))::(dC (vs++[u]) (ns++[nd])++fr)):=by
 rw[sh h,nX ns vs nd u h,show(ns++[nd]).length=ns.length+1 by simp];refine(Ent.cons Ent.drop).trans (Ent.perm ?_);have E:(([row 51 7 v' (ns.length+1) (dc ns vs++bn nd u),bL u nd.after]++[y,z])++(dC vs ns++fr)).Perm (([y,z]++[row 51 7 v' (ns.length+1) (dc ns vs++bn nd u),bL u nd.after])++(dC vs ns++fr)):=List.perm_append_comm.append_right _;refine E.trans<|List.Perm.cons _<|List.Perm.cons _<|List.Perm.cons _ ?_
 have I:(bL u nd.after::(dC vs ns++fr)).Perm (dC vs ns++bL u nd.after::fr):=List.perm_middle.symm;simpa using I
def Bu{y z:HP}(h:vs.length=ns.length) :
 Ent (y::z::row 51 7 v ns.length (dc ns vs)::(dC vs ns++fr)) (nodesOwn v ns::y::z::fr):=by
 refine(Ent.perm ?_).trans (nodesOwn.ent h);have E:(([y,z]++(row 51 7 v ns.length (dc ns vs)::dC vs ns))++fr).Perm (((row 51 7 v ns.length (dc ns vs)::dC vs ns)++[y,z])++fr):=List.perm_append_comm.append_right _;simpa using E
def GC{bs:List UInt8}(hp:Reads p A bs)(hl:bs.length<=1099511627776)(r q:Nat)(hq:q<=bs.length) :
 DoesX prog G 142 [eg r 0,.func (.func 143) #[eg r 0] #[]].toArray [blk r 249 #[.slice A bs.length c,aA q],p]
  (λu m=>∃(ns:List FK.Node) (I:Nat),FK.gu bs (FK.ig bs) q=.ok (ns,I)/\I<=bs.length/\(∀x∈ns,Small x)/\(∃A' c',u=.slice A' ns.length c')/\m=[nodesOwn u ns,blk r 249 #[.slice A bs.length c,aA I],p])
  (λx m=>∃e I:Nat,FK.gu bs (FK.ig bs) q=.error e/\x=EI e/\m=[blk r 249 #[.slice A bs.length c,aA I],p]):=by
 refine DoesX.body func142 Z Z λE fr hE=>aE<|sS<|sB Z<|sS<|sB Z<|sQ<|bp Z<|sO<|om Z Z Z hE (iO hp hl r q hq) aQ ?_ ?_
 ·rintro c m ⟨e,I,he,rfl,rfl⟩;exact aE<|cW<|cW<|gN _ ⟨e,I,vh he,rfl,rfl⟩ aQ
 rintro v m ⟨n,q1,hn,rfl,rfl⟩;refine aE ?_;obtain⟨f9,mt,d7⟩:=FK.tM hn;refine sB Z<|ai<|aO (X:=Nat×List FK.Node×List Value×Value×Nat) (λx=>[(6,aA x.1),(5,x.2.2.2.1),(0,eg r 0),(1,.func (.func 143) #[eg r 0] #[])]) (λx=>blk r 249 #[.slice A bs.length c,aA x.2.2.2.2]::p::row 51 7 x.2.2.2.1 x.2.1.length (dc x.2.1 x.2.2.1)::(dC x.2.2.1 x.2.1++fr)) (λx=>FK.lG (FK.ig bs) x.1 x.2.1 x.2.2.2.2=FK.gu bs (FK.ig bs) q/\x.2.2.2.2<=bs.length/\(∀y∈x.2.1,Small y)/\x.2.1.length+x.1<=2097152/\x.2.2.1.length=x.2.1.length) (λx=>x.1) (n,[],[],cB,q1) ⟨(wS hn).symm,d7,by simp,by simp;omega,rfl⟩ bW (Ent.cons (Ent.cons Ent.row0)) ?_
 rintro⟨k,ns,vs,v5,q2⟩ ⟨hm,K,hb,O,J⟩;simp only at hm K hb O J ⊢;refine sQ<|bp Z<|sP (dX Z Z Z)<|sN<|aC Z (λd6=>?_) λd6=>?_
 ·obtain⟨k,rfl⟩:∃j,k=j+1:=⟨k-1,am⟩;refine aa<|sT<|sQ<|ai<|sG<|sM Z<|sM Z<|sO<|zP Z Z Z Z hE (Bl (c:=c) hp hl r q2 K) aQ ?_ ?_
  ·rintro c m ⟨e,I,he,rfl,rfl⟩;refine aE<|eX<|cW<|jU<|eX<|cW<|gN [_,_] ⟨e,I,by rw[<-hm,zQ he],rfl,rfl⟩<|Ent.cons<|Ent.cons<|Ent.drop.trans<|tB _
  rintro v m ⟨nd,u6,q3,hy,d8,d9,rfl,rfl⟩;refine cF<|aN .head ?_
  rintro T Y rfl _ _ _ _ _;refine sO (dw (m:=1) (z:=.agg #[aA 0,aA 0,aA 0,aA 0,aA 0,aA 0,cB]) (size:=7) (ps:=[(0,.tmp 15)]) (vs:=[.agg (bn nd (.slice T nd.after.length Y)).toArray]) (cs:=(bn nd (.slice T nd.after.length Y)).toArray) Z Z Z Z am am Z (xe _ _) λf7=>dL rfl (ce rfl rfl zV rfl am rfl rfl kK (news:=bn nd (.slice T nd.after.length Y)) rfl fX iy (by simp[bn,Value.oneCell']) gk am λv' f8=>sA Z<|ap<|al<|sT<|sG<|bY Z (dd (r:=(k:Int)) Z Z ib)<|sA Z<|ap (aH (k,ns++[nd],vs++[.slice T nd.after.length Y],v',q3) ⟨by rw[<-hm,wX hy],d8,λz hz=>(by rcases List.mem_append.1 hz with h|h;exact hb z h;simp at h;rw[h];exact d9),by simp only[List.length_append,List.length_cons,List.length_nil];omega,by simp[J]⟩ (by simp only;omega) bW<|DC J)))
 ·obtain rfl:k=0:=am;refine aN dm ?_;rintro T Y rfl _ _ _ _ _;refine aM<|aw<|az<|aq<|sT<|bp Z<|sB Z<|an<|lO (.inl Z)<|ar [_,_,_] rfl Z ⟨ns,q2,by rw[<-hm,wW],K,hb,⟨_,_,rfl⟩,rfl⟩<|Bu J
end
end Go.Y
namespace Go.SL
open Go.RowKit
end Go.SL
namespace Go.Y
open Go.Proofs Tryz Go.RowKit Go.SL
end Go.Y
namespace Go.SL
open Go.RowKit
section
variable{ops:Array Oper}{pos:String}
end
end Go.SL
namespace Go.Y
open Go.Proofs Tryz Go.RowKit Go.SL
def Ent.set:∀(l:List HP) (i:Nat) (x:HP),Ent (x::l) (l.set i x)
 | [],_,_=>Ent.drop
 |_::_,0,_=>Ent.cons Ent.drop
 |_::l,i+1,x=>(Ent.perm (List.Perm.swap _ _ _)).trans (Ent.cons (Ent.set l i x))
end Go.Y
namespace Go.SL
open Go.RowKit
def iz{α β:Type}(f:α->β):∀(l:List α) (j:Nat),(l.eraseIdx j).map f=(l.map f).eraseIdx j
 | [],_=>rfl
 |_::_,0=>rfl
 |_::l,j+1=>by simp[iz f l j]
theorem r6{k:IntKind}{x:Int}:∀{I:List MapEntry} {m:List (Int×Value)} {i:Nat},I.map (λe=>(e.key,e.val))=m.map (λp=>(Value.int k p.1,p.2))->
 Instr.findNow (.int k) (.int k x) I i=some ((m.findIdx? (·.1==x)).map λj=>(i+j,((m[j]?).map (·.2)).getD undef))
 | [],[],_,_=>rfl
 | [],_::_,_,h=>by cases h
 |_::_,[],_,h=>by cases h
 |e::I,p::m,i,h=>by
  simp only[List.map_cons,List.cons.injEq,Prod.mk.injEq]at h;obtain⟨⟨K,O⟩,h3⟩:=h;have T:=r6 (k:=k) (x:=x) (i:=i+1) h3;simp only[Instr.findNow,K,Instr.sameNow,if_true,List.findIdx?_cons]
  by_cases J:p.1=x
  ·subst J
   simp[O]
  ·have Y:(x==p.1)=false:=by simp;exact λh=>J h.symm
   have h5:(p.1==x)=false:=by simp[J]
   simp only[Y,h5,Bool.false_eq_true,if_false];rw[T];cases m.findIdx? (·.1==x)with
   |none=>rfl
   |some j=>simp;omega
section
variable{ops:Array Oper}{pos:String}
def AY(J:P.underlying t=some (.int k)){I:List MapEntry}{m:List (Int×Value)}(h:I.map (λe=>(e.key,e.val))=m.map (λp=>(Value.int k p.1,p.2)))(x:Int)(w:World) :
 (Instr.findKey t (.int k x) I).run P w=.ok ((m.findIdx? (·.1==x)).map λj=>(j,((m[j]?).map (·.2)).getD undef)) w:=by
 have:=r6 (x:=x) (i:=0) h;simp only[Nat.zero_add]at this;exact MapKept.run_findKey J this
end
open Go.RowKit
def kA(P:Program)(xs E:Array Value):List Field->Option Bool
 | []=>some true
 |f::fs=>bif f.name != "_" then
  match P.underlying f.type,xs[f.offset]?,E[f.offset]? with
  |some (.int _),some (.int k a),some (.int k' b)=>bif k==k' then(kA P xs E fs).map ((a==b)&&·) else none
  |_,_,_=>none
  else none
def mV{d:Nat}{w:World}{xs E:Array Value}:∀{fs:List Field} {r:Bool},kA P xs E fs=some r->(Op.eqFields (d+1) xs E fs).run P w=.ok r w
 | [],r,h=>by simp[kA]at h;subst h;simp[Op.eqFields]
 |f::fs,r,h=>by
  simp only[kA]at h;cases hn:f.name != "_" with
  |false=>rw[hn]at h;simp at h
  |true=>
   rw[hn,cond_true]at h;have J:f.name≠ "_":=by simpa using hn
   split at h
   ·rename_i k0 k a O b T hx hy
    cases hk:k==O with
    |false=>rw[hk]at h;simp at h
    |true=>
     rw[hk,cond_true,Option.map_eq_some_iff]at h;obtain⟨r',I,e⟩:=h;have ih:=mV (d:=d) (w:=w) I;have K:k=O:=by simpa using hk
     subst K;have Y:∀(cs:Array Value) (v:Value),cs[f.offset]?=some v->(part f.type cs f.offset).run P w=.ok v w:=λcs v hv=>by
      simp[part,isAgg,run_underlying T,hv]
     have he:(Op.equalIn (d+1) f.type (.int k a) (.int k b)).run P w=.ok (a==b) w:=run_equalIn_int w d f.type k k0 a b T;simp only[Op.eqFields,if_pos J,Sem.run_bind,Y xs _ hx,Y E _ hy,he,Result.andThen_ok];cases hab:a==b with
     |true=>rw[hab]at e;simp at e;subst e;simpa using ih
     |false=>rw[hab]at e;simp at e;subst e;simp
   ·cases h
def qq{xs:Array Value}{b r:Bool}(K:P.underlying t=some (.struct (P.fieldsOf t)))(O:P.stoodInHeld t=false)(T:P.eqGuardType P.depth t=false)(Y:ev ts x=some (.agg xs))(hy:ev ts y=some (.agg cs))(h:kA P xs cs (P.fieldsOf t).toList=some b)(hr:(!b)=r) :
 Ev P ts (.binOp .neq t x y ty) (.bool r) Any:=by
 intro ac w _ _ _ _ _ I _;subst hr;refine ff (I.eval Y) (I.eval hy) (run_eqGuard_agg w _ _ _ _ _ _ T) ?_;rw[run_neq_struct,run_equalIn_agg w 9999 t xs cs K O,mV h,Result.andThen_ok]
theorem kQ{xs:Array Value}{r:Bool}(K:P.underlying t=some (.struct (P.fieldsOf t)))(O:P.stoodInHeld t=false)(T:P.eqGuardType P.depth t=false)(Y:ev ts x=some (.agg xs))(hy:ev ts y=some (.agg cs))(h:kA P xs cs (P.fieldsOf t).toList=some r) :
 Ev P ts (.binOp .eql t x y ty) (.bool r) Any:=by
 intro ac w _ _ _ _ _ I _;refine ff (I.eval Y) (I.eval hy) (run_eqGuard_agg w _ _ _ _ _ _ T) ?_;rw[run_eql_struct,run_equalIn_agg w 9999 t xs cs K O,mV h,Result.andThen_ok]
open Go.RowKit
structure KeyK(P:Program)(kt:TypeId)(K:Type)[BEq K](enc:K->Value):Prop where
 check:∀(e:Bool) (k:K) (w:World),(Instr.checkKey e 10000 kt (enc k)).run P w=.ok () w
 find:∀(w:World) (es:List MapEntry) (m:List (K×Value)) (k:K),es.map (λe=>(e.key,e.val))=m.map (λp=>(enc p.1,p.2))->
  (Instr.findKey kt (enc k) es).run P w=.ok ((m.findIdx? (·.1==k)).map λj=>(j,((m[j]?).map (·.2)).getD undef)) w
 bits:∀k k':K,(k==k')=true->Instr.sameBits 10000 (enc k) (enc k')=true
 eq:∀k k':K,(k==k')=true->k=k'
def BZ(m:List (Nat×Value))(x:Nat):((m.map λp=>((p.1:Int),p.2)).findIdx? (·.1==(x:Int)))=m.findIdx? (·.1==x):=by
 induction m with
 |nil=>rfl
 |cons p m O=>
  simp only[List.map_cons,List.findIdx?_cons,O]
  by_cases h:p.1=x
  ·simp[h]
  ·have I:(p.1==x)=false:=by simp[h]
   have J:((p.1:Int)==(x:Int))=false:=by simp;omega
   rw[I,J]
theorem Nn(I:P.underlying kt=some (.int k)):KeyK P kt Nat (λx=>.int k (x:Int)) where
 check:=λe x w=>MapKept.run_checkKey (k:=.int k x) I (by simp[MapKept.IsKey]) e 9999
 find:=λw J m x h=>by
  have O:J.map (λe=>(e.key,e.val))=(m.map λp=>((p.1:Int),p.2)).map (λp=>(Value.int k p.1,p.2)):=by rw[h];simp
  rw[AY I O x w,BZ];cases m.findIdx? (·.1==x)with
  |none=>rfl
  |some j=>simp[Function.comp_def]
 bits:=λa b h=>by
  have:a=b:=by simpa using h
  subst this;simp[Instr.sameBits]
 eq:=λa b h=>by simpa using h
def r5{x:ByteArray}:∀{I:List MapEntry} {m:List (ByteArray×Value)} {i:Nat},I.map (λe=>(e.key,e.val))=m.map (λp=>(Value.string p.1,p.2))->
 Instr.findNow .string (.string x) I i=some ((m.findIdx? (·.1==x)).map λj=>(i+j,((m[j]?).map (·.2)).getD undef))
 | [],[],_,_=>rfl
 | [],_::_,_,h=>by cases h
 |_::_,[],_,h=>by cases h
 |e::I,p::m,i,h=>by
  simp only[List.map_cons,List.cons.injEq,Prod.mk.injEq]at h;obtain⟨⟨O,T⟩,h3⟩:=h;have Y:=r5 (x:=x) (i:=i+1) h3;simp only[Instr.findNow,O,Instr.sameNow,List.findIdx?_cons]
  by_cases J:p.1=x
  ·subst J
   have e1:(p.1==p.1)=true:=(MapKept.bytes_beq _ _).2 rfl;rw[e1];simp[T]
  ·have h4:(x==p.1)=false:=by
    cases hb:x==p.1 with
    |false=>rfl
    |true=>exact absurd ((MapKept.bytes_beq _ _).1 hb).symm J
   have h5:(p.1==x)=false:=by
    cases hb:p.1==x with
    |false=>rfl
    |true=>exact absurd ((MapKept.bytes_beq _ _).1 hb) J
   simp only[h4,h5,Bool.false_eq_true,if_false];rw[Y];cases m.findIdx? (·.1==x)with
   |none=>rfl
   |some j=>simp;omega
def Nl(I:P.underlying kt=some .string):KeyK P kt ByteArray (λx=>.string x) where
 check:=λe x w=>MapKept.run_checkKey (k:=.string x) I (by simp[MapKept.IsKey]) e 9999
 find:=λw J m x h=>by
  have:=r5 (x:=x) (i:=0) h;simp only[Nat.zero_add]at this;exact MapKept.run_findKey I this
 bits:=λa b h=>by simpa[Instr.sameBits]using h
 eq:=λa b h=>(MapKept.bytes_beq _ _).1 h
def oK(P:Program)(cs:Array Value):List Field->Bool
 | []=>true
 |f::fs=>(match P.underlying f.type,cs[f.offset]? with
  |some (.int _),some (.int _ _)=>true
  |_,_=>false)&&oK P cs fs
def qu(J:P.underlying t=some (.struct fs))(h:oK P cs fs.toList=true)(e:Bool)(n:Nat)(w:World):(Instr.checkKey e (n+2) t (.agg cs)).run P w=.ok () w:=by
 rw[Instr.checkKey];simp only[Sem.run_bind,run_underlying J,Result.andThen_ok];rw[<-Array.forIn_toList]
 generalize fs.toList=l at h ⊢
 clear J
 induction l with
 |nil=>simp
 |cons f l ih=>
  simp only[oK,Bool.and_eq_true]at h;obtain⟨O,Y⟩:=h;have I:=ih Y
  split at O
  ·rename_i k0 k a T hx
   have hp:(part f.type cs f.offset).run P w=.ok (.int k a) w:=by simp[part,isAgg,run_underlying T,hx]
   have hc:(Instr.checkKey e (n+1) f.type (.int k a)).run P w=.ok () w:=by
    rw[Instr.checkKey];simp[run_underlying T]
   simp only[List.forIn_cons,Sem.run_bind,Sem.run_ite]
   split
   ·simp only[hp,Result.andThen_ok,hc,Sem.run_pure]
    exact I
   ·simp only[Sem.run_pure,Result.andThen_ok]
    exact I
  ·cases O
def kH{t:TypeId}{K:Type}[BEq K]{enc:K->Value}(I:∀(w:World) (a b:K),(Op.equal t (enc a) (enc b)).run P w=.ok (a==b) w){x:K}(O:∀a b:K,(a==b)=(b==a)):∀{J:List MapEntry} {m:List (K×Value)} {i:Nat} {w:World},J.map (λe=>(e.key,e.val))=m.map (λp=>(enc p.1,p.2))->
 (Instr.findAsking t (enc x) J i).run P w=.ok ((m.findIdx? (·.1==x)).map λj=>(i+j,((m[j]?).map (·.2)).getD undef)) w
 | [],[],_,_,_=>rfl
 | [],_::_,_,_,h=>by cases h
 |_::_,[],_,_,h=>by cases h
 |e::J,p::m,i,w,h=>by
  simp only[List.map_cons,List.cons.injEq,Prod.mk.injEq]at h;obtain⟨⟨T,Y⟩,h3⟩:=h;have ih:=kH I (x:=x) O (i:=i+1) (w:=w) h3;simp only[Instr.findAsking,T,Sem.run_bind,I,Result.andThen_ok,List.findIdx?_cons,O x p.1];cases hx:p.1==x with
  |true=>simp[Y]
  |false=>
   simp only[Bool.false_eq_true,if_false];rw[ih];cases m.findIdx? (·.1==x)with
   |none=>rfl
   |some j=>simp;omega
def Nm[BEq α]{arr:α->Array Value}(J:P.underlying kt=some (.struct (P.fieldsOf kt)))(hp:P.stoodInHeld kt=false)(hf:∀a,oK P (arr a) (P.fieldsOf kt).toList=true)
(he:∀a b,kA P (arr a) (arr b) (P.fieldsOf kt).toList=some (a==b))(hs:∀a b:α,(a==b)=(b==a))(Y:∀k k':α,(k==k')=true->k=k')(I:∀k:α,Instr.sameBits 10000 (.agg (arr k)) (.agg (arr k))=true):KeyK P kt α (λk=>.agg (arr k)) where
 check:=λe k w=>qu J (hf k) e 9998 w
 find:=λw O m k h=>by
  have T:∀(w:World) (a b:α),(Op.equal kt (.agg (arr a)) (.agg (arr b))).run P w=.ok (a==b) w:=λw a b=>by
   show(Op.equalIn 10000 kt (.agg (arr a)) (.agg (arr b))).run P w=_;rw[run_equalIn_agg w 9999 kt _ _ J hp,mV (he a b)]
  have:=kH (enc:=λk=>.agg (arr k)) T (x:=k) hs (i:=0) (w:=w) h;simp only[Nat.zero_add]at this;unfold Instr.findKey;rw[Sem.run_bind,run_underlying J,Result.andThen_ok];cases O with
  |nil=>
   cases m with
   |nil=>rfl
   |cons _ _=>cases h
  |cons e O=>
   have hn:Instr.findNow (.struct (P.fieldsOf kt)) (.agg (arr k)) (e::O) 0=none:=by
    simp[Instr.findNow,Instr.sameNow]
   simp only[hn];exact this
 bits:=λa b h=>by rw[Y a b h];exact I b
 eq:=Y
def kB{K:Type}(enc:K->Value)(b:Nat)(m:List (K×Value))(w:World):Prop:=
 ∃J I,w.heap[b]?=some (.map J I)/\J.toList.map (λe=>(e.key,e.val))=m.map (λp=>(enc p.1,p.2))/\(∀x∈J.toList,x.born<I)/\(J.toList.map (·.born)).Nodup
def dh{K:Type}(enc:K->Value)(b:Nat)(m:List (K×Value)):HP where
 sat w F:=F b/\kB enc b m w
 loc hFG hk h:=⟨hFG _ h.1,let⟨es,c,h1,h2⟩:=h.2;⟨es,c,(hk _ h.1).trans h1,h2⟩⟩
def eH{K:Type}[BEq K](m:List (K×Value))(x:K):Option Value:=(m.find? (·.1==x)).map (·.2)
def ix[BEq α](m:List (α×Value))(x:α):((m.findIdx? (·.1==x)).map λj=>((m[j]?).map (·.2)).getD undef)=eH m x:=by
 unfold eH
 induction m with
 |nil=>rfl
 |cons p m I=>
  simp only[List.findIdx?_cons,List.find?_cons];cases hx:p.1==x with
  |true=>simp
  |false=>
   rw[<-I];cases m.findIdx? (·.1==x)with
   |none=>rfl
   |some j=>simp
section
variable{ops:Array Oper}{pos:String}{K:Type}{enc:K->Value}
def jm{m:List (K×Value)}(s:Sel (dh enc b m) l r):∀w,Holds E w l->kB enc b m w:=λw hw=>by
 obtain⟨F1,_,_,_,_,I,_⟩:=(hw.sel s).star;exact I.2
def Holds.setVMap{m T:List (K×Value)}{I:Array MapEntry}(hw:Holds E w (dh enc b m::r))(J:I.toList.map (λe=>(e.key,e.val))=T.map λp=>(enc p.1,p.2))(h1:∀x∈I.toList,x.born<c)(h2:(I.toList.map (·.born)).Nodup) :
 Holds E {w with heap:=w.heap.setIfInBounds b (.map I c)} (dh enc b T::r):=by
 refine hw.turn Z Z Z di λF1 O Y=>⟨F1,λk hk=>⟨.inl hk,by simpa using(Y k hk).1⟩,⟨O.1,I,c,?_,J,h1,h2⟩,λk _ hk=>?_⟩
 ·have:=(Y b O.1).1
  simp[this]
 ·have:k≠b:=λh=>by subst h;exact hk O.1
  simp[Array.getElem?_setIfInBounds_ne (Ne.symm this)]
end
section
variable{ops:Array Oper}{pos:String}{K:Type}[BEq K]{enc:K->Value}
section
variable{et:TypeId}
theorem Ah{m:List (K×Value)}{a:K}(O:P.underlying t=some (.map kt et))(hk:KeyK P kt K enc)(T:iV P et z)(Y:ev ts x=some (.map (some b)))(hy:ev ts y=some (enc a)) :
 Ev P ts (.lookup t x y true) (.tuple #[(eH m a).getD z,.bool (eH m a).isSome]) (kB enc b m):=by
 intro ac w _ _ _ _ _ J ⟨es,c,hb,hm,_⟩;have h1:=hk.find w es.toList m a hm;have I:=ix m a;have hg:=MapKept.run_getObj_map (P:=P) hb;simp only[execOp,J.eval Y,J.eval hy,Instr.lookup,Sem.run_bind,run_underlying O,Result.andThen_ok,hg,hk.check,h1,Sem.run_pure];cases hf:m.findIdx? (·.1==a)with
 |none=>
  rw[hf]at I;simp only[Option.map_none]at I;simp[<-I,iZ T]
 |some j=>
  rw[hf]at I;simp only[Option.map_some]at I;simp[<-I]
theorem kZ{m:List (K×Value)}{a:K}(O:P.underlying t=some (.map kt et))(hk:KeyK P kt K enc)(T:ev ts x=some (.map (some b)))(Y:ev ts y=some (enc a))(hv:eH m a=some v) :
 Ev P ts (.lookup t x y true) (.tuple #[v,.bool true]) (kB enc b m):=by
 intro ac w _ _ _ _ _ J ⟨es,c,hb,hm,_⟩;have h1:=hk.find w es.toList m a hm;have I:=ix m a;rw[hv]at I;have hg:=MapKept.run_getObj_map (P:=P) hb;simp only[execOp,J.eval T,J.eval Y,Instr.lookup,Sem.run_bind,run_underlying O,Result.andThen_ok,hg,hk.check,h1,Sem.run_pure];cases hf:m.findIdx? (·.1==a)with
 |none=>rw[hf]at I;simp at I
 |some j=>
  rw[hf]at I;simp only[Option.map_some,Option.some.injEq]at I;simp[I]
theorem k9{m:List (K×Value)}{a:K}(I:P.underlying t=some (.map kt et))(hk:KeyK P kt K enc)(J:iV P et z)(O:ev ts x=some (.map (some b)))(T:ev ts y=some (enc a))(Y:eH m a=none) :
 Ev P ts (.lookup t x y true) (.tuple #[z,.bool false]) (kB enc b m):=by
 have:=Ah (m:=m) I hk J O T;rw[Y]at this;exact this
theorem hZ{m:List (K×Value)}{a:K}(O:P.underlying t=some (.map kt et))(hk:KeyK P kt K enc)(T:ev ts x=some (.map (some b)))(Y:ev ts y=some (enc a))(hv:eH m a=some v) :
 Ev P ts (.lookup t x y false) v (kB enc b m):=by
 intro ac w _ _ _ _ _ J ⟨es,c,hb,hm,_⟩;have h1:=hk.find w es.toList m a hm;have I:=ix m a;rw[hv]at I;have hg:=MapKept.run_getObj_map (P:=P) hb;simp only[execOp,J.eval T,J.eval Y,Instr.lookup,Sem.run_bind,run_underlying O,Result.andThen_ok,hg,hk.check,h1,Sem.run_pure];cases hf:m.findIdx? (·.1==a)with
 |none=>rw[hf]at I;simp at I
 |some j=>
  rw[hf]at I;simp only[Option.map_some,Option.some.injEq]at I;simp[I]
theorem xK{z:Operand}{m:List (K×Value)}{a:K}(hd:d=none)(ht:P.underlying t=some (.map kt et))(hk:KeyK P kt K enc)(hx:ev ts x=some (.map (some b)))(I:ev ts y=some (enc a))(O:ev ts z=some v)
(s:Sel (dh enc b m) l r)(hn:eH m a=none)(h:At E n D ts (dh enc b (m++[(a,v)])::r) Kk):At E n D ts l (λac w=>(Oper.mk d (.mapUpdate t x y z) ty pos af g).wp P ac w Kk Q):=λac w f hw=>by
 subst hd;have J:=hw.sel s;obtain⟨T,c,hb,hm,hs1,Y⟩:=jm .head w J;have h1:=hk.find w T.toList m a hm;have h2:=ix m a;have hg:=MapKept.run_getObj_map (P:=P) hb;have hf:m.findIdx? (·.1==a)=none:=by
  cases hf:m.findIdx? (·.1==a)with
  |none=>rfl
  |some j=>rw[hf,hn]at h2;simp at h2
 rw[hf]at h1;have hs:=MapKept.run_setObj_map (P:=P) (.map (T.push {key:=enc a,val:=v,born:=c}) (c+1)) hb;have hr:(execOp ac.eval (Oper.mk none (.mapUpdate t x y z) ty pos af g)).run P w=.ok .skip {w with heap:=w.heap.setIfInBounds b (.map (T.push {key:=enc a,val:=v,born:=c}) (c+1))}:=by
  simp only[execOp,f.eval hx,f.eval I,f.eval O,Instr.mapUpdate,Sem.run_bind,run_underlying ht,Result.andThen_ok,hg,hk.check,h1,Option.map_none,hs,Sem.run_pure]
 unfold Oper.wp;rw[hr];refine h ac _ f<|J.setVMap (by simp[hm]) (λy I=>?_) ?_
 ·rw[Array.toList_push,List.mem_append]at I
  rcases I with I|I
  ·exact Nat.lt_succ_of_lt<|hs1 y I
  ·simp at I;subst I;exact Nat.lt_succ_self _
 ·rw[Array.toList_push,List.map_append,List.nodup_append]
  refine⟨Y,by simp,λy I z O=>?_⟩;obtain⟨e,he,rfl⟩:=List.mem_map.1 I;simp at O;subst O;exact Nat.ne_of_lt<|hs1 e he
theorem xL{m:List (K×Value)}{a:K}(hd:d=none)(ht:P.underlying t=some (.map kt et))(hk:KeyK P kt K enc)(hx:ev ts x=some (.map (some b)))(hy:ev ts y=some (enc a))
(s:Sel (dh enc b m) l r)(h:At E n D ts (dh enc b (m.eraseP (·.1==a))::r) Kk):At E n D ts l (λac w=>(Oper.mk d (.call {callee:=.builtin .delete,args:=#[x,y],argTypes:=#[t,kt]}) ty pos af g).wp P ac w Kk Q):=λac w f hw=>by
 subst hd;have d8:=hw.sel s;obtain⟨J,c,hb,hm,hs1,O⟩:=jm .head w d8;have h1:=hk.find w J.toList m a hm;have hg:=MapKept.run_getObj_map (P:=P) hb;obtain⟨I,T,Y,d6,d7⟩:∃I:Array MapEntry,I.toList.map (λe=>(e.key,e.val))=(m.eraseP (·.1==a)).map (λp=>(enc p.1,p.2))/\(∀x∈I.toList,x.born<c)/\(I.toList.map (·.born)).Nodup/\(Builtin.delete_ #[t,kt] ty #[.map (some b),enc a]).run P w=.ok (.tuple #[]) {w with heap:=w.heap.setIfInBounds b (.map I c)}:=by
  cases hf:m.findIdx? (·.1==a)with
  |none=>
   rw[hf]at h1;have hs:=MapKept.run_setObj_map (P:=P) (.map J c) hb;refine⟨J,?_,hs1,O,?_⟩
   ·rw[hm,List.eraseP_of_forall_not]
    intro p hp;have:=List.findIdx?_eq_none_iff.1 hf p hp;simpa using this
   ·simp only[Builtin.delete_,List.getElem?_toArray,List.getElem?_cons_zero,List.getElem?_cons_succ,Sem.run_bind,run_underlying ht,Result.andThen_ok,hg,hk.check,h1,Option.map_none,hs,Sem.run_pure]
  |some j=>
   rw[hf]at h1;have hs:=MapKept.run_setObj_map (P:=P) (.map (J.eraseIdxIfInBounds j) c) hb;have he:(J.eraseIdxIfInBounds j).toList=J.toList.eraseIdx j:=by
    unfold Array.eraseIdxIfInBounds
    split
    ·simp
    ·rename_i d9
     rw[List.eraseIdx_of_length_le (by simpa using d9)]
   refine⟨J.eraseIdxIfInBounds j,?_,?_,?_,?_⟩
   ·rw[he,iz,hm,<-iz,List.eraseP_eq_eraseIdx,hf]
   ·intro x hx
    rw[he]at hx;exact hs1 x ((List.eraseIdx_sublist _ _).subset hx)
   ·rw[he]
    exact O.sublist ((List.eraseIdx_sublist _ _).map _)
   ·simp only[Builtin.delete_,List.getElem?_toArray,List.getElem?_cons_zero,List.getElem?_cons_succ,Sem.run_bind,run_underlying ht,Result.andThen_ok,hg,hk.check,h1,Option.map_some,hs,Sem.run_pure]
 have hr:(execOp ac.eval (Oper.mk none (.call {callee:=.builtin .delete,args:=#[x,y],argTypes:=#[t,kt]}) ty pos af g)).run P w=.ok (.value (.tuple #[])) {w with heap:=w.heap.setIfInBounds b (.map I c)}:=by
  simp[execOp,resolve,invoke,builtin,f.eval hx,f.eval hy,d7]
 unfold Oper.wp;rw[hr];exact h ac _ f<|d8.setVMap T Y d6
end
end
section
variable{ops:Array Oper}{pos:String}{K:Type}{enc:K->Value}
def Fq{m:List (K×Value)}(I:P.underlying t=some (.map kt s))(J:ev ts x=some (.map (some b))):Ev P ts (.call {callee:=.builtin .len,args:=#[x],argTypes:=#[t]}) (aA m.length) (kB enc b m):=by
 intro a w _ _ _ _ _ O ⟨T,c,Y,hm,_⟩;have hg:=MapKept.run_getObj_map (P:=P) Y;have hl:T.size=m.length:=by
  have:=congrArg List.length hm;simpa using this
 simp[execOp,resolve,invoke,builtin,Builtin.len_,O.eval J,run_underlying I,goInt,hg,hl]
variable(enc) in
def jQ(hi:Nat.blt i n=true)(h:∀b,At E n D ((i,.map (some b))::ts) (dh enc b []::l) Kk):At E n D ts l (λac w=>(Oper.mk (some i) (.makeMap t none) ty pos af g).wp P ac w Kk Q):=λac w f hw=>by
 have hr:(execOp ac.eval (Oper.mk (some i) (.makeMap t none) ty pos af g)).run P w=.ok (.value (.map (some w.heap.size))) (w.alloc (.map #[] 0)):=rfl;show(Oper.mk (some i) (.makeMap t none) ty pos af g).wp P ac w Kk Q;unfold Oper.wp;rw[hr];have h0:=hw.alloc (.map #[] 0);refine h _ _ _ (f.put i (Nat.le_of_ble_eq_true hi) _)<|h0.ent<|λw F ⟨F1,F2,J,O,T,I,Y⟩=>⟨F1,F2,J,O,T,⟨I.1,#[],0,I.2,rfl,by simp,by simp⟩,Y⟩
end
def EL(b:Nat)(w:World):Prop:=∃cs t,w.heap[b]?=some (.cells cs t (0,0))
def LH{r:Bool}(E:P.underlying t=some (.pointer e))(I:dq P e (m+1))(O:ev ts x=some (eg b 0))(T:ev ts y=some (eg c 0))(Y:decide (b=c)=r):Ev P ts (.binOp .eql t x y ty) (.bool r) (λw=>EL b w/\EL c w):=by
 intro ac w _ _ _ _ _ J ⟨⟨cs,u,hb⟩,d6,u',hc⟩;subst Y;refine ff (J.eval O) (J.eval T) (by simp[eqGuard]) (mQ Z λd=>?_)
 by_cases h:b=c
 ·subst h
  simp[Op.equalIn,run_underlying E,dD I,run_sameAddr_same]
 ·have:=run_sameAddr_other (P:=P) w (a:=⟨b,0,none⟩) (b:=⟨c,0,none⟩) (by simp) hb hc
  simp[Op.equalIn,run_underlying E,dD I,this,h]
end Go.SL
namespace Go.Y
open Go.Proofs Tryz Go.RowKit Go.SL
abbrev aY(b:Nat):Value:=eg b 0
abbrev eF(v:Value)(bs:List Nat):HP:=row 254 1 v bs.length (bs.map aY)
def Fi:(prog.info? 254).map (λi=>(i.zero,i.size,i.bytes))=some (some (.pointer none),1,8):=by kernel_rfl
structure Below'(p:HP)(bs:List Nat)(sq:Nat->Nat)(n:Nat):Prop where
 lt:∀b∈bs,sq b<n
 cell:∀w F,p.sat w F->∀b∈bs,w.cell? ⟨b,4,none⟩=some (cd (sq b))
section
variable{sq:Nat->Nat}
def Below'.at(h:Below' p bs sq n)(s:Sel p l r)(I:b∈bs):∀w,Holds E w l->cw ⟨b,4,none⟩ (cd (sq b)) w:=λw hw=>by
 obtain⟨F1,_,_,_,_,J,_⟩:=(hw.sel s).star;exact h.cell w F1 J b I
def KQ{a:Nat}(h:a<n)(E:n<9223372036854775808):IntKind.i64.wrap (IntKind.u64.wrap ((a:Int)-(n:Int)))=(a:Int)-n:=by
 rw[li];have:((a:Int)-n)%18446744073709551616=(a:Int)-n+18446744073709551616:=am;rw[this,IntKind.wrap_i64];omega
def put1(J:Below' p bs sq n)(O:n<9223372036854775808)(b:Nat)(K:b∈bs):Does prog G 193 [aY b,cd n].toArray [p] λv m=>v=aA ((sq b:Int)-n)/\m=[p]:=by
 have I:=J.lt b K;refine bz func193 Z λE fr T=>ae<|sS<|sB Z<|sS<|cE 4 Z Z<|bF (au Z) (J.at .head K)<|bY Z (dd Z Z Z)<|sP (cD Z Z Z (KQ I O))<|sB Z<|an<|ar [_] rfl Z ⟨rfl,rfl⟩ aQ
def half(i n:Nat)(h:i<n)(J:n<=100000):((IntKind.u64.wrap ((i+n:Nat):Int))).fdiv (2 ^ min ((1:Int)).toNat IntKind.u64.bits)=(((i+n)/2:Nat):Int):=by
 rw[li];have E:((i+n:Nat):Int)%18446744073709551616=((i+n:Nat):Int):=am;have I:(2:Int) ^ min ((1:Int)).toNat IntKind.u64.bits=2:=rfl;rw[E,I,Int.fdiv_eq_ediv_of_nonneg _ am];omega
def C7(hp:Below' p bs sq n)(hn:n<9223372036854775808)(hl:bs.length<=100000) :
 Does prog G 192 [.slice A bs.length c,cd n,.func (.func 193) #[] #[]].toArray [eF (.slice A bs.length c) bs,p]
  λv m=>v=.tuple #[aA bs.length,.bool false]/\m=[eF (.slice A bs.length c) bs,p]:=by
 refine bz func192 Z λE fr hE=>aE<|aN .head ?_
 intro A' c' Y J I f7 d6 _;injection Y with Y _ d7;subst Y;subst d7;have f8:c<=9223372036854775807:=by unfold maxLen at d6;omega
 refine sS<|sA Z<|sB Z<|bp Z<|sP (bh Z Z)<|sB Z<|bp Z<|sA Z<|sB Z<|sQ<|ai<|aO (X:=Nat) (λi=>[(9,aA i),(10,aA bs.length),(8,aA bs.length),(0,.slice A bs.length c),(1,cd n),(2,.func (.func 193) #[] #[])]) (λ_=>eF (.slice A bs.length c) bs::p::fr) (λi=>i<=bs.length) (λi=>bs.length-i) 0 am bW aQ ?_
 intro i hi;refine sQ<|bp Z<|bY Z (bq Z Z Z)<|sN<|aC Z (λT=>?_) λT=>?_
 ·have d8:i<bs.length:=am;obtain⟨g,rfl⟩:∃g,A=some ⟨g,0,none⟩:=by
   cases A with
   |none=>have:=(J rfl).1;omega
   |some ad=>obtain⟨g,rfl⟩:=I ad rfl;exact⟨g,rfl⟩
  obtain⟨h,hh⟩:∃h,h=(i+bs.length)/2:=⟨_,rfl⟩;have K:h<bs.length:=am;obtain⟨b,hb⟩:∃b,bs[h]?=some b:=⟨bs[h],by simp[K]⟩;have O:=cg hb;have d9:=hp.lt b O;refine aa<|sT<|ai<|bp Z<|bY Z (bH (r:=((i+bs.length:Nat):Int)) Z Z ib)<|sP (cD Z Z Z Z)<|sP (gH (r:=(h:Int)) Z Z am (by rw[hh];exact half i bs.length d8 hl))<|sP (cD Z Z Z (iP am))<|sB Z<|bp Z<|sM Z<|bY Z (aV (z:=1) Z Z Z Z K)<|bF (au (v:=aY b) Z) (ii .head (by simp[hb]))<|sM Z<|sO<|iR Z Z Z Z hE (put1 hp hn b O) gfE1 ?_
  rintro v m ⟨rfl,rfl⟩;refine ae<|sP (bq (r:=true) Z Z (by rw[decide_eq_true_eq];omega))<|sN<|aK Z<|sG<|bY Z (bH Z Z (iP am))<|sA Z<|ap<|al<|aH (h+1) am am bW<|Ent.perm<|List.Perm.swap _ _ _
 ·obtain rfl:i=bs.length:=am;refine aM<|aw<|az<|aq<|sT<|bp Z<|sM Z<|bY Z (bq (r:=false) Z Z di)<|sM Z<|aR Z<|aR Z<|aR Z<|aR Z<|aR Z<|aR Z<|aR Z<|aR Z<|sP (aF Z Z Z)<|sA Z<|sA Z<|sN<|an<|dr [_,_] rfl Z Z ec aQ
def DQ{g t:Nat}(hl:bs.length<=100000) :
 Does prog G 194 [.slice A bs.length c,aA bs.length,dQ g 1 1].toArray [eF (.slice A bs.length c) bs,blk g 254 #[aY t]]
  λv m=>(∃A' T,v=.slice A' (bs++[t]).length T)/\m=[eF v (bs++[t])]:=by
 refine bz func194 Z λE fr hE=>aE<|aN .head ?_
 intro A' T I Y J K d7 _;injection I with I _ O;subst I;subst O;refine sS<|sB Z<|bp Z<|bY Z (ez (z:=1) (a:=bs.length) (b:=bs.length) Z Z Z ⟨_,rfl⟩ rfl (cx _) K)<|sN<|bp Z<|sP (bh Z Z)<|sB Z<|sQ<|bp Z<|sP (bc (r:=false) Z Z Z)<|sN<|ag Z<|aa<|sT<|bp Z<|sP (bh Z Z)<|sB Z<|sQ<|bp Z<|bY Z (bc (r:=true) Z Z di)<|sN<|aK Z<|bp Z<|sM Z<|dL rfl (ce rfl rfl Fi rfl am rfl rfl .head (news:=[aY t]) rfl fX iy eG gk am λv' d6=>aN .head ?_)
 rintro A7 c7 rfl _ _ _ _ _;refine sB Z<|an<|aD<|ar [_] rfl Z ⟨⟨A7,c7,by simp⟩,rfl⟩ (by simp only[eF,List.length_append,List.map_append,List.length_cons,List.length_nil,List.map_cons,List.map_nil];exact Ent.cons Ent.drop)
def Blks(p:HP)(bs:List Nat):Prop:=∀w F,p.sat w F->∀b∈bs,EL b w
def Blks.at(h:Blks p bs)(s:Sel p l r)(I:b∈bs):∀w,Holds E w l->EL b w:=λw hw=>by
 obtain⟨F1,_,_,_,_,J,_⟩:=(hw.sel s).star;exact h w F1 J b I
def drop1(J:Blks p bs)(o t I:Nat)(K:o∈bs)(O:t∈bs):Does prog G 190 [aY o,aY I].toArray [blk I 254 #[aY t],p] λv m=>v=.bool (decide (o=t))/\m=[blk I 254 #[aY t],p]:=by
 refine bz func190 Z λE fr T=>aE<|sS<|sB Z<|bp Z<|aL Z Z Z Z<|bF (LH (m:=6) Z Z Z Z Z) (λw hw=>⟨J.at bJ K w hw,J.at bJ O w hw⟩)<|sB Z<|an<|ar [_,_] rfl Z ⟨rfl,rfl⟩ aQ
def JH(hp:Blks p bs){t:Nat}(hi:bs[i]?=some t)(d7:∀j,j<i->bs[j]?≠some t)(hl:bs.length<=100000) :
 Does prog G 217 [.slice A bs.length c,.func (.func 190) #[] #[aY b]].toArray [eF (.slice A bs.length c) bs,blk b 254 #[aY t],p]
  λv m=>v=aA i/\m=[eF (.slice A bs.length c) bs,blk b 254 #[aY t],p]:=by
 have mt:=(gfGet.1 hi).1;refine bz func217 Z λE fr hE=>cF<|aN .head ?_
 intro A' c' hA T K f8 f9 _;injection hA with hA _ d8;subst hA;subst d8;obtain⟨g,rfl⟩:∃g,A=some ⟨g,0,none⟩:=by
  cases A with
  |none=>have:=(T rfl).1;omega
  |some ad=>obtain⟨g,rfl⟩:=K ad rfl;exact⟨g,rfl⟩
 refine sS<|sB Z<|sQ<|bp Z<|sP (bh Z Z)<|sM Z<|sN<|ai<|aO (X:=Nat) (λk=>[(8,aA k),(7,aA bs.length),(0,dQ g bs.length c),(1,.func (.func 190) #[] #[aY b])]) (λ_=>eF (dQ g bs.length c) bs::blk b 254 #[aY t]::p::fr) (λk=>k<=i) (λk=>i-k) 0 am bW aQ ?_
 intro k hk;refine sS<|sP (bq Z Z Z)<|sN<|sQ<|aC Z (λc9=>?_) λc9=>?_
 ·have Y:k<bs.length:=am;obtain⟨o,J⟩:∃o,bs[k]?=some o:=⟨bs[k],by simp[Y]⟩;have d9:=cg J;have f7:=cg hi;refine aa<|sT<|sQ<|ai<|bp Z<|sB Z<|bp Z<|sM Z<|bY Z (aV (z:=1) Z Z Z Z Y)<|bF (au (v:=aY o) Z) (ii .head (by simp[J]))<|sO<|iR Z Z Z Z hE (drop1 hp o t b d9 f7) (bo bJ bJ) ?_
  rintro v m ⟨rfl,rfl⟩;refine aE<|sN<|aC Z (λI=>?_) λI=>?_
  ·have d6:k=i:=Nat.le_antisymm hk (Nat.le_of_not_lt λh=>d7 k h (by rw[J,I]));subst d6;exact bp Z<|sB Z<|an<|aJ<|aD<|bM<|aJ<|aD<|ar [_,_,_] rfl Z ec<|cM dm .head .head
  ·have d6:k≠i:=λh=>I (by subst h;rw[hi]at J;injection J with J;exact J.symm);refine aa<|al<|sT<|sG<|sP (bH Z Z (iP am))<|sM Z<|ap<|aH (k+1) am am bW<|cM dm .head .head
 ·refine aM<|aw<|az<|aq<|sT<|sS<|sB Z<|an<|absurd hk am
end
end Go.Y
namespace Go.SL
open Go.RowKit
def lH{α:Type}:List α->Nat->List α->List α
 |xs,_,[]=>xs
 |xs,o,v::vs=>lH (xs.set o v) (o+1) vs
def iu{α:Type}:∀(vs xs:List α) (o:Nat),(lH xs o vs).length=xs.length
 | [],_,_=>rfl
 |v::vs,xs,o=>by simp[lH,iu vs]
theorem ki{α:Type}:∀(vs xs:List α) (o j:Nat),(j<o\/o+vs.length<=j)->(lH xs o vs)[j]?=xs[j]?
 | [],_,_,_,_=>rfl
 |v::vs,xs,o,j,h=>by
  simp only[lH];rw[ki vs (xs.set o v) (o+1) j (by simp at h;omega),List.getElem?_set_ne (by simp at h;omega)]
theorem ou{α:Type}:∀(vs xs:List α) (o j:Nat) (u:α),o+vs.length<=xs.length->vs[j]?=some u->(lH xs o vs)[o+j]?=some u
 | [],_,_,_,_,_,h=>by simp at h
 |v::vs,xs,o,0,u,hl,h=>by
  simp at h hl;subst h;simp only[lH];rw[ki vs (xs.set o v) (o+1) (o+0) am];simp only[Nat.add_zero]at hl ⊢;exact List.getElem?_set_self am
 |v::vs,xs,o,j+1,u,hl,h=>by
  simp only[lH];have:=ou vs (xs.set o v) (o+1) j u (by simp at hl ⊢;omega) (by simpa using h);rw[show o+(j+1)=o+1+j by omega];exact this
def qY{α:Type}:∀(vs xs:List α) (o k:Nat),(lH xs o vs).take k=lH (xs.take k) o vs
 | [],_,_,_=>rfl
 |v::vs,xs,o,k=>by simp only[lH];rw[qY vs,List.take_set]
theorem kq:∀(vs:List Value) (cs:Array Value) (o:Nat),(iW cs o vs).toList=lH cs.toList o vs
 | [],_,_=>rfl
 |v::vs,cs,o=>by simp only[iW,lH];rw[kq vs];simp
section
variable{ops:Array Oper}{pos:String}{gd:Option (Nat×Bool)}
def gc{g size:Nat}(s:Sel (row e size (dQ g m c) m xs) l r)(hz:dq P t 1)(hx:ev ts x=some (eg g o))(hy:ev ts y=some v)(hv:v.oneCell'=true)
(ho:o<m*size)(h:At E n D ts (row e size (dQ g m c) m (xs.set o v)::r) K):At E n D ts l (λa w=>(Oper.mk none (.store t x y) ty pos af gd).wp P a w K Q):=by
 refine j7 s (λh _ _=>by cases h) ?_;intro g' cap O I _ Y hc hs ht;injection I with I _ J;injection I with I;injection I with I;subst I;subst J;have T:o<O.size:=by rw[hs];exact Nat.lt_of_lt_of_le ho (Nat.mul_le_mul_right _ Y)
 refine cq Z hz hx hy hv T<|ao (fB Y hc (by rw[Array.size_setIfInBounds];exact hs) ?_) h
 rw[Array.toList_setIfInBounds,List.take_set,ht]
theorem fD{g size k:Nat}(s:Sel (row e size (dQ g m c) m xs) l r)(hz:dq P t k)(hk:vs.length=k)(hx:ev ts x=some (eg g o))(hy:ev ts y=some (.agg vs.toArray))(hv:∀u∈vs,u.oneCell'=true)
(ho:o+k<=m*size)(h:At E n D ts (row e size (dQ g m c) m (lH xs o vs)::r) K):At E n D ts l (λa w=>(Oper.mk none (.store t x y) ty pos af gd).wp P a w K Q):=by
 refine j7 s (λh _ _=>by cases h) ?_;intro g' cap O I _ T hc Y ht;injection I with I _ J;injection I with I;injection I with I;subst I;subst J;have d6:o+k<=O.size:=by rw[Y];exact Nat.le_trans ho (Nat.mul_le_mul_right _ T)
 refine bk Z hz hx hy hk hv am<|ao (fB T hc (by rw[ir];exact Y) ?_) h
 rw[kq,qY,ht]
end
section
variable{ops:Array Oper}{pos:String}
def Jo{tb:TypeId}[hh:Has b l (.cells cs tb) r](J:d=none)(O:P.underlying t=some (.slice e))(T:iV P e z)(I:z.cells=#[z])
(Y:ev ts x=some (.slice (some ⟨b,o,none⟩) 1 c))(hv:z.oneCell'=true)(hi:o<cs.size)(h:At E n D ts (blk b tb (cs.setIfInBounds o z)::r) K) :
 At E n D ts l (λa w=>(Oper.mk d (.call {callee:=.builtin .clear,args:=#[x],argTypes:=#[t]}) ty pos af g).wp P a w K Q):=λa w f hw=>by
 subst J;have hb:=(hw.ob hh.sel).1;have:(execOp a.eval (Oper.mk none (.call {callee:=.builtin .clear,args:=#[x],argTypes:=#[t]}) ty pos af g)).run P w=.ok (.value (.tuple #[])) (w.setCell ⟨b,o,none⟩ z):=by
  simp[execOp,resolve,invoke,builtin,f.eval Y,Builtin.clear_,run_underlying O,iZ T,I,Builtin.zeroCells,storeCells,add_plain,lz hb hi hv]
 unfold Oper.wp;rw[this];exact h a _ f<|hw.store hh.sel
def LD{o:Operand}{a d:Nat}(J:P.underlying t=some (.slice e))(K:dq P e 1)(O:ev ts x=some (dQ b m c))(T:ev ts o=some (.int k (a:Int)))(Y:a<=m)(h2:m<=c)(I:c≠a)(hd:m-a=d) :
 Ev P ts (.slice t x (some o) none none) (.slice (some ⟨b,a,none⟩) d (c-a)) Any:=by
 have:=ez (P:=P) (lo:=some o) (hi:=none) (a:=a) (b:=m) J K O ⟨k,T⟩ rfl Y h2;rw[if_neg I,hd]at this;simpa[add_plain]using this
def LG{o:Operand}{a:Nat}(I:P.underlying t=some (.slice e))(J:dq P e 1)(K:ev ts x=some (dQ b m c))(O:ev ts o=some (.int k (a:Int)))(T:a<=c) :
 Ev P ts (.slice t x none (some o) none) (dQ b a c) Any:=by
 have:=ez (P:=P) (lo:=none) (hi:=some o) (a:=0) (b:=a) I J K rfl ⟨k,O⟩ (Nat.zero_le _) T;simpa[add_plain]using this
end
end Go.SL
namespace Go.Y
open Go.Proofs Tryz Go.RowKit Go.SL
def lh(bs:List Nat)(i j:Nat):List Value:=((bs.eraseIdx i).take (j-1)++bs.drop (j-1)).map aY
def Gy(bs:List Nat)(i:Nat)(hi:i<bs.length):lh bs i (i+1)=bs.map aY:=by
 unfold lh;have:(bs.eraseIdx i).take i=bs.take i:=by
  rw[List.eraseIdx_eq_take_drop_succ,List.take_append_of_le_length (by simp;omega),List.take_take,Nat.min_self]
 rw[Nat.add_sub_cancel,this,List.take_append_drop]
theorem Ng(J:i<j)(I:bs[j]?=some o):(lh bs i j)[j]?=some (aY o):=by
 have O:=(gfGet.1 I).1;unfold lh;rw[List.getElem?_map,List.getElem?_append_right (by simp[List.length_eraseIdx];split<;>omega)];have K:((bs.eraseIdx i).take (j-1)).length=j-1:=by simp[List.length_eraseIdx];split<;>omega
 rw[K,List.getElem?_drop,show j-1+(j-(j-1))=j by omega,I]
 rfl
def Ju(K:i<j)(I:bs[j]?=some o):(lh bs i j).set (j-1) (aY o)=lh bs i (j+1):=by
 have Y:=(gfGet.1 I).1;have O:((bs.eraseIdx i).take (j-1)).length=j-1:=by simp[List.length_eraseIdx];split<;>omega
 have T:(bs.eraseIdx i)[j-1]?=some o:=by
  rw[List.getElem?_eraseIdx,if_neg am,show j-1+1=j by omega,I]
 have h3:bs.drop (j-1)=bs[j-1]::bs.drop j:=by
  rw[List.drop_eq_getElem_cons am]
  congr 2
  omega
 unfold lh;rw[<-List.map_set,List.set_append_right _ _ am,O,Nat.sub_self,h3,List.set_cons_zero,Nat.add_sub_cancel];have J:=wC T;rw[show j-1+1=j by omega]at J;rw[J];simp
def Lm(hi:i<bs.length):(lh bs i bs.length).take (bs.length-1)=(bs.eraseIdx i).map aY:=by
 unfold lh;have I:(bs.eraseIdx i).length=bs.length-1:=by simp[List.length_eraseIdx,hi]
 rw[<-List.map_take,List.take_append_of_le_length (by simp[I]),List.take_take,Nat.min_self,List.take_of_length_le am]
theorem LS(K:I.size=c*1)(J:I.toList.take (bs.length*1)=lh bs i bs.length)(hc:bs.length<=c)(hi:i<bs.length):(I.setIfInBounds (bs.length-1) z).toList.take ((bs.length-1)*1)=(bs.eraseIdx i).map aY:=by
 rw[<-Lm hi,<-J,Array.toList_setIfInBounds,List.take_set,List.take_take];rw[List.set_eq_of_length_le (by simp;omega)]
 congr 1
 omega
def Ei(hp:Blks p bs){t:Nat}(hi:bs[i]?=some t)(T:∀j,j≠i->bs[j]?≠some t)(hl:bs.length<=100000) :
 Does prog G 189 [.slice A bs.length c,.func (.func 190) #[] #[aY n]].toArray [eF (.slice A bs.length c) bs,blk n 254 #[aY t],p]
  λv m=>(∃A' c',v=.slice A' (bs.eraseIdx i).length c')/\m=[eF v (bs.eraseIdx i),blk n 254 #[aY t],p]:=by
 have K:=(gfGet.1 hi).1;refine bz func189 Z λE fr hE=>cF<|aN .head ?_
 intro A' c' hA Y I f8 f9 _;injection hA with hA _ t8;subst hA;subst t8;have LE:c<=9223372036854775807:=by unfold maxLen at f9;omega
 obtain⟨g,rfl⟩:∃g,A=some ⟨g,0,none⟩:=by
  cases A with
  |none=>have:=(Y rfl).1;omega
  |some ad=>obtain⟨g,rfl⟩:=I ad rfl;exact⟨g,rfl⟩
 refine sS<|sB Z<|bp Z<|sM Z<|bV Z (JH hp hi (λj hj=>T j am) hl) aQ<|cF<|sB Z<|sQ<|bp Z<|sP (bc (r:=false) Z Z (by rw[decide_eq_false_iff_not];omega))<|sN<|ag Z<|aa<|sT<|sQ<|bp Z<|sP (bH Z Z (iP am))<|sA Z<|sN<|ai<|aO (X:=Nat) (λj=>[(6,aA (j:Nat)),(5,aA (j-1:Nat)),(0,dQ g bs.length c),(1,.func (.func 190) #[] #[aY n])]) (λj=>row 254 1 (dQ g bs.length c) bs.length (lh bs i j)::blk n 254 #[aY t]::p::fr) (λj=>i<j/\j<=bs.length) (λj=>bs.length-j) (i+1) am bW (by rw[Gy bs i K];exact aQ) ?_
 rintro j ⟨d6,hj⟩;refine sQ<|bp Z<|bY Z (bh Z Z)<|sP (bq Z Z Z)<|sN<|aC Z (λf7=>?_) λf7=>?_
 ·have d8:j<bs.length:=am;obtain⟨o,ho⟩:∃o,bs[j]?=some o:=⟨bs[j],by simp[d8]⟩;have wf:=cg ho;have BT:=cg hi;have Fd:o≠t:=λh=>T j am (by rw[ho,h]);refine aa<|sT<|sQ<|ai<|bp Z<|bY Z (aV (z:=1) Z Z Z Z d8)<|bF (au (v:=aY o) Z) (ii .head (by simpa using Ng d6 ho))<|sB Z<|bp Z<|sM Z<|sO<|iR Z Z Z Z hE (drop1 hp o t n wf BT) (bo bJ bJ) ?_
  rintro v m ⟨rfl,rfl⟩;refine aE<|sP (cA (r:=true) Z (by simp[Fd]))<|sN<|aK Z<|bp Z<|sM Z<|bY Z (aV (z:=1) Z Z Z Z (by omega:j-1<bs.length))<|sO<|gc dm Z Z Z Z am ?_
  rw[show 0+(j-1)*1=j-1 by omega,Ju d6 ho];refine sN<|sG<|bY Z (bH (r:=((j+1-1:Nat):Int)) Z Z ib)<|sA Z<|ap<|al<|sT<|sG<|bY Z (bH Z Z (iP am))<|sA Z<|ap<|aH (j+1) am am bW aQ
 ·obtain rfl:j=bs.length:=am;have d9:(bs.eraseIdx i).length=bs.length-1:=by simp[List.length_eraseIdx,K]
  have In:¬c=bs.length-1:=am;refine j7 .head fX ?_;intro g' cap mt J _ hm t6 hs t7;injection J with J _ d7;injection J with J;injection J with J;subst J;subst d7;refine aM<|aw<|az<|aq<|sT<|bp Z<|bY Z (LD (a:=bs.length-1) (d:=1) Z Z Z Z am f8 In am)<|sO<|Jo (z:=.pointer none) (b:=g) (o:=bs.length-1) (c:=c-(bs.length-1)) (cs:=mt) Z Z Z Z Z Z am<|sN<|bp Z<|bY Z (LG (a:=bs.length-1) Z Z Z Z am)<|sB Z<|an<|ar [_,_,_] rfl Z ⟨⟨some ⟨g,0,none⟩,c,by rw[d9]⟩,rfl⟩ (by rw[eF,d9];exact fB am t6 (by simpa using hs) (LS hs t7 am K))
end Go.Y
