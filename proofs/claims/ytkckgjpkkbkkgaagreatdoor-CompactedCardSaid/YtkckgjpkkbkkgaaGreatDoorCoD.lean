/- The walk of flow.Order: the nodes, each behind those for which it waits. -/
import Derived.Test.YtkckgjpkkbkkgaaGreatDoorCoC
import Derived.ScopeJumps
import Derived.WalkMore
import Derived.Laws.MakeOwn
import Derived.Laws.BitsAllLaws
import Derived.LoopTactic
import Derived.Deep.OwnRows
import Derived.Deep.LoopGhost
import Derived.Maps.AppendAt
import Derived.OwnWalk
import Derived.Deep.RegionWith
import Derived.Deep.DeepCutAuto
import Derived.StillTailTactics
import Derived.Laws.Externs
import Derived.Stop.Asserts
import Derived.Recover
import Derived.Test.YtkckgjpkkbkkgaaGreatDoorCoB
import Derived.Laws.BitsLemmas
import Derived.WalkKit
import Derived.MapKept
import Derived.Laws.StructEq
import Derived.Maps.RangeRun
set_option maxHeartbeats 4000000
set_option maxRecDepth 100000
namespace Go.Y
open Go.Proofs Go.RowKit Go.Deep
def Blk (w:World) (g:Nat) (t:TypeId) (cs:Array Value):Prop:=w.heap[g]?=some (.cells cs t (0,0))
section
variable {w w':World} {g:Nat} {t:TypeId} {cs:Array Value}
theorem Blk.lt (h:Blk w g t cs):g<w.heap.size:=by
 rcases Nat.lt_or_ge g w.heap.size with E|I
 · exact E
 · unfold Blk at h;rw[Array.getElem?_eq_none I] at h;cases h
theorem Blk.cell (h:Blk w g t cs) (i:Nat):w.cell? ⟨g,i,none⟩=cs[i]?:=cell_of_row w g i cs t (0,0) h
theorem Blk.free (h:Blk w g t cs) (i:Nat):w.frozen? ⟨g,i,none⟩=false:=by
 unfold Blk at h;simp[World.frozen?,h]
theorem Blk.made (w:World) (t:TypeId) (cs:Array Value):Blk (w.alloc (.cells cs t)) w.heap.size t cs:=heap_alloc_new w _
theorem Blk.put (h:Blk w g t cs) (i:Nat) (u:Value):Blk (w.setCell ⟨g,i,none⟩ u) g t (cs.setIfInBounds i u):=by
 unfold Blk at h ⊢;simp[World.setCell,Array.getElem?_modify,h]
theorem Blk.same {B:Nat} (h:Blk w g t cs) (s:Same B w w') (E:g<B):Blk w' g t cs:=(s g E).trans h
end
section
variable {l:List FK.Node} {i j m n:Nat} {F F':Nat->Nat}
def fE (l:List FK.Node) (i m:Nat) (j:Nat):Nat:=if j<i then FK.mask (FK.fP l j) else if j=i then FK.mask ((FK.fP l i).take m) else 0
def fi (n:Nat) (F:Nat->Nat):Array Value:=((List.range n).map λj=>Value.int .u64 (F j)).toArray
theorem my (h:j<n):(fi n F)[j]?=some (.int .u64 (F j)):=by simp[fi,h]
theorem ue (K:∀k,k≠j->F' k=F k):(fi n F).setIfInBounds j (.int .u64 (F' j))=fi n F':=by
 apply Array.ext_getElem?;intro k;unfold fi;rw[Array.getElem?_setIfInBounds]
 by_cases I:j=k
 · subst I
   by_cases E:j<n<;>simp[E]
 · rw[if_neg I]
   by_cases E:k<n
   · simp[E,K k (λe=>I e.symm)]
   · simp[E]
theorem yS {w:World} {g:Nat} (h:Blk w g 59 (fi n F)) (E:∀k,k≠j->F' k=F k):Blk (w.setCell ⟨g,j,none⟩ (.int .u64 (F' j))) g 59 (fi n F'):=by
 have:=h.put j (.int .u64 (F' j))
 rwa [ue E] at this
theorem yQ (l:List FK.Node) (n:Nat):madeCells #[Value.int .u64 0] n=fi n (fE l 0 0):=by
 have:fE l 0 0=λ_=>0:=by funext j;simp[fE,FK.mask]
 rw[this];unfold madeCells fi;apply Array.ext_getElem?;intro k
 by_cases E:k<n<;>simp[E,Nat.mod_one]
theorem AX {x:Nat} (h:(FK.fP l i)[m]?=some x):fE l i (m+1) i=fE l i m i|||(1<<<x):=by
 obtain⟨E,I⟩:=gfGet.1 h;simp only[fE,Nat.lt_irrefl,if_false,if_true];rw[List.take_succ_eq_append_getElem E,FK.yV,I];simp[FK.mask]
theorem yR {E k:Nat} (h:k≠i):fE l i m k=fE l i E k:=by simp[fE,h]
theorem AY (h:(FK.fP l i).length<=m):fE l i m=fE l (i+1) 0:=by
 funext j
 unfold fE;rw[List.take_of_length_le h]
 by_cases E:j<i
 · rw[if_pos E,if_pos ai]
 · by_cases I:j=i
   · subst I;simp
   · rw[if_neg E,if_neg I,if_neg ai];split<;>simp[FK.mask]
theorem Cu:∀{l:List Nat},(∀k∈l,k<n)->FK.mask l<2 ^ n:=by
 intro l
 induction l with
 | nil=>intro _;exact Nat.two_pow_pos _
 | cons k l I=>
  intro h;simp only[FK.mask];refine Nat.or_lt_two_pow ?_ (I λx E=>h x (by simp[E]));rw[Nat.one_shiftLeft];exact Nat.pow_lt_pow_right ai (h k cP)
theorem si (h:∀i,∀k∈FK.fP l i,k<n):fE l i m j<2 ^ n:=by
 unfold fE
 split
 · exact Cu (h j)
 · split
   · exact Cu λk E=>h i k (List.mem_of_mem_take E)
   · exact Nat.two_pow_pos _
theorem nA (a b:Nat) (E:a<4096) (I:b<4096):bits BinOp.and IntKind.u64 (a:Int) (b:Int)=((a&&&b:Nat):Int):=bits_and_u64_nat a b ai ai
theorem vB {E:Nat} (h:E≠0):E&&&(E-1)<E:=by
 have:E&&&(E-1)<=E-1:=Nat.and_le_right;omega
def C7 (I:World->List Nat->Prop) (l:List FK.Node) (e:Ending) (w':World):Prop:=
 ∃(left:Nat) (T:List Nat),e=.returned (.int .u64 left)/\I w' T/\FK.Ordering l left T/\(∀i,left.testBit i=true->∃k∈FK.fP l i,left.testBit k=true)
def clr (left t:Nat):Nat:=left&&&(18446744073709551615-2 ^ t)
theorem ni {left t:Nat} (K:t<64) (E:left<18446744073709551616) (j:Nat):(clr left t).testBit j=(left.testBit j&&decide (j≠t)):=by
 unfold clr;rw[Nat.testBit_and]
 by_cases O:j<64
 · have e:18446744073709551615-2 ^ t=2 ^ 64-(2 ^ t+1):=ai
   have I:2 ^ t<2 ^ 64:=Nat.pow_lt_pow_right ai K;rw[e,Nat.testBit_two_pow_sub_succ I,Nat.testBit_two_pow];simp[O,eq_comm]
 · have I:2 ^ 64<=2 ^ j:=Nat.pow_le_pow_right ai ai
   have:left.testBit j=false:=Nat.testBit_lt_two_pow ai;rw[this];simp
theorem clr_lt {left t:Nat} (I:t<64) (E:left<18446744073709551616) (K:left.testBit t=true):clr left t<left:=by
 have O:clr left t<=left:=Nat.and_le_left;have T:clr left t≠left:=by
  intro e;have:=ni I E t;rw[e,K] at this;simp at this
 omega
theorem qY {t:Nat} (E:t<64):IntKind.u64.wrap (2 ^ t)=2 ^ t:=by
 rw[IntKind.wrap_u64];have I:2 ^ t<2 ^ 64:=Nat.pow_lt_pow_right ai E;have e:((2:Int) ^ t)=((2 ^ t:Nat):Int):=by simp
 rw[e]
 generalize 2 ^ t=x at I
 omega
theorem Bf (h:n<=12):IntKind.u64.wrap (IntKind.u64.wrap (2 ^ n)-1)=((2 ^ n-1:Nat):Int):=by
 rw[qY ai,IntKind.wrap_u64];have E:2 ^ n<=2 ^ 12:=Nat.pow_le_pow_right ai h;have I:=Nat.two_pow_pos n;have e:((2:Int) ^ n)=((2 ^ n:Nat):Int):=by simp
 rw[e]
 generalize 2 ^ n=x at E I
 omega
theorem na {left:Nat} {T:List Nat} (h:FK.Ordering l left T) (O:l.length<=12):left<4096:=by
 have:left<2 ^ 12:=by
  apply Nat.lt_of_not_le;intro E;have I:left≠0:=by intro e;rw[e] at E;exact absurd E di
  have K:=Nat.testBit_log2 I;have Y:=((h.bits _).1 K).1;have h3:12<=left.log2:=(Nat.le_log2 I).2 E;omega
 simpa using this
def Asked (l:List FK.Node) (left E:Nat):Prop:=(∀i,E.testBit i=true->left.testBit i=true)/\∀i,left.testBit i=true->E.testBit i=true\/∃k∈FK.fP l i,left.testBit k=true
theorem Asked.start (l:List FK.Node) (left:Nat):Asked l left left:=⟨λ_ h=>h,λ_ h=>.inl h⟩
theorem Asked.next {left E:Nat} (h:Asked l left E) {t:Nat} (K:E.testBit t=true) (O:∀j,j<t->E.testBit j=false) (T:∃k∈FK.fP l t,left.testBit k=true):Asked l left (E&&&(E-1)):=by
 have e:=FK.qb t E K O;refine⟨λi hi=>?_,λi hi=>?_⟩
 · rw[e i] at hi;simp at hi;exact h.1 i hi.1
 · rcases h.2 i hi with hw|hw
   · by_cases I:i=t
     · subst I;exact .inr T
     · exact .inl (by rw[e i];simp[hw,I])
   · exact .inr hw
def Again (w:World) (A:Option Addr) (c:Nat) (l:List FK.Node) (F:FuncId) (cap:Array Value) (I:World->List Nat->Prop) (a:Act) (w':World):Prop:=
 ∃(left:Nat) (T:List Nat) (u2 u3 u6 u7 u8 u9 E K O Y d6 d7 d8 d9 f7 f8 f9 mt t6 t7 t8 wf BT Fd In LB LC LD LE LF LG LH LJ LK LL LM LN LO LP LQ LR LS LT LU LV LW LX LY LZ L3 L4 L5 L6 L7 L8 L9 Ma Mb Mc Md Me Mf Mg:Value),a={tmps:=#[.slice A l.length c,.func (.func F) #[] cap,u2,u3,.int .u64 left,.slice (some ⟨w.heap.size,0,none⟩) l.length l.length,u6,u7,u8,u9,E,K,O,Y,d6,d7,d8,d9,f7,f8,f9,mt,t6,t7,t8,wf,BT,Fd,In,LB,LC,LD,LE,LF,LG,LH,LJ,LK,LL,LM,LN,LO,LP,LQ,LR,LS,LT,LU,LV,LW,LX,LY,LZ,L3,L4,L5,L6,L7,L8,L9,Ma,Mb,Mc,Md,Me,Mf,Mg],defers:=[]}/\
  I w' T/\FK.Ordering l left T/\Blk w' w.heap.size 59 (fi l.length (fE l l.length 0))
theorem ll (w:World) (B:Nat) (A:Option Addr) (c:Nat) (l:List FK.Node) (F:FuncId) (cap:Array Value) (I:World->List Nat->Prop) (hB:B<=w.heap.size) (hl:l.length<=12)
 (hv:∀i,∀k∈FK.fP l i,k<l.length) (LN:∀n∈l,∀x∈n.after,0<=x)
 (hF:∀(args:Array Value) (W:World),(callFunc F args).run Tryz.prog W=.ok (.enter F args) W) (h0:I w []) (hI:∀W T,I W T->NodesAt W B A c l/\Tab W/\w.heap.size<=W.heap.size)
 (LG:∀W W' T,I W T->Below w.heap.size W W'->I W' T)
 (LH:∀W T k,I W T->w.heap.size<W.heap.size->k<l.length->k∉T->(∀j∈FK.fP l k,j∈T)->Calls Tryz.prog F (#[.int .i64 k]++cap) W λe W'=>
  e=.returned (.tuple #[])/\I W' (T++[k])/\W.heap.size<=W'.heap.size/\∀b,w.heap.size<=b->b<W.heap.size->W'.heap[b]?=W.heap[b]?) :
 Calls Tryz.prog 107 #[.slice A l.length c,.func (.func F) #[] cap] w (C7 I l):=by
 have HN:=Lib.hid (hI w [] h0).1;have H0:=Lib.hid h0;have HI:=Lib.hid hI;have HS:=Lib.hid LG;have HT:=Lib.hid LH;have HV:=Lib.hid hv;have HP:=Lib.hid LN;clear h0 hI LG LH hv LN;have No:∀W:World,(Instr.makeSlice 253 (.int .i64 (l.length:Int)) (.int .i64 (l.length:Int))).run Tryz.prog W=.ok (.slice (some ⟨W.heap.size,0,none⟩) l.length l.length) (W.alloc (.cells (fi l.length (fE l 0 0)) 59)):=λW=>by
  rw[<-yQ];exact run_make_row' (P:=Tryz.prog) 253 59 (.int .u64 0) 8 Tryz.underlying253 (by kernel_rfl) rfl .i64 .i64 l.length ai ai W
 obtain⟨left,mt⟩:∃x,x=2 ^ l.length-1:=⟨_,rfl⟩;have Mi:IntKind.u64.wrap (IntKind.u64.wrap (2 ^ l.length)-1)=(left:Int):=by rw[Bf hl,mt]
 have L8:Hid (FK.Ordering l left []):=by rw[mt];exact .start l
 clear mt;obtain⟨T,Mf⟩:∃T:List Nat,Hid (T=[]):=⟨_,rfl⟩;rw[<-Mf.out] at L8 H0
 go_enter Tryz.func107,Tryz.ntmps107
 go_wp2
 refine wp_scope_jumps 0 (Again w A c l F cap I) (λa _=>(RowKit.intOf (a.tmps.getD 4 undef)).toNat) rfl ?_ ?_
 · go_wp2
   go_loopw [21] (λi wr=>∃k:Nat,k<=l.length/\i=.int .i64 k/\Blk wr w.heap.size 59 (fi l.length (fE l k 0))/\Below w.heap.size w wr) (λi _=>l.length-(RowKit.intOf i).toNat)
   case atStart=>exact⟨0,ai,rfl,Blk.made _ _ _,(Below.refl _ _).alloc (cm _) _⟩
   case round=>
    obtain⟨k,hk,rfl,E,Y⟩:=hrel;have L9:=E.lt
    by_cases LU:k<l.length
    · obtain⟨h1,h2,h3⟩:=HN.out
      obtain⟨b,Mn,rfl,Mg,d9⟩:=h3 ai;have LV:=(d9 k l[k] (by simp[LU])).keep (Y.to_same.mono hB) Mg;obtain⟨c0,c1,c2,c3,c4,c5,⟨A6,n6,c6,hi⟩,hr⟩:=LV;have LW:=Lib.hid hi;have Ma:=Lib.hid E;have LK:=Lib.hid Y;clear d9 h3 hr hi E Y
      go_wp2
      obtain⟨wo,rfl⟩:∃wo:World,wo=wr:=⟨_,rfl⟩
      go_loopw [29] (λi ws=>∃m:Nat,m<=l[k].after.length/\i=.int .i64 m/\Blk ws w.heap.size 59 (fi l.length (fE l k m))/\Below w.heap.size w ws) (λi _=>l[k].after.length-(RowKit.intOf i).toNat)
      case atStart=>exact⟨0,ai,rfl,Ma.out.same (B:=wo.heap.size) (λx hx=>Below.heap_alloc _ _ _ hx) L9,LK.out.alloc ai _⟩
      case round=>
       obtain⟨m,hm,rfl,E,Y⟩:=hrel;have t8:FK.fP l k=l[k].after.map Int.toNat:=FK.FZ (by simp[LU])
       by_cases LO:m<l[k].after.length
       · have LL:Same B wo wr:=λx hx=>(Y.block x ai).trans (LK.out.block x ai).symm
         obtain⟨b6,o6,Mh,Mo,L6⟩:=(LW.out.keep LL).cells ai;have Mj:=L6 m l[k].after[m] (by simp[LO]);have Mk:0<=l[k].after[m]:=HP.out l[k] (List.getElem_mem _) _ (List.getElem_mem _);have Mb:=HV.out k l[k].after[m].toNat (by rw[t8];exact List.mem_map_of_mem (List.getElem_mem _));obtain⟨xn,LS⟩:∃xn:Nat,l[k].after[m]=(xn:Int):=⟨l[k].after[m].toNat,ai⟩;have LP:(FK.fP l k)[m]?=some xn:=by rw[t8,List.getElem?_map,List.getElem?_eq_getElem LO,LS];simp
         rw[LS] at Mj Mk Mb;simp only[Int.toNat_natCast] at Mb;have LQ:fE l k m k<18446744073709551616:=Nat.lt_of_lt_of_le (si (n:=12) λi x hx=>by have:=HV.out i x hx;omega) di;have LR:2 ^ xn<18446744073709551616:=Nat.lt_of_lt_of_le (Nat.pow_lt_pow_right (n:=12) ai ai) di;have d9:wr.cell? ⟨w.heap.size,k,none⟩=some (.int .u64 (fE l k m k:Nat)):=by rw[E.cell];exact my LU
         have d7:wr.frozen? ⟨w.heap.size,k,none⟩=false:=E.free k;have Mc:IntKind.u64.wrap (2 ^ xn)=2 ^ xn:=qY ai;have Np:bits BinOp.or IntKind.u64 ((fE l k m k:Nat):Int) (2 ^ xn)=((fE l k (m+1) k:Nat):Int):=by
          have:=bits_or_u64_nat (fE l k m k) (2 ^ xn) LQ LR;rw[AX LP,Nat.one_shiftLeft,<-this];simp
         have HB:=Lib.hid E;have LX:=Lib.hid Y;have BT:=E.lt;have Nq:=LW.out.len;have Nr:=LW.out.cap;subst Mh;clear t8 LL L6 LS LP LQ LR E Y
         go_wp2
         go_region
         go_wp2
         go_roundw
         case rel=>exact⟨m+1,ai,by go_num,yS HB.out λx hx=>yR hx,(Di LX.out)⟩
         case measure=>simp[RowKit.intOf];omega
       · have HB:=Lib.hid E
         have LX:=Lib.hid Y;have BT:=E.lt;have Ml:=Lib.hid (AY (l:=l) (i:=k) (m:=m) (by rw[t8];simp;omega));clear t8 E Y
         go_wp2
         go_roundw
         case rel=>exact⟨k+1,ai,by go_num,by rw[<-Ml.out];exact HB.out,LX.out⟩
         case measure=>simp[RowKit.intOf];omega
    · obtain rfl:k=l.length:=ai
      have hi:=HS.out w wr T H0.out Y;have ho:=L8.out
      go_wp2
      go_step3
      go_wp2
      have Fd:=na ho hl;have In:=Lib.hid hi;have HO:=Lib.hid ho;have HB:=Lib.hid E;have BT:=E.lt;clear hi ho E
      go_loop [4,10] (λs t=>∃O:Nat,s=.int .u64 left/\t=.int .u64 O/\Asked l left O/\O<4096) (λ_ t=>(RowKit.intOf t).toNat)
      case atStart=>exact⟨left,rfl,rfl,.start _ _,Fd⟩
      case round=>
       obtain⟨O,rfl,rfl,t7,LT⟩:=hrel;have f7:=Lib.hid t7;clear t7
       by_cases hz:O=0
       · have LY:((O:Int) !=0)=false:=by simp[hz]
         have HZ:=Lib.hid hz;clear hz
         go_wp2
         simp only[Exit.jump]
         go_ret
         exact⟨left,T,rfl,In.out,HO.out,λi hi=>(f7.out.2 i hi).resolve_left (by rw[HZ.out];simp)⟩
       · obtain⟨t1,t2,t3⟩:=rx O ai hz
         have LB:=Lib.hid (rT O ai hz wr (HI.out _ _ In.out).2.1);have LY:((O:Int) !=0)=true:=by simp;omega
         generalize Lib.ctz 64 O=t at LB t1 t2 t3
         have f8:left.testBit t=true:=f7.out.1 t t1;have LC:t<l.length:=((HO.out.bits t).1 f8).1;have LD:fE l l.length 0 t=FK.mask (FK.fP l t):=by simp[fE,LC]
         obtain⟨nf,d6⟩:∃nf,nf=fE l l.length 0 t:=⟨_,rfl⟩;have wf:nf<4096:=by rw[d6];exact si (n:=12) λi x hx=>by have:=HV.out i x hx;omega
         have d9:wr.cell? ⟨w.heap.size,t,none⟩=some (.int .u64 (nf:Nat)):=by rw[HB.out.cell,d6];exact my LC
         have K:=FK.n4 (FK.fP l t) left;rw[<-LD,<-d6] at K;have LZ:=Lib.hid K;have T1:=Lib.hid t1;have T2:=Lib.hid t2;have TL:=Lib.hid f8;have HZ:=Lib.hid hz
         by_cases hb:nf&&&left=0
         · have hand:bits BinOp.and IntKind.u64 (nf:Int) (left:Int)=0:=by rw[nA _ _ wf Fd,hb];rfl
           have Mc:IntKind.u64.wrap (2 ^ t)=2 ^ t:=qY t3;have L3:bits BinOp.andNot IntKind.u64 (left:Int) (2 ^ t)=((clr left t:Nat):Int):=by
            have hp:2 ^ t<2 ^ 64:=Nat.pow_lt_pow_right ai t3;have:=u64_andNot_nat left (2 ^ t) ai (by simpa using hp);simpa[clr] using this
           have d7:∀k∈FK.fP l t,left.testBit k=false:=K.1 hb;have f9:∀j∈FK.fP l t,j∈T:=λj hj=>Classical.byContradiction λhn=>by
            have h1:=(HO.out.bits j).2 ⟨HV.out t j hj,hn⟩;rw[d7 j hj] at h1;cases h1
           have LE:=Lib.hid (HT.out wr T t In.out BT LC ((HO.out.bits t).1 f8).2 f9);have LF:=Lib.hid d7;clear LD d6 K t1 t2 f8 hz hb d7 f9
           go_wp2_with (go_at_call 109;refine LB.out.mono ?_;rintro e w2 ⟨rfl,rfl⟩)
           refine LE.out.mono ?_;rintro e w3 ⟨rfl,LJ,L7,d8⟩;have L4:=Lib.hid LJ;have t6:=Lib.hid d8;clear LJ d8
           go_wp2
           go_step3
           exact⟨rfl,⟨clr left t,T++[t],_,_,_,_,_,_,_,_,_,_,_,_,_,_,_,_,_,_,_,_,_,_,_,_,_,_,_,_,_,_,_,_,_,_,_,_,_,_,_,_,_,_,_,_,_,_,_,_,_,_,_,_,_,_,_,_,_,_,_,_,_,_,_,rfl,L4.out,HO.out.tell TL.out LF.out (ni t3 ai),(t6.out _ (cm _) BT).trans HB.out⟩⟩
         · have hand:bits BinOp.and IntKind.u64 (nf:Int) (left:Int)=((nf&&&left:Nat):Int):=nA _ _ wf Fd
           have Md:(((nf&&&left:Nat):Int)==0)=false:=by simp;omega
           have hw:bits BinOp.and IntKind.u64 (O:Int) ((O:Int)-1)=((O&&&(O-1):Nat):Int):=by
            have:=nA O (O-1) LT ai
            rwa [show((O-1:Nat):Int)=(O:Int)-1 by omega] at this
           have Me:=vB hz;have LM:∃k∈FK.fP l t,left.testBit k=true:=Classical.byContradiction λhn=>hb (K.2 λk hk=>by
            cases hx:left.testBit k with
            | false=>rfl
            | true=>exact absurd ⟨k,hk,hx⟩ hn)
           have L5:=Lib.hid LM;have Mm:1<=O:=ai;clear LD d6 K t1 t2 f8 hz hb LM
           go_wp2_with (go_at_call 109;refine LB.out.mono ?_;rintro e w2 ⟨rfl,rfl⟩)
           go_round
           case rel=>exact⟨O&&&(O-1),rfl,rfl,f7.out.next T1.out T2.out L5.out,ai⟩
           case measure=>simp[RowKit.intOf];omega
 · rintro a' w' ⟨left,T,u2,u3,u6,u7,u8,u9,Mp,Mq,Mr,Ms,Mt,Mu,Mw,Mx,My,Mz,MA,MB,MC,MD,ME,MF,MG,MH,MI,MJ,MK,ML,MM,MN,MO,MP,MQ,MR,MS,MT,MU,MV,MW,MX,MY,MZ,M0,M3,M4,M5,M6,M7,M8,M9,Na,Nb,Nc,Nd,Nf,Ng,Nh,Ni,Nj,Nk,Nl,Nm,Nn,rfl,hi,ho,E⟩
   go_wp2
   have Fd:=na ho hl;have In:=Lib.hid hi;have HO:=Lib.hid ho;have HB:=Lib.hid E;have BT:=E.lt;clear hi ho E
   go_loop [4,10] (λs t=>∃O:Nat,s=.int .u64 left/\t=.int .u64 O/\Asked l left O/\O<4096) (λ_ t=>(RowKit.intOf t).toNat)
   case atStart=>exact⟨left,rfl,rfl,.start _ _,Fd⟩
   case round=>
    obtain⟨O,rfl,rfl,t7,LT⟩:=hrel;have f7:=Lib.hid t7;clear t7
    by_cases hz:O=0
    · have LY:((O:Int) !=0)=false:=by simp[hz]
      have HZ:=Lib.hid hz;clear hz
      go_wp2
      simp only[Exit.jump]
      go_ret
      exact⟨left,T,rfl,In.out,HO.out,λi hi=>(f7.out.2 i hi).resolve_left (by rw[HZ.out];simp)⟩
    · obtain⟨t1,t2,t3⟩:=rx O ai hz
      have LB:=Lib.hid (rT O ai hz w' (HI.out _ _ In.out).2.1);have LY:((O:Int) !=0)=true:=by simp;omega
      generalize Lib.ctz 64 O=t at LB t1 t2 t3
      have f8:left.testBit t=true:=f7.out.1 t t1;have LC:t<l.length:=((HO.out.bits t).1 f8).1;have LD:fE l l.length 0 t=FK.mask (FK.fP l t):=by simp[fE,LC]
      obtain⟨nf,d6⟩:∃nf,nf=fE l l.length 0 t:=⟨_,rfl⟩;have wf:nf<4096:=by rw[d6];exact si (n:=12) λi x hx=>by have:=HV.out i x hx;omega
      have d9:w'.cell? ⟨w.heap.size,t,none⟩=some (.int .u64 (nf:Nat)):=by rw[HB.out.cell,d6];exact my LC
      have K:=FK.n4 (FK.fP l t) left;rw[<-LD,<-d6] at K;have LZ:=Lib.hid K;have T1:=Lib.hid t1;have T2:=Lib.hid t2;have TL:=Lib.hid f8;have HZ:=Lib.hid hz
      by_cases hb:nf&&&left=0
      · have hand:bits BinOp.and IntKind.u64 (nf:Int) (left:Int)=0:=by rw[nA _ _ wf Fd,hb];rfl
        have Mc:IntKind.u64.wrap (2 ^ t)=2 ^ t:=qY t3;have L3:bits BinOp.andNot IntKind.u64 (left:Int) (2 ^ t)=((clr left t:Nat):Int):=by
         have hp:2 ^ t<2 ^ 64:=Nat.pow_lt_pow_right ai t3;have:=u64_andNot_nat left (2 ^ t) ai (by simpa using hp);simpa[clr] using this
        have d7:∀k∈FK.fP l t,left.testBit k=false:=K.1 hb;have f9:∀j∈FK.fP l t,j∈T:=λj hj=>Classical.byContradiction λhn=>by
         have h1:=(HO.out.bits j).2 ⟨HV.out t j hj,hn⟩;rw[d7 j hj] at h1;cases h1
        have LE:=Lib.hid (HT.out w' T t In.out BT LC ((HO.out.bits t).1 f8).2 f9);have LF:=Lib.hid d7;clear LD d6 K t1 t2 f8 hz hb d7 f9
        go_wp2_with (go_at_call 109;refine LB.out.mono ?_;rintro e w2 ⟨rfl,rfl⟩)
        refine LE.out.mono ?_;rintro e w3 ⟨rfl,LJ,L7,d8⟩;have L4:=Lib.hid LJ;have t6:=Lib.hid d8;clear LJ d8
        go_wp2
        go_step3
        exact⟨rfl,⟨clr left t,T++[t],_,_,_,_,_,_,_,_,_,_,_,_,_,_,_,_,_,_,_,_,_,_,_,_,_,_,_,_,_,_,_,_,_,_,_,_,_,_,_,_,_,_,_,_,_,_,_,_,_,_,_,_,_,_,_,_,_,_,_,_,_,_,_,rfl,L4.out,HO.out.tell TL.out LF.out (ni t3 ai),(t6.out _ (cm _) BT).trans HB.out⟩,by have:=clr_lt t3 ai TL.out;simpa[RowKit.intOf] using this⟩
      · have hand:bits BinOp.and IntKind.u64 (nf:Int) (left:Int)=((nf&&&left:Nat):Int):=nA _ _ wf Fd
        have Md:(((nf&&&left:Nat):Int)==0)=false:=by simp;omega
        have hw:bits BinOp.and IntKind.u64 (O:Int) ((O:Int)-1)=((O&&&(O-1):Nat):Int):=by
         have:=nA O (O-1) LT ai
         rwa [show((O-1:Nat):Int)=(O:Int)-1 by omega] at this
        have Me:=vB hz;have LM:∃k∈FK.fP l t,left.testBit k=true:=Classical.byContradiction λhn=>hb (K.2 λk hk=>by
         cases hx:left.testBit k with
         | false=>rfl
         | true=>exact absurd ⟨k,hk,hx⟩ hn)
        have L5:=Lib.hid LM;have Mm:1<=O:=ai;clear LD d6 K t1 t2 f8 hz hb LM
        go_wp2_with (go_at_call 109;refine LB.out.mono ?_;rintro e w2 ⟨rfl,rfl⟩)
        go_round
        case rel=>exact⟨O&&&(O-1),rfl,rfl,f7.out.next T1.out T2.out L5.out,ai⟩
        case measure=>simp[RowKit.intOf];omega
theorem p9 (w:World) (B:Nat) (A:Option Addr) (c:Nat) (l:List FK.Node) (F:FuncId) (cap:Array Value) (I:World->List Nat->Prop) (hB:B<=w.heap.size) (hl:l.length<=12)
 (hv:∀i,∀k∈FK.fP l i,k<l.length) (Y:∀n∈l,∀x∈n.after,0<=x)
 (hF:∀(args:Array Value) (W:World),(callFunc F args).run Tryz.prog W=.ok (.enter F args) W) (h0:I w []) (hI:∀W T,I W T->NodesAt W B A c l/\Tab W/\w.heap.size<=W.heap.size)
 (E:∀W O T,I W T->Below w.heap.size W O->I O T)
 (K:∀W T k,I W T->k<l.length->k∉T->(∀j∈FK.fP l k,j∈T)->Calls Tryz.prog F (#[.int .i64 k]++cap) W λe O=>
  e=.returned (.tuple #[])/\I O (T++[k])/\W.heap.size<=O.heap.size/\∀b,w.heap.size<=b->b<W.heap.size->O.heap[b]?=W.heap[b]?) :
 Calls Tryz.prog 107 #[.slice A l.length c,.func (.func F) #[] cap] w (C7 I l):=
 ll w B A c l F cap I hB hl hv Y hF h0 hI E λW T k h _=>K W T k h
end
section
variable {xs:List Value} {e:TypeId} {v:Value} {base n:Nat}
theorem xG {w:World} {size:Nat} (h:w.ownsRow base e size v n xs):∃A c,v=.slice A n c/\(A=none->n=0/\c=0)/\n<=c/\c<=maxLen:=by
 rcases h.2 with⟨rfl,rfl⟩|⟨g,cap,E,rfl,_,_,I,K,_⟩
 · exact⟨none,0,rfl,λ_=>⟨rfl,rfl⟩,cm _,Nat.zero_le _⟩
 · exact⟨_,cap,rfl,(λh=>by cases h),I,K⟩
theorem xF {w w':World} {size:Nat} (h:w.ownsRow base e size v n xs) (I:∀k,v.ownBlock=some k->w'.heap[k]?=w.heap[k]?):w'.ownsRow base e size v n xs:=by
 refine⟨h.1,?_⟩;rcases h.2 with h|⟨g,cap,E,rfl,K,O,rest⟩
 · exact .inl h
 · exact .inr ⟨g,cap,E,rfl,K,(I g rfl).trans O,rest⟩
theorem pC {w:World} {size:Nat} (h:w.ownsRow base e size v n xs) {k:Nat} (E:v.ownBlock=some k):base<=k/\k<w.heap.size:=h.lt k E
end
section
variable {P:Program} (w:World)
theorem run_app_nothing (base:Nat) (t O e:TypeId) (i:TypeInfo) (size:Nat) (K:P.underlying t=some (.slice e)) (hi:P.info? e=some i)
 (v:Value) (n:Nat) (xs:List Value) (E:w.ownsRow base e size v n xs) (c:Nat):(Builtin.append_ #[t,t] O #[v,.slice none 0 c]).run P w=.ok v w:=by
 rcases E.2 with⟨rfl,rfl⟩|⟨g,cap,T,rfl,_,_,I,_⟩
 · simp[Builtin.append_,run_underlying K,sizeOf,typeInfo,hi,Builtin.lenOf,Builtin.firstCells]
 · simp[Builtin.append_,run_underlying K,sizeOf,typeInfo,hi,Builtin.lenOf,Builtin.firstCells,I,storeCells]
end
end Go.Y

namespace Go.Y
open Go.Proofs Go.RowKit Go.Deep
def im (b o:Nat):Array Value:=#[.pointer (some ⟨b,o,none⟩),.pointer (some ⟨b,o+1,none⟩),.pointer (some ⟨b,o+2,none⟩),.pointer (some ⟨b,o+3,none⟩),.pointer (some ⟨b,o+4,none⟩),.pointer (some ⟨b,o+5,none⟩)]
theorem put6 {w:World} {g:Nat} {t:TypeId} {x0 x1 x2 x3 x4 x5:Value} (h:Blk w g t #[x0,x1,x2,x3,x4,x5]) (E I K O T Y:Value) :
 Blk ((((((w.setCell ⟨g,0,none⟩ E).setCell ⟨g,1,none⟩ I).setCell ⟨g,2,none⟩ K).setCell ⟨g,3,none⟩ O).setCell ⟨g,4,none⟩ T).setCell ⟨g,5,none⟩ Y) g t #[E,I,K,O,T,Y]:=by
 have h:=h.put 0 E;have h:=h.put 1 I;have h:=h.put 2 K;have h:=h.put 3 O;have h:=h.put 4 T;have h:=h.put 5 Y;simpa using h
theorem wY (w:World) (b:Nat) :
 Calls Tryz.prog 110 #[.pointer (some ⟨b,0,none⟩)] w λe w'=>e=.returned (.agg (im b 0))/\Below w.heap.size w w':=by
 go_enter Tryz.func110,Tryz.ntmps110
 go_wp2
 go_still_tail 19,(by kernel_rfl)
 change wpList _ _ _ _ _ ((w.alloc (.cells #[.pointer none,.pointer none,.pointer none,.pointer none,.pointer none,.pointer none] 196)).drew)
 have E:Blk ((w.alloc (.cells #[.pointer none,.pointer none,.pointer none,.pointer none,.pointer none,.pointer none] 196)).drew) w.heap.size 196 #[.pointer none,.pointer none,.pointer none,.pointer none,.pointer none,.pointer none]:=Blk.made w _ _;have K:Below w.heap.size w ((w.alloc (.cells #[.pointer none,.pointer none,.pointer none,.pointer none,.pointer none,.pointer none] 196)).drew):=((Below.refl _ _).alloc (cm _) _).drew;obtain⟨O,T⟩:∃O,O=((w.alloc (.cells #[.pointer none,.pointer none,.pointer none,.pointer none,.pointer none,.pointer none] 196)).drew):=⟨_,rfl⟩;rw[<-T] at E K ⊢;clear T;have c0:=E.cell 0;have c1:=E.cell 1;have c2:=E.cell 2;have c3:=E.cell 3;have c4:=E.cell 4;have c5:=E.cell 5;have f0:=E.free 0;have f1:=E.free 1;have f2:=E.free 2;have f3:=E.free 3;have f4:=E.free 4;have f5:=E.free 5;simp only[List.getElem?_toArray,List.getElem?_cons_zero,List.getElem?_cons_succ] at c0 c1 c2 c3 c4 c5;have HB:=Lib.hid E;clear E
 go_wp2
 have d6:Below w.heap.size w ((((((O.setCell ⟨w.heap.size,0,none⟩ (.pointer (some ⟨b,0,none⟩))).setCell ⟨w.heap.size,1,none⟩ (.pointer (some ⟨b,1,none⟩))).setCell ⟨w.heap.size,2,none⟩ (.pointer (some ⟨b,2,none⟩))).setCell ⟨w.heap.size,3,none⟩ (.pointer (some ⟨b,3,none⟩))).setCell ⟨w.heap.size,4,none⟩ (.pointer (some ⟨b,4,none⟩))).setCell ⟨w.heap.size,5,none⟩ (.pointer (some ⟨b,5,none⟩))):=(((((K.setCell cP _).setCell cP _).setCell cP _).setCell cP _).setCell cP _).setCell cP _;have I:Blk (((((((O.setCell ⟨w.heap.size,0,none⟩ (.pointer (some ⟨b,0,none⟩))).setCell ⟨w.heap.size,1,none⟩ (.pointer (some ⟨b,1,none⟩))).setCell ⟨w.heap.size,2,none⟩ (.pointer (some ⟨b,2,none⟩))).setCell ⟨w.heap.size,3,none⟩ (.pointer (some ⟨b,3,none⟩))).setCell ⟨w.heap.size,4,none⟩ (.pointer (some ⟨b,4,none⟩))).setCell ⟨w.heap.size,5,none⟩ (.pointer (some ⟨b,5,none⟩)))) w.heap.size 196 (im b 0):=
  put6 HB.out _ _ _ _ _ _
 obtain⟨w3,Y⟩:∃w3,w3=((((((O.setCell ⟨w.heap.size,0,none⟩ (.pointer (some ⟨b,0,none⟩))).setCell ⟨w.heap.size,1,none⟩ (.pointer (some ⟨b,1,none⟩))).setCell ⟨w.heap.size,2,none⟩ (.pointer (some ⟨b,2,none⟩))).setCell ⟨w.heap.size,3,none⟩ (.pointer (some ⟨b,3,none⟩))).setCell ⟨w.heap.size,4,none⟩ (.pointer (some ⟨b,4,none⟩))).setCell ⟨w.heap.size,5,none⟩ (.pointer (some ⟨b,5,none⟩))):=⟨_,rfl⟩;rw[<-Y] at I d6 ⊢;clear Y c0 c1 c2 c3 c4 c5 f0 f1 f2 f3 f4 f5 HB K;have d0:=I.cell 0;have d1:=I.cell 1;have d2:=I.cell 2;have d3:=I.cell 3;have d4:=I.cell 4;have d5:=I.cell 5;simp only[im,List.getElem?_toArray,List.getElem?_cons_zero,List.getElem?_cons_succ] at d0 d1 d2 d3 d4 d5;refine bodyPost_ret (v:=.agg (im b 0)) (by simp[results,Tryz.results110,go_sem,d0,d1,d2,d3,d4,d5,im]) rfl ?_;exact⟨rfl,d6⟩
theorem flat_len {α:Type} (f:α->List UInt8) (c:Nat):∀(l:List α),(∀x∈l,(f x).length<=c)->(l.flatMap f).length<=c*l.length
 | [],_=>by simp
 | x::l,h=>by
  have:=flat_len f c l λy E=>h y (by simp[E]);have I:=h x cP;simp only[List.flatMap_cons,List.length_append,List.length_cons,Nat.mul_add];omega
theorem zy {n:FK.Node} {len:Nat} (E:len<=12) (K:FK.ef n) (I:FK.EdgesOk len (-1) n.after):(FK.fq n).length<=57:=by
 obtain⟨a1,a2,⟨b1,b2⟩,⟨c1,c2⟩,⟨d1,d2⟩,⟨e1,e2⟩,f1,f2⟩:=K;have T:=I.bounds;have Y:n.after.length<=12:=by
  rcases I.length_le ai with h|h
  · omega
  · rw[h];simp
 have h:=flat_len (λk:Int=>FK.co k.toNat) 3 n.after λk O=>FK.dL (by have:=T k O;omega);have g1:=FK.dL (n:=n.Lz.toNat) ai;have g2:=FK.dL (n:=n.close.toNat) ai;have g3:=FK.dL (n:=n.beat.toNat) ai;have g4:=FK.dL (n:=n.base.toNat) ai;have g5:=FK.dL (n:=n.cap.toNat) ai;have g6:=FK.dL (n:=n.LA.toNat) ai;have g7:=FK.dL (n:=n.after.length) ai;simp only[FK.fq,List.length_append];omega
def oA (n:FK.Node):List Int:=[n.Lz,n.close,n.beat,n.base,n.cap,n.LA]
theorem pk (n:FK.Node):FK.fq n=(oA n).flatMap (λk=>FK.co k.toNat)++FK.co n.after.length++n.after.flatMap λk=>FK.co k.toNat:=by
 simp[FK.fq,oA]
end Go.Y

namespace Go.SL
open Go.RowKit Go.Y
section
variable {P:Program} {E:Env} {n:Nat} {D:List Deferred} {ts:List (Nat×Value)} {l:List HP} {ops:Array Oper} {Q:Exit->Act->World->Prop} {rest:List Oper} {i:Nat} {ty:TypeId} {pos:String} {af:Array Edge} {g:Option (Nat×Bool)}
def Gives (P:Program) (G:Env->Prop) (f:FuncId) (args:Array Value) (φ:World->Prop) (R:Value->List HP->Prop):Prop:=
 ∀E w,G E->E.is w->φ w->Calls P f args w λe w'=>∃v m,e=.returned v/\R v m/\Holds E w' (m++[old E w])
variable {G:Env->Prop}
section
variable {φ:World->Prop} {f:FuncId} {r:List HP} {w0:World}
theorem Gives.below {f:FuncId} {args:Array Value} {φ:World->Prop} {R:Value->Prop} (h:∀E w,G E->E.is w->φ w->Calls P f args w λe w'=>∃v,e=.returned v/\R v/\Below w.heap.size w w'):Gives P G f args φ λv m=>R v/\m=[]:=λE w I hw K=>
 (h E w I hw K).mono λ_e _w' ⟨v,O,T,Y⟩=>⟨v,[],O,⟨T,rfl⟩,(Holds.start hw).below Y⟩
theorem ge {args:Array Value} {v:Value} (h:∀E w,G E->E.is w->φ w->Calls P f args w λe w'=>e=.returned v/\Below w.heap.size w w'):Gives P G f args φ λu m=>u=v/\m=[]:=
 Gives.below λE w I hw K=>(h E w I hw K).mono λ_ _ ⟨O,T⟩=>⟨v,O,rfl,T⟩
theorem iP {xs:List Operand} {at_:Array TypeId} {args:List Value} {R:Value->List HP->Prop} {K:Act->World->Prop} (hi:Nat.blt i n=true) (O:dX P f=true) (T:evs ts xs=some args) (Y:G E)
 (hs:Gives P G f args.toArray φ R) (hφ:∀w,Holds E w l->φ w) (h:∀v m,R v m->At E n D ((i,v)::ts) (m++l) K) :
 At E n D ts l (λa w=>(Oper.mk (some i) (.call {callee:=.value (.func f),args:=xs.toArray,argTypes:=at_}) ty pos af g).wp P a w K Q):=λa w I hw=>by
 have:=eF I.knows T;have hr:(execOp a.eval (Oper.mk (some i) (.call {callee:=.value (.func f),args:=xs.toArray,argTypes:=at_}) ty pos af g)).run P w=.ok (.enter f args.toArray) w:=by
  simp[execOp,resolve,Deferred.ofValue,Act.eval,invoke,this,eA O]
 show(Oper.mk (some i) (.call {callee:=.value (.func f),args:=xs.toArray,argTypes:=at_}) ty pos af g).wp P a w K Q;unfold Oper.wp;rw[hr];refine(hs E w Y hw.is (hφ w hw)).mono λe w' ⟨v,m,he,hR,hh⟩=>?_;subst he;exact h v m hR _ w' (I.put i (Nat.le_of_ble_eq_true hi) v)<|Holds.later hw hh
theorem Gives.body {I:Func} {c:Code} {args:List Value} {R:Value->List HP->Prop} (T:P.funcs[f]?=some I) (Y:I.body=some c) (hn:Nat.ble args.length I.ntmps=true)
 (h:∀E w0,G E->E.is w0->φ w0->At E I.ntmps [] (fH 0 args) [old E w0] (c.wp P (nV P I E [old E w0] R))):Gives P G f args.toArray φ R:=λE w hE hw hφ=>by
 refine calls_of_wp T Y<|h E w hE hw hφ _ _ ⟨?_,rfl,?_⟩<|Holds.start hw
 · have:=Nat.le_of_ble_eq_true hn
   simp;omega
 · intro i v hi
   obtain⟨_,K⟩:=fJ args 0 i v hi;rw[Nat.sub_zero] at K;have O:i<args.length:=(gfGet.1 K).1;simp[Array.getElem?_append,O,(gfGet.1 K).2]
theorem xm (s:Sel (old E w0) l r) (I:E.is w0) (h:∀w,Below w0.heap.size w0 w->φ w):∀w,Holds E w l->φ w:=λw hw=>h w (hw.old s I)
theorem C0 {b o:Nat} {v:Value} (s:Sel (old E w0) l r) (K:E.is w0) (I:w0.cell? ⟨b,o,none⟩=some v):∀w,Holds E w l->cR ⟨b,o,none⟩ v w:=
 xm s K λw O=>by
  have:=World.block_lt_of_cell? _ _ I;exact(O.cell this).trans I
theorem zV {b o:Nat} {vs:List Value} (s:Sel (old E w0) l r) (O:E.is w0) (I:∀j v,vs[j]?=some v->w0.cell? ⟨b,o+j,none⟩=some v):∀w,Holds E w l->jb b o vs w:=
 xm s O λw T j v K=>by
  have:=World.block_lt_of_cell? _ _ (I j v K);exact(T.cell this).trans (I j v K)
theorem Gives.does {args:Array Value} {R:Value->List HP->Prop} (h:Gives P G f args (λ_=>True) R):Does P G f args [] R:=λE w _fr I hw=>
 (h E w I hw.is trivial).mono λ_e _w' ⟨v,m,K,O,T⟩=>⟨v,m,K,O,Holds.later hw T⟩
end
end
end Go.SL
namespace Go.Y
open Go.Proofs Go.RowKit Go.SL
variable {G:Env->Prop}
abbrev bP (v:Value) (l:List UInt8):HP:=row 5 1 v l.length (cw l)
theorem qF (b:Nat):Does Tryz.prog G 110 #[.pointer (some ⟨b,0,none⟩)] [] λv m=>v=.agg (im b 0)/\m=[]:=
 (ge (φ:=λ_=>True) λ_ w _ _ _=>wY w b).does
theorem zA {f:FuncId} {args:Array Value} {v:Value} {l l':List UInt8} (h:∀w,lM w 0 v l->Calls Tryz.prog f args w (C8 w 0 v l')):Does Tryz.prog G f args [bP v l] λv' m=>m=[bP v' l']:=λE w fr _ hw=>by
 refine(h w (hw.row .head)).mono λe w' ⟨v',K,I,O,T⟩=>⟨v',_,K,rfl,?_⟩;exact nk hw O I T
theorem gk (v:Value) (l:List UInt8) (m:Nat) (I:m<18446744073709551616) (K:l.length<=1099511627776):Does Tryz.prog G 87 #[v,.int .u64 m] [bP v l] λv' r=>r=[bP v' (l++FK.co m)]:=
 zA λw O=>pp w 0 v l m I O K (Nat.zero_le _)
theorem mi {E:Env} {l r:List HP} {w0:World} {B:Nat} {A:Option Addr} {c:Nat} {ns:List FK.Node} (s:Sel (old E w0) l r) (O:E.is w0) (h:NodesAt w0 B A c ns) (I:B<=w0.heap.size):∀w,Holds E w l->NodesAt w w.heap.size A c ns:=
 xm s O λ_w K=>(h.keep (K.to_same.mono I)).more (Nat.le_trans I K.size)
end Go.Y

namespace Go.SL
open Go.RowKit
section
variable {P:Program} {G:Env->Prop} {E:Env} {n:Nat} {D:List Deferred} {ts:List (Nat×Value)} {l:List HP} {ops:Array Oper} {Q:Exit->Act->World->Prop} {rest:List Oper} {i:Nat} {ty:TypeId} {pos:String} {af:Array Edge} {g:Option (Nat×Bool)}
section
variable {X:List PanicEntry->List HP->Prop} {K:Act->World->Prop} {s' t t':TypeId} {ms:Array (String×TypeId)} {fr pre:List HP} {xs:List Operand} {f:FuncId} {q r s:ResultVar} {fn:Func} {c:List PanicEntry} {w:World} {φ:World->Prop} {a:Act} {y:Operand} {m:String}
theorem aR {b:Nat} {cs:Array Value} {I:Nat×Nat} {r:List HP} {vs:List Value} [h:Has b l (.cells cs t I) r] (O:cs=vs.toArray):∀w,Holds E w l->jb b 0 vs w:=BY λj v T=>by
 subst O;simpa using T
def DoesX (P:Program) (G:Env->Prop) (f:FuncId) (args:Array Value) (pre:List HP) (R:Value->List HP->Prop) (X:List PanicEntry->List HP->Prop):Prop:=
 ∀E w fr,G E->Holds E w (pre++fr)->Calls P f args w λe w'=>(∃v m,e=.returned v/\R v m/\Holds E w' (m++fr))\/∃c m,e=.panicked c/\X c m/\Holds E w' (m++fr)
def Fj (P:Program) (fn:Func) (E:Env) (fr:List HP) (R:Value->List HP->Prop) (X:List PanicEntry->List HP->Prop):Exit->Act->World->Prop:=
 bodyPost P fn λe w'=>(∃v m,e=.returned v/\R v m/\Holds E w' (m++fr))\/∃c m,e=.panicked c/\X c m/\Holds E w' (m++fr)
theorem DoesX.body {c:Code} {args:List Value} {R:Value->List HP->Prop} (T:P.funcs[f]?=some fn) (Y:fn.body=some c) (hn:Nat.ble args.length fn.ntmps=true)
 (h:∀E fr,G E->At E fn.ntmps [] (fH 0 args) (pre++fr) (c.wp P (Fj P fn E fr R X))):DoesX P G f args.toArray pre R X:=by
 intro E w fr hE hw;refine calls_of_wp T Y<|h E fr hE _ _ ⟨?_,rfl,?_⟩ hw
 · have:=Nat.le_of_ble_eq_true hn
   simp;omega
 · intro i v hi
   obtain⟨_,I⟩:=fJ args 0 i v hi;rw[Nat.sub_zero] at I;have O:i<args.length:=(gfGet.1 I).1;simp[Array.getElem?_append,O,(gfGet.1 I).2]
theorem lf {R:Value->List HP->Prop} {e:Exit} (T:e=.ret\/e=.normal) (h:At E n D ts l (nV P fn E fr R e)):At E n D ts l (Fj P fn E fr R X e):=λa w f hw=>by
 have:=h a w f hw;rcases T with rfl|rfl
 · obtain⟨hd,v,I,O⟩:=this
   exact⟨hd,v,I,.inl O⟩
 · obtain⟨hd,v,I,O⟩:=this
   exact⟨hd,v,I,.inl O⟩
theorem gB {R:Value->List HP->Prop} (m:List HP) (I:X c m) (O:Ent l (m++fr)):At E n [] ts l (Fj P fn E fr R X (.panic c)):=λ_ _ f hw=>
 ⟨f.defers,.inr ⟨c,m,rfl,I,hw.ent O⟩⟩
theorem cI (h:At E n D ts l (Q (.panic c))):At E n D ts l (Exit.then K Q (.panic c)):=h
theorem eM {id:Nat} (h:At E n D ts l (Q (.panic c))):At E n D ts l (Exit.inBlock id Q (.panic c)):=h
theorem jN {X:Type} {T:X->List (Nat×Value)} {L:X->List HP} {I:X->Prop} {μ:X->Nat} {m:Nat} (h:At E n D ts l (Q (.panic c))):At E n D ts l (xr n D E T L I μ m Q (.panic c)):=h
theorem Cs {x:Operand} {v:Value} {d:Option Tmp} (I:ev ts x=some (.iface t v)) (h:At E n D ts l (Q (.panic [{v:=.iface t v,recovered:=false}]))):At E n D ts l (λa w=>(Oper.mk d (.panic x) ty pos af g).wp P a w K Q):=λa w f hw=>by
 have O:(execOp a.eval (Oper.mk d (.panic x) ty pos af g)).run P w=.halt (.panic (.iface t v)) w:=by simp[execOp,f.eval I,Instr.panic]
 show(Oper.mk d (.panic x) ty pos af g).wp P a w K Q;unfold Oper.wp;rw[O];exact h a w f hw
theorem uy {o:Oper} {args:Array Value} {R:Value->List HP->Prop} (T:(execOp a.eval o).run P w=.ok (.enter f args) w) (Y:G E) (hs:DoesX P G f args pre R X) (hw:Holds E w (pre++fr))
 (hk:∀v m w',R v m->Holds E w' (m++fr)->K (a.put o.dst v) w') (hp:∀c m w',X c m->Holds E w' (m++fr)->Q (.panic c) a w'):o.wp P a w K Q:=by
 unfold Oper.wp;rw[T];refine(hs E w fr Y hw).mono λe w' h=>?_;rcases h with⟨v,m,I,hR,O⟩|⟨c,m,I,hX,O⟩
 · subst I
   exact hk v m w' hR O
 · subst I
   exact hp c m w' hX O
theorem nq {at_:Array TypeId} {args:List Value} {R:Value->List HP->Prop} (hi:Nat.blt i n=true) (T:dX P f=true) (Y:evs ts xs=some args) (hE:G E)
 (hs:DoesX P G f args.toArray pre R X) (hl:Ent l (pre++fr)) (hp:∀c m,X c m->At E n D ts (m++fr) (Q (.panic c))) (h:∀v m,R v m->At E n D ((i,v)::ts) (m++fr) K) :
 At E n D ts l (λa w=>(Oper.mk (some i) (.call {callee:=.value (.func f),args:=xs.toArray,argTypes:=at_}) ty pos af g).wp P a w K Q):=λa w I hw=>by
 refine uy (f:=f) (args:=args.toArray) ?_ hE hs (hw.ent hl) (λv m w' hR O=>h v m hR _ w' (I.put i (Nat.le_of_ble_eq_true hi) v) O) λc m w' hX O=>hp c m hX a w' I O;have:=eF I.knows Y;simp[execOp,resolve,Deferred.ofValue,Act.eval,invoke,this,eA T]
theorem xJ {x:Operand} {first I:Array Value} {at_:Array TypeId} {args:List Value} {R:Value->List HP->Prop} (hi:Nat.blt i n=true)
 (Y:ev ts x=some (.func (.func f) first I)) (hb:dX P f=true) (hx:evs ts xs=some args) (hE:G E) (hs:DoesX P G f (first++args.toArray++I) pre R X) (hl:Ent l (pre++fr)) (hp:∀c m,X c m->At E n D ts (m++fr) (Q (.panic c)))
 (h:∀v m,R v m->At E n D ((i,v)::ts) (m++fr) K) :
 At E n D ts l (λa w=>(Oper.mk (some i) (.call {callee:=.value x,args:=xs.toArray,argTypes:=at_}) ty pos af g).wp P a w K Q):=λa w O hw=>by
 refine uy (f:=f) (args:=first++args.toArray++I) ?_ hE hs (hw.ent hl) (λv m w' hR T=>h v m hR _ w' (O.put i (Nat.le_of_ble_eq_true hi) v) T) λc m w' hX T=>hp c m hX a w' O T;have:=eF O.knows hx;simp[execOp,resolve,Deferred.ofValue,O.eval Y,invoke,this,eA hb]
theorem ju {at_:Array TypeId} {args:List Value} {v:Value} (I:evs ts xs=some args) (h:∀w,φ w->(callFunc f args.toArray).run P w=.ok (.value v) w):Ev P ts (.call {callee:=.value (.func f),args:=xs.toArray,argTypes:=at_}) v φ:=by
 intro a w _ _ _ _ _ O T;have:=eF O I;simp[execOp,resolve,Deferred.ofValue,Act.eval,invoke,this,h w T]
theorem fF {r:Operand} {u:Value} {I:Value} {at_:Array TypeId} {args:List Value} {v:Value} (T:ev ts r=some (.iface t u)) (Y:evs ts xs=some args) (hm:∀w,(Go.method (P.types.size+Made.depth) t u m).run P w=.ok (f,I) w)
 (h:∀w,φ w->(callFunc f (I::args).toArray).run P w=.ok (.value v) w):Ev P ts (.call {callee:=.invoke r m,args:=xs.toArray,argTypes:=at_}) v φ:=by
 intro a w _ _ _ _ _ O hφ;have h1:=eF O Y;have h2:(#[a.eval r]++(xs.toArray.map a.eval))=#[Value.iface t u]++args.toArray:=by simp[O.eval T,h1]
 simp only[execOp,resolve,Sem.run_bind,Sem.run_pure,Result.andThen_ok,h2,invoke];simp[callMethod,hm,h w hφ]
theorem xo {at_:Array TypeId} {args:List Value} {o:Obj} {v:Nat->Value} (hi:Nat.blt i n=true) (O:evs ts xs=some args) (T:∀w,(callFunc f args.toArray).run P w=.ok (.value (v w.heap.size)) (w.alloc o))
 (h:∀b,At E n D ((i,v b)::ts) (ob b o::l) K):At E n D ts l (λa w=>(Oper.mk (some i) (.call {callee:=.value (.func f),args:=xs.toArray,argTypes:=at_}) ty pos af g).wp P a w K Q):=λa w I hw=>by
 have Y:=eF I.knows O;have:(execOp a.eval (Oper.mk (some i) (.call {callee:=.value (.func f),args:=xs.toArray,argTypes:=at_}) ty pos af g)).run P w=.ok (.value (v w.heap.size)) (w.alloc o):=by
  simp[execOp,resolve,Deferred.ofValue,Act.eval,invoke,Y,T w]
 show(Oper.mk (some i) (.call {callee:=.value (.func f),args:=xs.toArray,argTypes:=at_}) ty pos af g).wp P a w K Q;unfold Oper.wp;rw[this];exact h _ _ _ (I.put i (Nat.le_of_ble_eq_true hi) _)<|hw.alloc _
theorem fm {r:Operand} {u:Value} {I:Value} {at_:Array TypeId} {args:List Value} {R:Value->List HP->Prop} (hi:Nat.blt i n=true) (Y:ev ts r=some (.iface t u)) (hx:evs ts xs=some args)
 (O:∀w,(Go.method (P.types.size+Made.depth) t u m).run P w=.ok (f,I) w) (hb:dX P f=true) (hE:G E) (hs:Does P G f (I::args).toArray pre R) (hl:Ent l (pre++fr)) (h:∀v m,R v m->At E n D ((i,v)::ts) (m++fr) K) :
 At E n D ts l (λa w=>(Oper.mk (some i) (.call {callee:=.invoke r m,args:=xs.toArray,argTypes:=at_}) ty pos af g).wp P a w K Q):=λa w T hw=>by
 refine oL (f:=f) (args:=(I::args).toArray) ?_ hE hs (hw.ent hl) λv m w' hR O=>h v m hR _ w' (T.put i (Nat.le_of_ble_eq_true hi) v) O;have h1:=eF T.knows hx;have h2:(#[a.eval r]++(xs.toArray.map a.eval))=#[Value.iface t u]++args.toArray:=by simp[T.eval Y,h1]
 simp only[execOp,resolve,Sem.run_bind,Sem.run_pure,Result.andThen_ok,h2,invoke];simp[callMethod,O,eA hb]
theorem ev_as {x:Operand} {s:TypeId} {u:Value} {d:TypeDesc} (hd:P.underlying s=some d) (T:(match d with | .interface _=>true|_=>false)=false) (I:ev ts x=some (.iface s u)):Ev P ts (.typeAssert x t s true) (.tuple #[u,.bool true]) Any:=by
 intro a w _ _ _ _ _ O _;simp only[execOp,O.eval I,Instr.typeAssert,Sem.run_bind,run_underlying hd,Result.andThen_ok];cases d<;>simp_all
theorem Li {x:Operand} {s:TypeId} {u:Value} (hd:P.underlying s=some (.interface ms)) (I:ev ts x=some (.iface s' u)) (O:(P.info? s').map (λi=>(Go.lacking ms i.methods).isEmpty)=some true):Ev P ts (.typeAssert x t s true) (.tuple #[.iface s' u,.bool true]) Any:=by
 intro a w _ _ _ _ _ T _;simp[execOp,T.eval I,Go.run_typeAssert_hasB hd O u t w]
theorem nM {x:Operand} {s:TypeId} {u z:Value} (hd:P.underlying s=some (.interface ms)) (I:ev ts x=some (.iface s' u)) (O:(P.info? s').map (λi=>(Go.lacking ms i.methods).isEmpty)=some false) (T:(P.info? s).map (·.zero)=some (some z)):Ev P ts (.typeAssert x t s true) (.tuple #[z,.bool false]) Any:=by
 intro a w _ _ _ _ _ Y _;simp[execOp,Y.eval I,Go.run_typeAssert_lacksB hd O T u t w]
theorem Ex {x:Operand} {s:TypeId} {u v:Value} (T:P.underlying t=some (.interface ms)) (Y:ev ts x=some (.iface s u)) (hy:ev ts y=some (.iface s' v)) (I:Nat.beq s s'=false):Ev P ts (.binOp .eql t x y t') (.bool false) Any:=by
 intro ac w _ _ _ _ _ O _;have:s≠s':=λe=>by subst e;simp at I
 exact eT (O.eval Y) (O.eval hy) (by simp[eqGuard]) (k9 Z λd=>by simp[Op.equalIn,run_underlying T,this])
theorem sz {x:Operand} {s:TypeId} {k:IntKind} {u v:Int} {I:TypeInfo} {r:Bool} (T:P.underlying t=some (.interface ms)) (Y:P.underlying s=some (.int k)) (hi:P.info? s=some I) (hc:I.comparable=true) (hx:ev ts x=some (.iface s (.int k u))) (hy:ev ts y=some (.iface s (.int k v))) (hr:(u==v)=r):Ev P ts (.binOp .eql t x y t') (.bool r) Any:=by
 intro ac w _ _ _ _ _ O _;subst hr;refine eT (O.eval hx) (O.eval hy) (by simp[eqGuard]) ?_;have h:∀d,(Op.equalIn (d+2) t (.iface s (.int k u)) (.iface s (.int k v))).run P w=.ok (u==v) w:=λd=>by
  simp[Op.equalIn,run_underlying T,run_underlying Y,typeInfo,hi,hc]
 show(do pure (.bool (<-Op.equal t (.iface s (.int k u)) (.iface s (.int k v)))):Sem Value).run P w=_;simp only[Op.equal,Op.maxDepth,Sem.run_bind,h 9998,Result.andThen_ok,Sem.run_pure]
def zM (P:Program) (E:Env) (ts:List (Nat×Value)) (l:List HP) (r:ResultVar) (v:Value):Prop:=
 ∀(a:Act) (w:World),(∀i u,look i ts=some u->a.tmps[i]?=some u)->Holds E w l->((match r with | .tmp t=>pure (a.tmps.getD t undef) | .cell c t=>do loadVar t (<-asAddr (a.tmps.getD c undef))):Sem Value).run P w=.ok v w
theorem da {t:Nat} {v:Value} (h:look t ts=some v):zM P E ts l (.tmp t) v:=λa w k _=>by simp[jP (k t v h)]
theorem dy {c:Nat} {p:Addr} {v:Value} (hd:j6 P t=some false) (h:look c ts=some (.pointer (some p))) (hc:∀w,Holds E w l->cR p v w):zM P E ts l (.cell c t) v:=λa w k hw=>by
 simp only[jP (k c _ h),asAddr,Sem.run_bind,Sem.run_pure,Result.andThen_ok];exact gz hd<|hc w hw
theorem ce {c:Nat} {b o m:Nat} {vs:List Value} (hd:j6 P t=some true) (I:dm P t m) (O:vs.length=m) (h:look c ts=some (.pointer (some ⟨b,o,none⟩))) (hc:∀w,Holds E w l->jb b o vs w):zM P E ts l (.cell c t) (.agg vs.toArray):=λa w k hw=>by
 simp only[jP (k c _ h),asAddr,Sem.run_bind,Sem.run_pure,Result.andThen_ok];exact wK hd I O<|hc w hw
theorem yH {v:Value} (I:fn.results=#[r]) (h:zM P E ts l r v) (k:∀i u,look i ts=some u->a.tmps[i]?=some u) (hw:Holds E w l):(results fn a.tmps).run P w=.ok v w:=by
 have:=h a w k hw;simp only[results,I];simp only[Array.mapM_eq_mapM_toList,List.mapM_cons,List.mapM_nil,Sem.run_bind,Sem.run_map];cases r<;>simp_all
theorem yG {u v:Value} (I:fn.results=#[r,s]) (h:zM P E ts l r u) (O:zM P E ts l s v) (k:∀i u,look i ts=some u->a.tmps[i]?=some u) (hw:Holds E w l):(results fn a.tmps).run P w=.ok (.tuple #[u,v]) w:=by
 have T:=h a w k hw;have Y:=O a w k hw;simp only[results,I];simp only[Array.mapM_eq_mapM_toList,List.mapM_cons,List.mapM_nil,Sem.run_bind,Sem.run_map];cases r<;>cases s<;>simp_all
theorem yF {u v x:Value} (O:fn.results=#[r,s,q]) (h:zM P E ts l r u) (T:zM P E ts l s v) (I:zM P E ts l q x) (k:∀i u,look i ts=some u->a.tmps[i]?=some u) (hw:Holds E w l):(results fn a.tmps).run P w=.ok (.tuple #[u,v,x]) w:=by
 have Y:=h a w k hw;have h2:=T a w k hw;have h3:=I a w k hw;simp only[results,O];simp only[Array.mapM_eq_mapM_toList,List.mapM_cons,List.mapM_nil,Sem.run_bind,Sem.run_map];cases r<;>cases s<;>cases q<;>simp_all
theorem kO {R:Value->List HP->Prop} {v:Value} (m:List HP) (I:fn.results=#[r]) (h:zM P E ts l r v) (O:R v m) (T:Ent l (m++fr)):At E n [] ts l (nV P fn E fr R .ret):=λ_ _ f hw=>
 ⟨f.defers,v,yH I h f.get hw,_,m,rfl,O,hw.ent T⟩
theorem eb {R:Value->List HP->Prop} {u v:Value} (m:List HP) (I:fn.results=#[r,s]) (h:zM P E ts l r u) (O:zM P E ts l s v) (T:R (.tuple #[u,v]) m) (Y:Ent l (m++fr)):At E n [] ts l (nV P fn E fr R .ret):=λ_ _ f hw=>
 ⟨f.defers,_,yG I h O f.get hw,_,m,rfl,T,hw.ent Y⟩
theorem hO {R:Value->List HP->Prop} {u v x:Value} (m:List HP) (O:fn.results=#[r,s,q]) (h:zM P E ts l r u) (T:zM P E ts l s v) (I:zM P E ts l q x) (Y:R (.tuple #[u,v,x]) m) (hm:Ent l (m++fr)):At E n [] ts l (nV P fn E fr R .ret):=λ_ _ f hw=>
 ⟨f.defers,_,yF O h T I f.get hw,_,m,rfl,Y,hw.ent hm⟩
end
end
open Go.RowKit
section
variable {P:Program} {G:Env->Prop} {E:Env} {n:Nat} {D:List Deferred} {ts:List (Nat×Value)} {l:List HP} {ops:Array Oper} {Q:Exit->Act->World->Prop} {rest:List Oper} {i:Nat} {ty:TypeId} {pos:String} {af:Array Edge} {g:Option (Nat×Bool)}
section
variable {f:FuncId} {fr l' pre:List HP} {u':FrameMode} {fn:Func}
def m3 (P:Program):List Field->Option (List (Nat×Nat))
 | []=>some []
 | f::fs=>match P.info? f.type,m3 P fs with
  | some i,some r=>some ((f.offset,i.size)::r)
  | _,_=>none
theorem tu {w:World}:∀{fs:List Field} {I:List (Nat×Nat)},m3 P fs=some I->(fs.mapM λf=>(do pure (f.offset,<-sizeOf f.type):Sem (Nat×Nat))).run P w=.ok I w
 | [],I,h=>by simp[m3] at h;subst h;simp
 | f::fs,I,h=>by
  simp only[m3] at h
  split at h
  · rename_i i r hi O
    injection h with h;subst h;have K:(sizeOf f.type).run P w=.ok i.size w:=by simp[sizeOf,typeInfo,hi]
    rw[List.mapM_cons];simp only[Sem.run_bind,K,Result.andThen_ok,Sem.run_pure,tu O]
  · cases h
theorem bT {t:TypeId} {fs:Array Field} {I:List (Nat×Nat)} {z:Value} {ps:List (Nat×Operand)} {vs:List Value} {cs:Array Value} (T:P.underlying t=some (.struct fs)) (Y:m3 P fs.toList=some I) (hz:iM P t z)
 (K:evs ts (ps.map (·.2))=some vs) (O:Instr.fill (I.toArray[·]?) z.cells ((ps.map (·.1)).zip vs)=some cs):Ev P ts (.build t ps.toArray) (.agg cs) Any:=by
 intro a w _ _ _ _ _ kn _;have he:(ps.toArray.map λp=>(p.1,a.eval p.2)).toList=(ps.map (·.1)).zip vs:=by
  have:=eF kn K;rw[<-this];simp;clear K O this
  induction ps with
  | nil=>rfl
  | cons p ps ih=>simp;exact ih
 simp only[execOp,Instr.build,Sem.run_bind,iS hz,run_underlying T,Result.andThen_ok,Array.mapM_eq_mapM_toList,Sem.run_map,tu Y,he];simp only[Result.andThen_ok,O,Sem.run_pure]
def DoesD (P:Program) (G:Env->Prop) (f:FuncId) (args:Array Value) (u u':FrameMode) (pre:List HP) (R:List HP->Prop):Prop:=
 ∀E w fr,G E->Holds E w (pre++fr)->CallsD P f args u w λe I w'=>e=.returned (.tuple #[])/\I=u'/\∃m,R m/\Holds E w' (m++fr)
def Fl (P:Program) (fn:Func) (E:Env) (fr:List HP) (R:Value->List HP->Prop):Exit->Act->World->Prop:=
 bodyPostD P fn λe w'=>∃v m,e=.returned v/\R v m/\Holds E w' (m++fr)
theorem ox {c:Code} {args:List Value} {R:Value->List HP->Prop} (O:P.funcs[f]?=some fn) (T:fn.body=some c) (Y:Nat.ble args.length fn.ntmps=true)
 (h:∀E fr,G E->At E fn.ntmps [] (fH 0 args) (pre++fr) (c.wp P (Fl P fn E fr R))):Does P G f args.toArray pre R:=by
 intro E w fr hE hw;refine calls_of_wp_defers O T<|h E fr hE _ _ ⟨?_,rfl,?_⟩ hw
 · have:=Nat.le_of_ble_eq_true Y
   simp;omega
 · intro i v hi
   obtain⟨_,I⟩:=fJ args 0 i v hi;rw[Nat.sub_zero] at I;have K:i<args.length:=(gfGet.1 I).1;simp[Array.getElem?_append,K,(gfGet.1 I).2]
theorem wi {x:Operand} {first cap:Array Value} {K:Act->World->Prop} (O:ev ts x=some (.func (.func f) first cap)) (h:At E n ({target:=.fn (.func f) cap,args:=first}::D) ts l K) :
 At E n D ts l (λa w=>(Oper.mk none (.defer {callee:=.value x,args:=#[],argTypes:=#[]}) ty pos af g).wp P a w K Q):=λa w I hw=>by
 have T:(execOp a.eval (Oper.mk none (.defer {callee:=.value x,args:=#[],argTypes:=#[]}) ty pos af g)).run P w=.ok (.defer {target:=.fn (.func f) cap,args:=first}) w:=by
  simp[execOp,resolve,Deferred.ofValue,I.eval O]
 show(Oper.mk none (.defer {callee:=.value x,args:=#[],argTypes:=#[]}) ty pos af g).wp P a w K Q;unfold Oper.wp;rw[T];exact h _ w ⟨I.size,by simp[Act.put,I.defers],λi v hi=>I.get i v hi⟩ hw
theorem ic {R:Value->List HP->Prop} {first cap:Array Value} {Rd:List HP->Prop} {e:Exit} (K:e=.ret\/e=.normal) (O:settle u'=.returning) (T:dX P f=true) (Y:G E)
 (hs:DoesD P G f (first++cap) .returning u' pre Rd) (hl:Ent l (pre++l')) (h:∀m,Rd m->At E n [] ts (m++l') (nV P fn E fr R .ret)):At E n [{target:=.fn (.func f) cap,args:=first}] ts l (Fl P fn E fr R e):=λa w I hw=>by
 have key:Leaves P fn a.tmps (λe w'=>∃v m,e=.returned v/\R v m/\Holds E w' (m++fr)) a.defers .returning w:=by
  rw[I.defers];refine leaves_cons (f:=f) (args:=first++cap) cP (by simp[invoke,eA T]) ((hs E w l' Y (hw.ent hl)).mono ?_);rintro e d6 w' ⟨rfl,rfl,m,hm,hh⟩;simp only[O];obtain⟨_,v,hr,hx⟩:=h m hm {a with defers:=[]} w' ⟨I.size,rfl,I.get⟩ hh;exact⟨v,hr,hx⟩
 rcases K with rfl|rfl<;>exact key
theorem mA {R:Value->List HP->Prop} {first cap:Array Value} {Rd:List HP->Prop} {c:List PanicEntry} (K:settle u'=.returning) (O:dX P f=true) (T:G E)
 (Y:DoesD P G f (first++cap) (.panicking c) u' pre Rd) (hl:Ent l (pre++l')) (h:∀m,Rd m->At E n [] ts (m++l') (nV P fn E fr R .ret)):At E n [{target:=.fn (.func f) cap,args:=first}] ts l (Fl P fn E fr R (.panic c)):=λa w I hw=>by
 show Leaves P fn a.tmps (λe w'=>∃v m,e=.returned v/\R v m/\Holds E w' (m++fr)) a.defers (.panicking c) w;rw[I.defers];refine leaves_cons (f:=f) (args:=first++cap) cP (by simp[invoke,eA O]) ((Y E w l' T (hw.ent hl)).mono ?_);rintro e d6 w' ⟨rfl,rfl,m,hm,hh⟩;simp only[K];obtain⟨_,v,hr,hx⟩:=h m hm {a with defers:=[]} w' ⟨I.size,rfl,I.get⟩ hh;exact⟨v,hr,hx⟩
theorem DoesD.recover {f:FuncId} {fn:Func} {c:Code} {id d:Nat} {args:List Value} {u u':FrameMode} {v:Value} {pre:List HP} {R:List HP->Prop} (hf:P.funcs[f]?=some fn)
 (hb:fn.body=some (.seq (.region id #[⟨some d,.call {callee:=.builtin .recover,args:=#[],argTypes:=#[]},ty,pos,af,none⟩] false) c)) (hn:Nat.ble args.length fn.ntmps=true) (hd:Nat.blt d fn.ntmps=true)
 (hu:(u=.returning/\u'=.returning/\v=.nilIface)\/∃I,u=.panicking ({v:=v,recovered:=false}::I)/\u'=.panicking ({v:=v,recovered:=true}::I))
 (h:∀E fr,G E->At E fn.ntmps [] ((d,v)::fH 0 args) (pre++fr) (c.wp P (nV P fn E fr λv m=>v=.tuple #[]/\R m))):DoesD P G f args.toArray u u' pre R:=by
 intro E w fr hE hw;refine callsD_of_wpS hf hb λT cs hc=>?_;have d6:Fits fn.ntmps [] (fH 0 args) {tmps:=args.toArray++Array.replicate (fn.ntmps-args.toArray.size) undef,defers:=[]}:=by
  refine⟨?_,rfl,?_⟩
  · have:=Nat.le_of_ble_eq_true hn
    simp;omega
  · intro i v hi
    obtain⟨_,Y⟩:=fJ args 0 i v hi;rw[Nat.sub_zero] at Y;have d8:i<args.length:=(gfGet.1 Y).1;simp[Array.getElem?_append,d8,(gfGet.1 Y).2]
 have hk:=h E fr hE _ w (d6.put d (Nat.le_of_ble_eq_true hd) v) hw;have K:∀c₁:Frame,c₁={T with mode:=u'}->c.wpS P (bodyPostS P fn T cs λe d7 w'=>e=.returned (.tuple #[])/\d7=u'/\∃m,R m/\Holds E w' (m++fr)) (({tmps:=args.toArray++Array.replicate (fn.ntmps-args.toArray.size) undef,defers:=[]}:Act).put (some d) v) (c₁::cs) w:=by
  rintro c₁ rfl;refine wpS_of_wp<|Code.wp_mono ?_ hk
  intro e a w' hq;cases e with
  | normal=>exact let⟨h1,v,Y,v',m,h3,⟨h4,h5⟩,h6⟩:=hq;⟨h1,u',rfl,v,Y,by rw[h3,h4],rfl,m,h5,h6⟩
  | ret=>exact let⟨h1,v,Y,v',m,h3,⟨h4,h5⟩,h6⟩:=hq;⟨h1,u',rfl,v,Y,by rw[h3,h4],rfl,m,h5,h6⟩
  | panic c=>exact let⟨_,v',m,h3,_⟩:=hq;by cases h3
  | exit _=>exact hq.elim
  | goto _=>exact hq.elim
  | outgrown=>exact let⟨v',m,h3,_⟩:=hq;by cases h3
 apply wpS_seq;apply wpS_region;have d9:∀(a:Act) (w:World),(execOp a.eval ⟨some d,.call {callee:=.builtin .recover,args:=#[],argTypes:=#[]},ty,pos,af,none⟩).run P w=.ok .recover w:=λa w=>by
  simp[execOp,resolve,invoke,builtin]
 simp only[List.size_toArray,List.length_cons,List.length_nil,Nat.zero_add,List.range_one,wpOpsS,List.getElem?_toArray,List.getElem?_cons_zero,Region.wanted,if_true,d9];rcases hu with⟨rfl,rfl,rfl⟩|⟨I,rfl,rfl⟩
 · have O:recoverD (T::cs)=none:=by simp[recoverD,hc]
   simp only[O,Exit.thenS];exact K T (by cases T;simp_all)
 · have O:recoverD (T::cs)=some (v,{T with mode:=.panicking ({v:=v,recovered:=true}::I)}::cs):=by simp[recoverD,hc]
   simp only[O,Exit.thenS];exact K _ Z
end
end
open Go.RowKit
section
variable {P:Program} {E:Env} {n:Nat} {D:List Deferred} {ts:List (Nat×Value)} {l:List HP} {ops:Array Oper} {Q:Exit->Act->World->Prop} {rest:List Oper} {i:Nat} {ty:TypeId} {pos:String} {af:Array Edge}
section
variable {φ:World->Prop} {K:Act->World->Prop} {b d:Bool} {c y:Operand}
def gv (k:Bool) (v:Value):Value:=if k then v else undef
theorem fC {op:Op} (hi:Nat.blt i n=true) (I:Ev P ts op (.bool d) φ) (O:∀w,Holds E w l->φ w) (h:∀c:Bool,c=d->At E n D ((i,.bool c)::ts) l (wpList P ops Q rest)) :
 At E n D ts l (wpList P ops Q (⟨some i,op,ty,pos,af,none⟩::rest)):=lH hi I O (h d rfl)
def AtT (E:Env) (n:Nat) (D:List Deferred) (T:Bool->List (Nat×Value)) (c:Bool) (l:List HP) (K:Act->World->Prop):Prop:=At E n D (T c) l K
theorem dW {T:Bool->List (Nat×Value)} (c:Bool) (I:ts=T c) (h:AtT E n D T c l K):At E n D ts l K:=by
 subst I;exact h
theorem fK {T:Bool->List (Nat×Value)} {c:Bool} {op:Op} {v:Value} {j t:Nat} (hi:Nat.blt i n=true) (Y:(ops[j]?).bind (·.dst)=some t) (hv:∀c,look t (T c)=some (.bool c)) (I:Ev P (T b) op v φ) (hφ:∀w,Holds E w l->φ w)
 (h:At E n D ((i,gv (c==b) v)::T c) l (wpList P ops Q rest)):AtT E n D T c l (wpList P ops Q (⟨some i,op,ty,pos,af,some (j,b)⟩::rest)):=by
 unfold AtT
 by_cases hc:c=b
 · subst hc
   refine iK Z Y (hv c)<|ko hi I hφ ?_
   have:gv (c==c) v=v:=by simp[gv]
   rwa [this] at h
 · have O:c=!b:=by cases c<;>cases b<;>simp_all
   refine xV Z hi Z Y (hv c) O ?_;have:gv (c==b) v=undef:=by simp[gv,hc]
   rwa [this] at h
theorem uW {g:Option (Nat×Bool)} {f:FuncId} {xs:List Operand} {at_:Array TypeId} {args:List Value} {b j:Nat} {tb:TypeId} {cs:Array Value} {u v:Value} {r:List HP} [hh:Has b l (.cells cs tb) r] (hi:Nat.blt i n=true) (O:evs ts xs=some args) (T:∀w,Holds E w l->φ w)
 (Y:∀w,φ w->w.heap[b]?=some (.cells cs tb)->(callFunc f args.toArray).run P w=.ok (.value u) (w.setCell ⟨b,j,none⟩ v))
 (h:At E n D ((i,u)::ts) (blk b tb (cs.setIfInBounds j v)::r) K):At E n D ts l (λa w=>(Oper.mk (some i) (.call {callee:=.value (.func f),args:=xs.toArray,argTypes:=at_}) ty pos af g).wp P a w K Q):=λa w I hw=>by
 have h1:=eF I.knows O;have:(execOp a.eval (Oper.mk (some i) (.call {callee:=.value (.func f),args:=xs.toArray,argTypes:=at_}) ty pos af g)).run P w=.ok (.value u) (w.setCell ⟨b,j,none⟩ v):=by
  simp[execOp,resolve,Deferred.ofValue,Act.eval,invoke,h1,Y w (T w hw) (hw.ob hh.sel).1]
 show(Oper.mk (some i) (.call {callee:=.value (.func f),args:=xs.toArray,argTypes:=at_}) ty pos af g).wp P a w K Q;unfold Oper.wp;rw[this];exact h _ _ (I.put i (Nat.le_of_ble_eq_true hi) u)<|hw.store hh.sel
theorem kQ {x:Operand} (hc:ev ts c=some (.bool b)) (I:ev ts x=some (gv (b==true) (.bool d))) (O:ev ts y=some (.bool false)):Ev P ts (.pick c x y) (.bool (b&&d)) Any:=by
 have:=aS (P:=P) hc I O;cases b<;>exact this
theorem Eu {x:Operand} (hc:ev ts c=some (.bool b)) (I:ev ts x=some (.bool true)) (O:ev ts y=some (gv (b==false) (.bool d))):Ev P ts (.pick c x y) (.bool (b||d)) Any:=by
 have:=aS (P:=P) hc I O;cases b<;>exact this
end
end
end Go.SL

namespace Go.Y
open Go.Proofs Go.RowKit Go.Deep
def bx (l:List Int):List Value:=l.map (Value.int .i64)
def aP (n:FK.Node) (v:Value):List Value:=[.int .i64 n.Lz,.int .i64 n.close,.int .i64 n.beat,.int .i64 n.base,.int .i64 n.cap,.int .i64 n.LA,v]
def bU:List FK.Node->List Value->List Value
 | n::l,v::vs=>aP n v++bU l vs
 | _,_=>[]
def JZ (w:World) (base:Nat) (v:Value) (l:List Int):Prop:=w.ownsRow base 3 1 v l.length (bx l)
structure OwnNodes (w:World) (base:Nat) (v:Value) (l:List FK.Node) (vs:List Value):Prop where
 len:vs.length=l.length
 row:w.ownsRow base 58 7 v l.length (bU l vs)
 ints:∀(i:Nat) (n:FK.Node) (u:Value),l[i]?=some n->vs[i]?=some u->JZ w base u n.after
section
variable {l:List FK.Node} {vs:List Value} {w:World} {base:Nat}
theorem lc:∀(l:List FK.Node) (vs:List Value) (n:FK.Node) (v:Value),vs.length=l.length->bU (l++[n]) (vs++[v])=bU l vs++aP n v
 | [],[],n,v,_=>by simp[bU]
 | [],_::_,_,_,h=>by simp at h
 | _::_,[],_,_,h=>by simp at h
 | m::l,u::vs,n,v,h=>by simp only[List.cons_append,bU,lc l vs n v (by simpa using h),List.append_assoc]
theorem jD:∀(l:List FK.Node) (vs:List Value) (i j:Nat) (n:FK.Node) (v:Value),vs.length=l.length->l[i]?=some n->vs[i]?=some v->j<7->(bU l vs)[i*7+j]?=(aP n v)[j]?
 | [],_,i,_,_,_,_,h,_,_=>by simp at h
 | _::_,[],i,_,_,_,h,_,_,_=>by simp at h
 | m::l,u::vs,0,j,n,v,h,h1,h2,hj=>by
  simp at h1 h2;subst h1;subst h2;simp only[bU,Nat.zero_mul,Nat.zero_add];rw[List.getElem?_append_left (by simp[aP];omega)]
 | m::l,u::vs,i+1,j,n,v,h,h1,h2,hj=>by
  simp only[List.getElem?_cons_succ] at h1 h2;simp only[bU];rw[List.getElem?_append_right (by simp[aP];omega)];have:(i+1)*7+j-(aP m u).length=i*7+j:=by simp[aP];omega
  rw[this];exact jD l vs i j n v (by simpa using h) h1 h2 hj
theorem jf:(Tryz.prog.info? 3).map (λi=>(i.zero,i.size,i.bytes))=some (some (.int .i64 0),1,8):=by kernel_rfl
theorem sr:(Tryz.prog.info? 58).map (λi=>(i.zero,i.size,i.bytes))=some (some (.agg #[.int .i64 0,.int .i64 0,.int .i64 0,.int .i64 0,.int .i64 0,.int .i64 0,.slice none 0 0]),7,72):=by kernel_rfl
def pf (l:List FK.Node):Prop:=l.length*72<=140737488355328/\∀n∈l,n.after.length*8<=140737488355328
theorem OwnNodes.same {w':World} {v:Value} (h:OwnNodes w base v l vs) (O:∀k,base<=k->k<w.heap.size->w'.heap[k]?=w.heap[k]?):OwnNodes w' base v l vs:=
 ⟨h.len,xF h.row λk E=>O k (pC h.row E).1 (pC h.row E).2,λi n u I K=>xF (h.ints i n u I K) λk E=>O k (pC (h.ints i n u I K) E).1 (pC (h.ints i n u I K) E).2⟩
theorem OwnNodes.nodesAt {A:Option Addr} {c:Nat} (h:OwnNodes w base (.slice A l.length c) l vs)
 (hr:∀n∈l,(i64 n.Lz/\i64 n.close/\i64 n.beat/\i64 n.base/\i64 n.cap/\i64 n.LA)/\∀x∈n.after,i64 x):NodesAt w w.heap.size A c l:=by
 have K:=h.row;rcases K.2 with⟨O,h0⟩|⟨g,cap,f7,O,hb,hg,h1,h2,_⟩
 · injection O with _ _ hc
   subst hc;exact⟨ai,ai,λhl=>by omega⟩
 · injection O with hA _ hc
   subst hA;subst hc;refine⟨h1,by unfold maxLen at h2;omega,λhl=>⟨g,0,rfl,(pC K rfl).2,λi n Y=>?_⟩⟩;obtain⟨hi,_⟩:=gfGet.1 Y;have hu:∃u,vs[i]?=some u:=⟨vs[i]'(by rw[h.len];exact hi),by simp⟩;obtain⟨u,hu⟩:=hu;have I:=h.ints i n u Y hu;have E:∀j x,j<7->(aP n u)[j]?=some x->w.cell? ⟨g,0+i*7+j,none⟩=some x:=λj x hj hx=>by
    have:=K.cells (g:=g) rfl (i*7+j) x (by rw[jD l vs i j n u h.len Y hu hj];exact hx);have e:(⟨g,0,none⟩:Addr).add (i*7+j)=⟨g,i*7+j,none⟩:=by unfold Addr.add;split<;>simp_all
    rw[e] at this;rw[Nat.zero_add];exact this
   obtain⟨A6,c6,rfl,d9,h6,d6⟩:=xG I;have T:=hr n (du Y);refine⟨E 0 _ ai rfl,E 1 _ ai rfl,E 2 _ ai rfl,E 3 _ ai rfl,E 4 _ ai rfl,E 5 _ ai rfl,⟨A6,c6,E 6 _ ai rfl,T.2,h6,by unfold maxLen at d6;omega,λhl=>?_⟩,T.1⟩;rcases I.2 with⟨O,h0⟩|⟨g6,d7,d8,O,_⟩
   · omega
   · injection O with hA _ _
     subst hA;refine⟨g6,0,rfl,(pC I rfl).2,λj x hx=>?_⟩;have:=I.cells (g:=g6) rfl j (.int .i64 x) (by simp[bx,hx]);have e:(⟨g6,0,none⟩:Addr).add j=⟨g6,j,none⟩:=by unfold Addr.add;split<;>simp_all
     rw[e] at this;rw[Nat.zero_add];exact this
end
end Go.Y

namespace Go.SL
open Go.RowKit
section
variable {P:Program} {E:Env} {n:Nat} {D:List Deferred} {ts:List (Nat×Value)} {l:List HP}
section
variable {r:List HP} {e:TypeId} {K:Act->World->Prop}
theorem jQ {size m:Nat} {v:Value} {xs:List Value} (s:Sel (row e size v m xs) l r)
 (h0:v=.slice none 0 0->m=0->xs=[]->At E n D ts r K)
 (h1:∀g cap I,v=.slice (some ⟨g,0,none⟩) m cap->xs.length=m*size->m<=cap->cap<=maxLen->I.size=cap*size->I.toList.take (m*size)=xs->At E n D ts (blk g e I::r) K):At E n D ts l K:=λa w f hw=>by
 have h:=hw.sel s;obtain⟨F1,F2,d6,T,hd,⟨⟨O,Y⟩,hF⟩,hl⟩:=h.star;rcases Y with⟨rfl,rfl⟩|⟨g,cap,I,rfl,_,hg,hm,hc,hs,ht⟩
 · exact h0 Z Z (List.eq_nil_of_length_eq_zero (by simpa using O)) a w f ⟨hw.is,hl.mono T⟩
 · exact h1 g cap I Z O hm hc hs ht a w f ⟨hw.is,F1,F2,d6,T,hd,⟨hF g Z,hg⟩,hl⟩
theorem aI {size m:Nat} {v:Value} {xs:List Value} (s:Sel (row e size v m xs) l r)
 (h:∀A c,v=.slice A m c->(A=none->m=0/\c=0)->(∀Y,A=some Y->∃g,Y=⟨g,0,none⟩)->m<=c->c<=maxLen->xs.length=m*size->At E n D ts l K):At E n D ts l K:=λa w f hw=>by
 obtain⟨I,T⟩:=hw.row s;rcases T with⟨rfl,rfl⟩|⟨g,cap,d6,rfl,_,hg,hm,hc,hs,ht⟩
 · exact h none 0 rfl (λ_=>⟨rfl,rfl⟩) (λ_ O=>by cases O) (cm _) (Nat.zero_le _) I a w f hw
 · exact h _ cap rfl (λO=>by cases O) (λY O=>by injection O with O;exact⟨g,O.symm⟩) hm hc I a w f hw
theorem dI {size m g cap:Nat} {I:Array Value} {xs:List Value} (T:m<=cap) (hc:cap<=maxLen) (Y:I.size=cap*size) (ht:I.toList.take (m*size)=xs) :
 Ent (blk g e I::r) (row e size (.slice (some ⟨g,0,none⟩) m cap) m xs::r):=λw _ ⟨F1,F2,h1,h2,hd,hp,hl⟩=>
 ⟨F1,F2,h1,h2,hd,⟨⟨by rw[<-ht];simp[Y];rw[Nat.min_eq_left T],.inr ⟨g,cap,I,rfl,Nat.zero_le _,hp.2,T,hc,Y,ht⟩⟩,λk O=>by injection O with O;subst O;exact hp.1⟩,hl⟩
theorem mO {size m g o c:Nat} {xs vs:List Value} (s:Sel (row e size (.slice (some ⟨g,0,none⟩) m c) m xs) l r) (h:∀j u,vs[j]?=some u->xs[o+j]?=some u):∀w,Holds E w l->jb g o vs w:=λw hw j v I=>by
 have:=(hw.row s).cells (g:=g) rfl (o+j) v (h j v I)
 rwa [add_plain,Nat.zero_add] at this
theorem fg {size m g o c:Nat} {xs:List Value} {u:Value} (s:Sel (row e size (.slice (some ⟨g,0,none⟩) m c) m xs) l r) (h:xs[o]?=some u):∀w,Holds E w l->cR ⟨g,o,none⟩ u w:=λw hw=>by
 have:=(hw.row s).cells (g:=g) rfl o u h
 rwa [add_plain,Nat.zero_add] at this
end
end
theorem bl {E:Env} {n:Nat} {D:List Deferred} {ts:List (Nat×Value)} {m l:List HP} {K:Act->World->Prop} (h:At E n D ts (m++l) K):At E n D ts (HP.all m::l) K:=λa w f hw=>h a w f (hw.ent Ent.unall)
end Go.SL
namespace Go.Y
open Go.Proofs Go.RowKit Go.SL
abbrev aU (v:Value) (l:List Int):HP:=row 3 1 v l.length (bx l)
section
variable {ns:List FK.Node} {r:List HP}
def ck (vs:List Value) (l:List FK.Node):List HP:=(vs.zip l).map λp=>aU p.1 p.2.after
def nodesOwn (v:Value) (l:List FK.Node):HP:=HP.ex λvs:List Value=>HP.all (HP.pure (vs.length=l.length)::row 58 7 v l.length (bU l vs)::ck vs l)
theorem Star.mem {w:World} {p:HP}:∀{l:List HP} {F:Nat->Prop},Star w l F->p∈l->p.sat w F
 | [],_,_,h=>by cases h
 | q::l,F,⟨F1,F2,h1,h2,hd,hp,hl⟩,h=>by
  rcases List.mem_cons.1 h with rfl|h
  · exact p.loc h1 (λ_ _=>rfl) hp
  · exact p.loc h2 (λ_ _=>rfl)<|Star.mem hl h
theorem nodesOwn.own {E:Env} {w:World} {v:Value} {l:List HP} (s:Sel (nodesOwn v ns) l r) (hw:Holds E w l):∃vs,OwnNodes w 0 v ns vs:=by
 obtain⟨F1,F2,h1,h2,hd,⟨vs,hp⟩,hl⟩:=(hw.sel s).star;obtain⟨_,G2,_,_,_,O,_,G4,_,_,_,T,I⟩:=hp;refine⟨vs,O,T.1,λi nd u hi Y=>?_⟩;have hz:(vs.zip ns)[i]?=some (u,nd):=by simp[List.getElem?_zip_eq_some,hi,Y]
 have hm:aU u nd.after∈ck vs ns:=List.mem_map.2 ⟨(u,nd),du hz,rfl⟩;exact(Star.mem I hm).1
theorem nodesOwn.at {E:Env} {A:Option Addr} {c:Nat} {l:List HP} (s:Sel (nodesOwn (.slice A ns.length c) ns) l r) (I:∀n∈ns,(i64 n.Lz/\i64 n.close/\i64 n.beat/\i64 n.base/\i64 n.cap/\i64 n.LA)/\∀x∈n.after,i64 x) :
 ∀w,Holds E w l->NodesAt w w.heap.size A c ns:=λw hw=>by
 obtain⟨vs,h⟩:=nodesOwn.own s hw;exact h.nodesAt I
theorem nodesOwn.ent {v:Value} {vs:List Value} (h:vs.length=ns.length):Ent (row 58 7 v ns.length (bU ns vs)::(ck vs ns++r)) (nodesOwn v ns::r):=by
 have e1:Ent (row 58 7 v ns.length (bU ns vs)::(ck vs ns++r)) ((HP.pure (vs.length=ns.length)::row 58 7 v ns.length (bU ns vs)::ck vs ns)++r):=Ent.pure h;exact(e1.trans Ent.all).trans (Ent.ex (f:=λvs:List Value=>HP.all (HP.pure (vs.length=ns.length)::row 58 7 v ns.length (bU ns vs)::ck vs ns)) vs)
theorem iL {E:Env} {n:Nat} {D:List Deferred} {ts:List (Nat×Value)} {l:List HP} {K:Act->World->Prop} {v:Value} (s:Sel (nodesOwn v ns) l r)
 (h:∀vs:List Value,vs.length=ns.length->At E n D ts (row 58 7 v ns.length (bU ns vs)::(ck vs ns++r)) K):At E n D ts l K:=λa w f hw=>by
 obtain⟨F1,F2,T,Y,hd,⟨vs,O⟩,hl⟩:=(hw.sel s).star;obtain⟨F3,F4,h3,h4,d6,I,O⟩:=O;refine h vs I a w f ⟨hw.is,?_⟩;exact Star.join (l:=row 58 7 v ns.length (bU ns vs)::ck vs ns) (F1:=F1) (F2:=F2) T Y hd (Star.mono h4 O) hl
end
end Go.Y

namespace FK
def zQ (b:List UInt8) (p:Nat):Nat->Nat->Nat->Except Nat (Nat×Nat)
 | 0,_,_=>.error p
 | k+1,i,n=>match b[p+i]? with
  | none=>.error p
  | some c=>if c.toNat<128 then(if c.toNat=0/\0<i then .error p else .ok (n+c.toNat*128 ^ i,p+i+1)) else zQ b p k (i+1) (n+c.toNat%128*128 ^ i)
theorem rd_go (b:List UInt8) (p:Nat):rd b p=zQ b p 3 0 0:=by
 unfold rd;simp only[zQ,Nat.add_zero];cases h0:b[p]? with
 | none=>rfl
 | some c=>
  simp only
  by_cases hc:c.toNat<128
  · simp[hc]
  · simp only[hc,if_false,Nat.zero_add]
    cases h1:b[p+1]? with
    | none=>rfl
    | some d=>
     simp only
     by_cases hd:d.toNat<128
     · simp only[hd,if_true]
       by_cases E:d.toNat=0
       · simp[E]
       · simp[E]
     · simp only[hd,if_false]
       cases h2:b[p+2]? with
       | none=>rfl
       | some e=>
        simp only
        by_cases I:e.toNat<128
        · simp only[I,if_true]
          by_cases E:e.toNat=0
          · simp[E]
          · simp[E]
        · simp only[I,if_false]
theorem xl {b:List UInt8} {p n q:Nat} (h:rd b p=.ok (n,q)):n<2097152/\p<q/\q<=b.length:=by
 unfold rd at h
 split at h
 · cases h
 · rename_i c hc
   have O:=(gfGet.1 hc).1
   split at h
   · injection h with h;injection h with E I;omega
   · split at h
     · cases h
     · rename_i d hd
       have T:=(gfGet.1 hd).1
       split at h
       · split at h
         · cases h
         · injection h with h;injection h with E I;omega
       · split at h
         · cases h
         · rename_i e K
           have Y:=(gfGet.1 K).1
           split at h
           · split at h
             · cases h
             · injection h with h;injection h with E I;omega
           · cases h
def qg (l:List Int) (after:List Int):Node:=⟨l.getD 0 0,l.getD 1 0,l.getD 2 0,l.getD 3 0,l.getD 4 0,l.getD 5 0,after⟩
def j3 (b:List UInt8):Nat->List Int->Rd Node
 | 0,l,p=>andThen (gu b (gT b) p) λafter p=>.ok (qg l after,p)
 | k+1,l,p=>andThen (gT b p) λx p=>j3 b k (l++[x]) p
theorem yK (b:List UInt8) (p:Nat):jd b p=j3 b 6 [] p:=rfl
end FK
namespace Go
theorem GJ (i n c:Nat) (E:n<128 ^ i) (hi:i<=2) (hc:c<128):bits BinOp.or IntKind.i64 (n:Int) ((c*128 ^ i:Nat):Int)=((n+c*128 ^ i:Nat):Int):=by
 have K:128 ^ i=2 ^ (7*i):=by rw[Nat.pow_mul]
 have O:c*128 ^ i+n<2 ^ 63:=by
  have:i=0\/i=1\/i=2:=ai;rcases this with rfl|rfl|rfl<;>simp at E ⊢<;>omega
 have hw:∀n:Int,0<=n->n<2 ^ 63->IntKind.i64.wrap n=n:=λn T I=>by
  have h3:(2:Int) ^ 63=9223372036854775808:=by decide
  exact IntWalk.i64_in n ai
 have:=(bits_nat .i64 63 di hw n (c*128 ^ i) ai ai).2;rw[this,K];have I:=Nat.two_pow_add_eq_or_of_lt (i:=7*i) (b:=n) (by rw[<-K];exact E) c;rw[Nat.or_comm,Nat.mul_comm c,<-I,Nat.add_comm]
theorem C5 (c:Nat) (hc:c<256):bits BinOp.and IntKind.u8 (c:Int) 127=((c%128:Nat):Int):=by
 have:=u8_and_nat c 127 ai ai;rw[show((127:Int))=((127:Nat):Int) from rfl,this];have key:∀x:Fin 256,x.val&&&127=x.val%128:=by decide +kernel
 rw[key ⟨c,hc⟩]
end Go

namespace Go.Y
open Go.Proofs Go.RowKit Go.SL
variable {G:Env->Prop}
structure Reads (p:HP) (A:Option Addr) (bs:List UInt8):Prop where
 form:bs≠[]->∃b o,A=some ⟨b,o,none⟩
 cell:∀w F,p.sat w F->∀b o,A=some ⟨b,o,none⟩->∀(j:Nat) (x:UInt8),bs[j]?=some x->w.cell? ⟨b,o+j,none⟩=some (.int .u8 x.toNat)
theorem Reads.at {E:Env} {p:HP} {A:Option Addr} {bs:List UInt8} {l r:List HP} {b o j:Nat} {x:UInt8} (h:Reads p A bs) (s:Sel p l r) (I:A=some ⟨b,o,none⟩) (K:bs[j]?=some x):∀w,Holds E w l->cR ⟨b,o+j,none⟩ (.int .u8 x.toNat) w:=λw hw=>by
 obtain⟨F1,_,_,_,_,O,_⟩:=(hw.sel s).star;exact h.cell w F1 O b o I j x K
theorem shl7 (c i:Nat) (hc:c<128) (hi:i<=2):IntKind.i64.wrap ((c:Int)*2 ^ min (7*(i:Int)).toNat IntKind.i64.bits)=((c*128 ^ i:Nat):Int):=by
 have:i=0\/i=1\/i=2:=ai;rcases this with rfl|rfl|rfl
 · exact iI (x:=(c:Int)*1) ai
 · exact iI (x:=(c:Int)*128) ai
 · exact iI (x:=(c:Int)*16384) ai
theorem iF {p:HP} {A:Option Addr} {c:Nat} {bs:List UInt8} (hp:Reads p A bs) (hl:bs.length<=1099511627776) (r q:Nat) (hq:q<=bs.length) :
 DoesX Tryz.prog G 118 [.pointer (some ⟨r,0,none⟩)].toArray [blk r 216 #[.slice A bs.length c,.int .i64 q],p]
  (λu m=>∃n T:Nat,FK.rd bs q=.ok (n,T)/\u=.int .i64 n/\m=[blk r 216 #[.slice A bs.length c,.int .i64 T],p])
  (λx m=>∃e T:Nat,FK.rd bs q=.error e/\x=[{v:=.iface 213 (.int .i64 e),recovered:=false}]/\m=[blk r 216 #[.slice A bs.length c,.int .i64 T],p]):=by
 refine DoesX.body Tryz.func118 Z Z λE fr hE=>?_;refine az<|sS<|sB Z<|sS<|dS 1 Z Z<|aE Z Z Z Z<|sA Z<|sB Z ?_
 refine sQ<|cT (X:=Nat) (λ_=>[(3,.int .i64 q)]) (λT=>[blk r 216 #[.slice A bs.length c,.int .i64 T],p]++fr) (λ_=>FK.rd bs q=.error q) ?_ ?_
 ·
  refine bg Z<|sN<|aj ?_
  refine aL (X:=Nat×Nat) (λx=>[(11,.int .i64 x.1),(4,.int .i64 x.2),(3,.int .i64 q),(0,.pointer (some ⟨r,0,none⟩))]) (λx=>blk r 216 #[.slice A bs.length c,.int .i64 (q+x.1:Nat)]::p::fr) (λx=>x.1<=3/\x.2<128 ^ x.1/\FK.zQ bs q (3-x.1) x.1 x.2=FK.rd bs q/\q+x.1<=bs.length) (λx=>3-x.1) (0,0) ⟨ai,by simp,(FK.rd_go bs q).symm,hq⟩ cf aN ?_;rintro⟨i,n⟩ ⟨hi,hn,O,t6⟩;simp only at hi hn O t6 ⊢;refine sS<|sP (bB Z Z Z)<|sN<|sQ ?_
  refine aA Z (λf8=>?_) λf8=>?_
  ·
   have f7:i<=2:=ai;refine ah<|sT<|sQ<|aj<|bg Z<|sB Z<|sQ<|sQ<|sZ Z<|eI Z Z<|dv 1 Z Z Z<|bZ Z (aF Z) (ag Z)<|cJ Z Z<|dv 0 Z Z Z ?_
   refine iJ 7 Z (aF Z) (ag Z)<|bF Z (bh Z Z)<|bF Z (bC Z Z Z)<|dE<|sT ?_
   refine aA Z (λf9=>?_) λf9=>?_
   ·
    refine aK<|av<|eX Z<|av<|au<|ao ?_
    exact bd (q+i) (by rw[<-O,show 3-i=(2-i)+1 by omega,FK.zQ,List.getElem?_eq_none ai]) cf aN
   ·
    have Y:q+i<bs.length:=ai;obtain⟨b,o,hA⟩:=hp.form (by intro h;simp[h] at Y);obtain⟨x,hx⟩:∃x,bs[q+i]?=some x:=⟨bs[q+i],by simp[Y]⟩;have t7:=x.toNat_lt;have t8:128 ^ i<=16384:=Nat.pow_le_pow_right ai (by omega:i<=2);have I:=O;rw[show 3-i=(2-i)+1 by omega,FK.zQ,hx] at I;simp only at I;refine ah<|sT<|sQ<|sZ Z<|eI Z Z<|dv 0 Z Z Z<|bZ Z (aF Z) (ag Z)<|cJ Z Z<|dv 1 Z Z Z<|bZ Z (aF Z) (ag Z)<|bF Z (bp (z:=1) Z Z (by rw[hA];rfl) Z Y)<|bZ Z (aF Z) (hp.at bM hA (by simpa using hx))<|bF Z (aQ Z)<|dE<|sT<|bg Z ?_
    refine dA Z<|bX 1 Z<|aE Z Z Z Z<|sP (aT Z Z (iI ai))<|dA Z<|bX 1 Z ?_
    refine bK Z Z Z Z ii ?_;refine sN<|bg Z<|cG Z (zY Z Z (C5 _ t7))<|sP (bJ Z Z Z (iI ai))<|cG Z (l5 Z Z (iI ai))<|sP (mV Z Z ai (shl7 (x.toNat%128) i ai f7))<|sP (xp Z Z (GJ i n (x.toNat%128) hn f7 ai))<|sB Z<|bg Z<|sP (bB Z Z Z)<|aq ?_
    refine sT ?_;refine aA Z (λmt=>?_) λmt=>?_
    ·
     rw[if_pos ai] at I;have hm:x.toNat%128=x.toNat:=Nat.mod_eq_of_lt ai;refine sQ<|sS<|sM Z (fC Z (bC Z Z Z) (λ_ _=>trivial) λd6 d7=>(sM Z ?_))
     refine dW d6 (by rfl) ?_;refine fK Z Z (λ_=>rfl) (bn Z) (λ_ _=>trivial) ?_;refine dW d6 (by rfl) ?_;refine fK Z Z (λ_=>rfl) (eS Z Z Z) (λ_ _=>trivial) ?_;refine fC Z (kQ Z Z Z) (λ_ _=>trivial) λK d8=>sN ?_;refine dQ Z (λK=>?_) λK=>?_
     ·
      simp only[d8,d7,Bool.and_eq_true,decide_eq_true_eq] at K;refine aK<|av<|eX Z<|av<|au<|ao ?_
      exact bd (q+i+1) (by rw[<-I,if_pos ai]) cf aN
     ·
      rw[if_neg (by intro h;rw[d8,d7] at K;simp at K;omega)] at I;refine ah<|sT<|bg Z<|sB Z<|an<|aJ<|aH<|cu<|aJ<|uh ?_
      exact lf (.inl Z)<|aw _ Z Z ⟨n+x.toNat%128*128 ^ i,q+i+1,by rw[<-I,hm],rfl,rfl⟩ aN
    ·
     rw[if_neg ai] at I;refine ah<|am<|sT<|sG<|sP (aT Z Z (iI ai))<|sM Z<|aq ?_
     exact aC (i+1,n+x.toNat%128*128 ^ i) ⟨by simp only;omega,by rw[Nat.pow_succ];have:=Nat.mul_le_mul_right (128 ^ i) (show x.toNat%128<=127 by omega);simp only;omega,by show FK.zQ bs q (3-(i+1)) (i+1) _=_;rw[show 3-(i+1)=2-i by omega];exact I,by simp only;omega⟩ (by simp only;omega) cf aN
  ·
   obtain rfl:i=3:=ai;exact aK<|av<|au<|ao<|bd (q+3) O.symm cf aN
 intro T d9;exact sG<|cG Z (ed Z Z Z)<|sO<|Cs Z<|gB _ ⟨q,T,d9,rfl,rfl⟩ aN
end Go.Y

namespace Go.Y
open Go.Proofs Go.RowKit Go.SL
variable {G:Env->Prop}
section
variable {nd:FK.Node} {ns:List FK.Node}
def vI (k:Int):List UInt8:=FK.co k.toNat
def mH (d:Nat) (ns:List FK.Node) (k:Nat):List UInt8:=FK.co d++FK.co ns.length++(ns.take k).flatMap FK.fq
theorem BJ {d:Nat} {k:Nat} (h:ns[k]?=some nd):mH d ns (k+1)=mH d ns k++FK.fq nd:=by
 obtain⟨E,I⟩:=gfGet.1 h;unfold mH;rw[List.take_succ_eq_append_getElem E,I];simp
theorem EB {d:Nat} (hd:d<=1048576) (E:ns.length<=12) (I:∀n∈ns,FK.ef n/\FK.EdgesOk ns.length (-1) n.after) (k:Nat):(mH d ns k).length<=700:=by
 have h:=flat_len FK.fq 57 (ns.take k) λn K=>by
  have:=I n (List.mem_of_mem_take K);exact zy E this.1 this.2
 have O:=FK.dL (n:=d) ai;have T:=FK.dL (n:=ns.length) ai;have h3:(ns.take k).length<=12:=by simp;omega
 have Y:57*(ns.take k).length<=57*12:=Nat.mul_le_mul_left _ h3;unfold mH;simp only[List.length_append];omega
theorem Cm (b:Nat):∀j,j<6->(im b 0)[j]?=some (.pointer (some ⟨b,j,none⟩))
 | 0,_=>rfl|1,_=>rfl|2,_=>rfl|3,_=>rfl|4,_=>rfl|5,_=>rfl
 | j+6,h=>by omega
theorem pV {α:Type} (f:α->List UInt8) (l:List α) (j:Nat):((l.take j).flatMap f).length<=(l.flatMap f).length:=by
 have:l.flatMap f=(l.take j).flatMap f++(l.drop j).flatMap f:=by rw[<-List.flatMap_append,List.take_append_drop]
 rw[this];simp
theorem fB {α:Type} {l:List α} {j:Nat} {x:α} (h:l[j]?=some x):l.take (j+1)=l.take j++[x]:=by
 obtain⟨E,I⟩:=gfGet.1 h;rw[List.take_succ_eq_append_getElem E,I]
def ff (nd:FK.Node) (E:Option Addr) (I:Nat):List Value:=[.int .i64 nd.Lz,.int .i64 nd.close,.int .i64 nd.beat,.int .i64 nd.base,.int .i64 nd.cap,.int .i64 nd.LA,.slice E nd.after.length I]
theorem Je (nd:FK.Node) (E:Option Addr) (I:Nat):∀j,j<6->∃x,(oA nd)[j]?=some x/\(ff nd E I)[j]?=some (.int .i64 x)
 | 0,_=>⟨_,rfl,rfl⟩|1,_=>⟨_,rfl,rfl⟩|2,_=>⟨_,rfl,rfl⟩|3,_=>⟨_,rfl,rfl⟩|4,_=>⟨_,rfl,rfl⟩|5,_=>⟨_,rfl,rfl⟩
 | j+6,h=>by omega
theorem tp (K O T Y z4 z5 z6:Value) (nd:FK.Node) (E:Option Addr) (I:Nat):iO #[K,O,T,Y,z4,z5,z6] 0 (ff nd E I)=(ff nd E I).toArray:=by simp[iO,ff]
theorem NodeAt.row {w:World} {B b I:Nat} (h:NodeAt w B b I nd):∃K O,(∀j v,(ff nd K O)[j]?=some v->w.cell? ⟨b,I+j,none⟩=some v)/\IntsAt w B K O nd.after:=by
 obtain⟨T,Y,h2,h3,h4,h5,⟨A,c,h6,hi⟩,_⟩:=h;refine⟨A,c,λj v E=>?_,hi⟩
 match j,E with
 | 0,E=>injection E with E;subst E;exact T
 | 1,E=>injection E with E;subst E;exact Y
 | 2,E=>injection E with E;subst E;exact h2
 | 3,E=>injection E with E;subst E;exact h3
 | 4,E=>injection E with E;subst E;exact h4
 | 5,E=>injection E with E;subst E;exact h5
 | 6,E=>injection E with E;subst E;exact h6
 | j+7,E=>simp[ff] at E
theorem Jd (h:FK.ef nd):∀x∈oA nd,0<=x/\x<=1048576:=by
 obtain⟨I,K,⟨O,b2⟩,⟨T,Y⟩,⟨d1,d2⟩,⟨e1,e2⟩,f1,f2⟩:=h;intro x E;simp only[oA,List.mem_cons,List.not_mem_nil,or_false] at E;rcases E with rfl|rfl|rfl|rfl|rfl|rfl<;>omega
theorem qL (d:Nat) (A:Option Addr) (c:Nat) (ns:List FK.Node) (hd:d<=1048576) (hl:ns.length<=12) (ho:∀n∈ns,FK.ef n/\FK.EdgesOk ns.length (-1) n.after) :
 Gives Tryz.prog G 60 [.agg #[.int .i64 d,.slice A ns.length c]].toArray (λw=>NodesAt w w.heap.size A c ns) λv m=>m=[bP v (FK.bo ⟨d,ns⟩)]:=by
 have f8:=EB hd hl ho;refine Gives.body Tryz.func60 Z Z λE w0 hE h0 hN=>?_;refine sS<|sO (cL Z Z λb1=>(sB Z (sQ (sZ Z (dr 0 Z (bL 0 Z) (bZ Z (aF Z) (ag Z) (bF Z (bJ Z Z Z (wu64 ai)) (dr 4 Z (bL 1 Z) (bZ Z (aF Z) (ag Z) (bF Z (bh Z Z) (bF Z (bJ Z Z Z (wu64 ai)) ?_)))))))))))
 refine cK 3 Z<|cF Z (gk _ [] d ai cP) Ent.row0 ?_
 rintro v m rfl;refine ae ?_;obtain⟨d6,LB⟩:∃d6,d6=v:=⟨_,rfl⟩;refine dK [true,true] (aa (ag Z) (aa (ag Z) ab)) ?_;refine cK 8 Z<|cF Z (gk _ _ ns.length ai (by have:=FK.dL (n:=d) ai;simp;omega)) aN ?_
 rintro v m rfl;refine ae<|dK [true,true] (aa (ag Z) (aa (ag Z) ab))<|dr 9 Z (aQ Z)<|dE<|sT<|sQ<|sS<|bX 1 Z<|aE Z Z Z Z<|sP (bh Z Z)<|sM Z<|sN<|aj ?_
 refine aL (X:=Nat×Value) (λx=>[(22,.int .i64 x.1),(3,x.2),(20,.slice A ns.length c),(21,.int .i64 ns.length)]) (λx=>[bP x.2 (mH d ns x.1),old E w0]) (λx=>x.1<=ns.length) (λx=>ns.length-x.1) (0,_) ai cf (by simp only[mH,List.take_zero,List.flatMap_nil,List.append_nil,List.nil_append];exact Ent.cons Ent.drop) ?_;rintro⟨k,v3⟩ hk;simp only at hk ⊢;refine sS<|sP (bB Z Z Z)<|sN<|sQ ?_
 refine aA Z (λmt=>?_) λmt=>?_
 ·
  have Fd:k<ns.length:=ai;obtain⟨b,d7,rfl,LD,K⟩:=hN.cells ai;obtain⟨nd,hnd⟩:∃nd,ns[k]?=some nd:=⟨ns[k],by simp[Fd]⟩;obtain⟨A6,c6,d8,O⟩:=NodeAt.row (K k nd hnd);obtain⟨t8,d9⟩:=ho nd (du hnd);have f9:=BJ (d:=d) hnd;have LF:(mH d ns k).length+((oA nd).flatMap vI).length+(FK.co nd.after.length).length+(nd.after.flatMap vI).length<=700:=by
   have:=f8 (k+1);rw[f9,pk] at this;simp only[List.length_append] at this;have e:(λk:Int=>FK.co k.toNat)=vI:=rfl;rw[e] at this;omega
  have LG:nd.after.length<=12:=by
   rcases d9.length_le ai with h|h
   · omega
   · rw[h];simp
  refine ah<|sT<|sQ<|aj<|sS<|sP (bp (z:=7) Z Z Z Z ai)<|cE (bR (vs:=ff nd A6 c6) Z) (zV bM h0 d8)<|sO (cX (z:=.agg #[.int .i64 0,.int .i64 0,.int .i64 0,.int .i64 0,.int .i64 0,.int .i64 0,.slice none 0 0]) Z λb5=>?_)
  refine sO<|aZ Z (m:=7) (vs:=ff nd A6 c6) Z Z Z Z (by simp[ff,Value.oneCell']) (by simp[ff,Value.cells]) ?_
  simp only[Value.cells,tp];refine sN<|sQ<|sS ?_
  refine bV Z (qF b5) aN ?_;refine aB<|sM Z<|sN<|aj ?_
  refine aL (X:=Nat×Value) (λx=>[(27,.int .i64 x.1),(3,x.2),(22,.int .i64 k),(20,.slice (some ⟨b,d7,none⟩) ns.length c),(21,.int .i64 ns.length),(26,.agg (im b5 0)),(5,.pointer (some ⟨b5,0,none⟩))]) (λx=>[bP x.2 (mH d ns k++((oA nd).take x.1).flatMap vI),blk b5 _ (ff nd A6 c6).toArray,old E w0]) (λx=>x.1<=6) (λx=>6-x.1) (0,_) ai cf (by simp only[List.take_zero,List.flatMap_nil,List.append_nil];exact Ent.perm (List.Perm.swap _ _ _)) ?_;rintro⟨j,v3⟩ hj;simp only at hj ⊢;refine sS<|sP (bB Z Z Z)<|sN<|sQ ?_
  refine aA Z (λt6=>?_) λt6=>?_
  ·
   have T:j<6:=ai;obtain⟨x,f7,wf⟩:=Je nd A6 c6 j T;have LH:=Jd t8 x (du f7);obtain⟨m,rfl⟩:∃m:Nat,x=m:=⟨x.toNat,ai⟩;have Y:=fB f7;have In:=pV vI (oA nd) j;refine ah<|sT<|sQ<|aj<|sS<|sP (sx Z Z Z Z Z T (Cm b5 j T))<|sB Z<|sG<|sM Z<|sM Z<|dA Z<|aE Z Z Z (by simpa using wf)<|sP (bJ Z Z Z (wu64 ai)) ?_
   refine ch Z (gk _ _ m ai (by simp only[List.length_append];omega)) aN ?_;rintro v m rfl;refine ae<|sA Z<|aq<|am<|sT<|sG<|sP (aT Z Z (iI ai))<|sM Z<|aq ?_
   exact aC (j+1,_) (by simp;omega) (by simp;omega) cf (by rw[Y];simp only[List.flatMap_append,List.flatMap_cons,List.flatMap_nil,List.append_nil,List.append_assoc];exact aN)
  ·
   obtain rfl:j=6:=ai;refine aK<|av<|au<|ao<|sT<|bg Z<|bX 6 Z<|aE Z Z Z Z<|sP (bh Z Z)<|sP (bJ Z Z Z (wu64 ai)) ?_
   refine ch Z (gk _ _ nd.after.length ai (by have e:(oA nd).take 6=oA nd:=rfl;rw[e];simp only[List.length_append];omega)) aN ?_;rintro v m rfl;refine ae<|sB Z<|sS<|bX 6 Z<|aE Z Z Z Z<|sP (bh Z Z)<|sM Z<|sN<|aj ?_
   refine aL (X:=Nat×Value) (λx=>[(46,.int .i64 x.1),(3,x.2),(22,.int .i64 k),(20,.slice (some ⟨b,d7,none⟩) ns.length c),(21,.int .i64 ns.length),(44,.slice A6 nd.after.length c6),(45,.int .i64 nd.after.length)]) (λx=>[bP x.2 (mH d ns k++(oA nd).flatMap vI++FK.co nd.after.length++(nd.after.take x.1).flatMap vI),old E w0]) (λx=>x.1<=nd.after.length) (λx=>nd.after.length-x.1) (0,_) ai cf (by simp only[List.take_zero,List.flatMap_nil,List.append_nil];exact Ent.cons Ent.drop) ?_;rintro⟨j,v3⟩ hj;simp only at hj ⊢;refine sS<|sP (bB Z Z Z)<|sN<|sQ ?_
   refine aA Z (λt7=>?_) λt7=>?_
   ·
    have I:j<nd.after.length:=ai;obtain⟨b6,LC,rfl,LE,BT⟩:=O.cells ai;obtain⟨y,hy⟩:∃y,nd.after[j]?=some y:=⟨nd.after[j],by simp[I]⟩;have LJ:=d9.bounds y (du hy);obtain⟨m,rfl⟩:∃m:Nat,y=m:=⟨y.toNat,ai⟩;have Y:=fB hy;have In:=pV vI nd.after j;refine ah<|sT<|sQ<|aj<|sS<|sP (bp (z:=1) Z Z Z Z I)<|cE (aF Z) (C0 bM h0 (by simpa using BT j _ hy))<|sB Z<|sG<|sM Z<|cG Z (bJ Z Z Z (wu64 ai)) ?_
    refine ch Z (gk _ _ m ai (by simp only[List.length_append];omega)) aN ?_;rintro v m rfl;refine ae<|sA Z<|aq<|am<|sT<|sG<|sP (aT Z Z (iI ai))<|sM Z<|aq ?_
    exact aC (j+1,_) (by simp;omega) (by simp;omega) cf (by rw[Y];simp only[List.flatMap_append,List.flatMap_cons,List.flatMap_nil,List.append_nil,List.append_assoc];exact aN)
   ·
    obtain rfl:j=nd.after.length:=ai;refine aK<|av<|au<|ao<|am<|sT<|sG<|sP (aT Z Z (iI ai))<|sM Z<|aq ?_
    exact aC (k+1,_) (by simp;omega) (by simp;omega) cf (by rw[f9,pk];have e:(λk:Int=>FK.co k.toNat)=vI:=rfl;rw[e,List.take_length];simp only[List.append_assoc];exact aN)
 ·
  obtain rfl:k=ns.length:=ai;refine aK<|av<|au<|ao<|sT<|bg Z<|sB Z<|an ?_
  exact aw [bP v3 (FK.bo ⟨d,ns⟩)] rfl Z Z (by have e:mH d ns ns.length=FK.bo ⟨d,ns⟩:=(by simp[mH,FK.bo]);rw[e];exact aN)
end
end Go.Y

namespace Go.Y
open Go.Proofs Go.RowKit Go.SL
variable {G:Env->Prop}
abbrev B7 (e:Nat):List PanicEntry:=[{v:=.iface 213 (.int .i64 e),recovered:=false}]
section
variable {b bs:List UInt8} {e n q q':Nat} {l xs:List Int} {α:Type} {A:Option Addr}
theorem qw (v:Value) (xs:List Int) (x:Int):aU v (xs++[x])=row 3 1 v (xs.length+1) (bx xs++[.int .i64 x]):=by simp[aU,bx]
theorem uZ (r:FK.Rd α) (l:List α) (q:Nat):FK.oB r 0 l q=.ok (l,q):=rfl
theorem va {r:FK.Rd α} {l:List α} {x:α} (h:r q=.ok (x,q')):FK.oB r (n+1) l q=FK.oB r n (l++[x]) q':=by simp only[FK.oB,h]
theorem xN {r:FK.Rd α} {l:List α} (h:r q=.error e):FK.oB r (n+1) l q=.error e:=by simp only[FK.oB,h]
theorem uS {r:FK.Rd α} (h:FK.rd b q=.ok (n,q')):FK.gu b r q=FK.oB r n [] q':=by simp only[FK.gu,h]
theorem tz {r:FK.Rd α} (h:FK.rd b q=.error e):FK.gu b r q=.error e:=by simp only[FK.gu,h]
theorem oR (h:FK.rd b q=.ok (n,q')):FK.gT b q=.ok ((n:Int),q'):=by simp only[FK.gT,h]
theorem pM (h:FK.rd b q=.error e):FK.gT b q=.error e:=by simp only[FK.gT,h]
theorem GX {p:HP} {c:Nat} (hp:Reads p A bs) (hl:bs.length<=1099511627776) (r q:Nat) (hq:q<=bs.length) :
 DoesX Tryz.prog G 152 [.pointer (some ⟨r,0,none⟩),.func (.func 118) #[.pointer (some ⟨r,0,none⟩)] #[]].toArray [blk r 216 #[.slice A bs.length c,.int .i64 q],p]
  (λu m=>∃(xs:List Int) (q':Nat),FK.gu bs (FK.gT bs) q=.ok (xs,q')/\q'<=bs.length/\(∀x∈xs,0<=x/\x<2097152)/\m=[aU u xs,blk r 216 #[.slice A bs.length c,.int .i64 q'],p])
  (λx m=>∃e q':Nat,FK.gu bs (FK.gT bs) q=.error e/\x=B7 e/\m=[blk r 216 #[.slice A bs.length c,.int .i64 q'],p]):=by
 refine DoesX.body Tryz.func152 Z Z λE fr hE=>?_;refine az<|sS<|sB Z<|sS<|sB Z<|sQ<|bg Z ?_
 refine sO<|nq Z Z Z hE (iF hp hl r q hq) aN ?_ ?_
 ·
  rintro c m ⟨e,q',he,rfl,rfl⟩;exact az<|cI<|cI<|gB _ ⟨e,q',tz he,rfl,rfl⟩ aN
 rintro v m ⟨n,q1,hn,rfl,rfl⟩;refine az ?_;obtain⟨d9,f7,Y⟩:=FK.xl hn;refine sB Z<|aj ?_
 refine aL (X:=Nat×List Int×Value×Nat) (λx=>[(6,.int .i64 x.1),(5,x.2.2.1),(0,.pointer (some ⟨r,0,none⟩)),(1,.func (.func 118) #[.pointer (some ⟨r,0,none⟩)] #[])]) (λx=>aU x.2.2.1 x.2.1::blk r 216 #[.slice A bs.length c,.int .i64 x.2.2.2]::p::fr) (λx=>FK.oB (FK.gT bs) x.1 x.2.1 x.2.2.2=FK.gu bs (FK.gT bs) q/\x.2.2.2<=bs.length/\(∀y∈x.2.1,0<=y/\y<2097152)/\x.2.1.length+x.1<=2097152) (λx=>x.1) (n,[],.slice none 0 0,q1) ⟨(uS hn).symm,Y,by simp,by simp;omega⟩ cf Ent.row0 ?_;rintro⟨k,xs,v5,q2⟩ ⟨O,I,hb,K⟩;simp only at O I hb K ⊢;refine sQ<|bg Z<|sP (eS Z Z Z)<|sN ?_
 refine aA Z (λT=>?_) λT=>?_
 ·
  obtain⟨k,rfl⟩:∃j,k=j+1:=⟨k-1,ai⟩;refine ah<|sT<|sQ<|aj<|sG<|sM Z<|sM Z ?_
  refine sO<|xJ Z Z Z Z hE (iF (c:=c) hp hl r q2 I) (aY bM bM) ?_ ?_
  ·
   rintro c m ⟨e,q',he,rfl,rfl⟩;refine az<|eM<|cI<|jN<|eM<|cI ?_
   exact gB _ ⟨e,q',by rw[<-O,xN (pM he)],rfl,rfl⟩<|Ent.cons<|Ent.cons Ent.drop
  rintro v m ⟨y,q3,hy,rfl,rfl⟩;refine az ?_;obtain⟨f8,f9,d6⟩:=FK.xl hy;refine sO (eE (z:=.int .i64 0) Z Z Z Z Z Z λd7=>?_);refine eu rfl (cU rfl rfl jf rfl ai rfl rfl gC (news:=[.int .i64 y]) rfl (λh=>by cases h) (iu (λj u h=>by simpa using h)) fx (by unfold maxLen;omega) ai λv' d8=>?_);refine sA Z<|aq<|am<|sT<|sG<|cG Z (cH (r:=(k:Int)) Z Z eg)<|sA Z<|aq ?_
  exact aC (k,xs++[(y:Int)],v',q3) ⟨by rw[<-O,va (oR hy)],d6,λz hz=>(by rcases List.mem_append.1 hz with h|h;exact hb z h;simp at h;omega),by simp only[List.length_append,List.length_cons,List.length_nil];omega⟩ (by simp only;omega) cf (by rw[qw];exact Ent.cons Ent.drop)
 ·
  obtain rfl:k=0:=ai;refine aK<|av<|au<|ao<|sT<|bg Z<|sB Z<|an ?_
  exact lf (.inl Z)<|aw [_,_,_] rfl Z ⟨xs,q2,by rw[<-O,uZ],I,hb,rfl⟩ aN
def nr (xs:List Int):Array Value:=#[.int .i64 (xs.getD 0 0),.int .i64 (xs.getD 1 0),.int .i64 (xs.getD 2 0),.int .i64 (xs.getD 3 0),.int .i64 (xs.getD 4 0),.int .i64 (xs.getD 5 0),.slice none 0 0]
theorem yP:∀(xs:List Int) (x:Int),xs.length<6->(nr xs).setIfInBounds xs.length (.int .i64 x)=nr (xs++[x])
 | [],_,_=>rfl | [_],_,_=>rfl | [_,_],_,_=>rfl | [_,_,_],_,_=>rfl | [_,_,_,_],_,_=>rfl | [_,_,_,_,_],_,_=>rfl
 | _::_::_::_::_::_::_,_,h=>by simp at h;omega
theorem ud (xs:List Int) (l:List Int) (v:Value):(nr xs).setIfInBounds 6 v=(aP (FK.qg xs l) v).toArray:=rfl
theorem yB (nd:FK.Node) (v:Value):iO (aP nd v).toArray 0 (aP nd v)=(aP nd v).toArray:=by simp[iO,aP]
theorem DQ {k:Nat} (h:FK.rd b q=.ok (n,q')):FK.j3 b (k+1) l q=FK.j3 b k (l++[(n:Int)]) q':=by simp only[FK.j3,oR h,FK.andThen]
theorem AL {k:Nat} (h:FK.rd b q=.error e):FK.j3 b (k+1) l q=.error e:=by simp only[FK.j3,pM h,FK.andThen]
theorem yJ (h:FK.gu b (FK.gT b) q=.ok (xs,q')):FK.j3 b 0 l q=.ok (FK.qg l xs,q'):=by simp only[FK.j3,h,FK.andThen]
theorem AM (h:FK.gu b (FK.gT b) q=.error e):FK.j3 b 0 l q=.error e:=by simp only[FK.j3,h,FK.andThen]
def Small (nd:FK.Node):Prop:=(∀x∈oA nd,0<=x/\x<2097152)/\∀x∈nd.after,0<=x/\x<2097152
theorem Small.i64 {nd:FK.Node} (h:Small nd):(i64 nd.Lz/\i64 nd.close/\i64 nd.beat/\i64 nd.base/\i64 nd.cap/\i64 nd.LA)/\∀x∈nd.after,i64 x:=by
 have E:=h.1;simp only[oA,List.mem_cons,List.not_mem_nil,or_false,forall_eq_or_imp,forall_eq] at E;obtain⟨K,O,T,Y,a5,a6⟩:=E;unfold Go.Y.i64;exact⟨⟨ai,ai,ai,ai,ai,ai⟩,λx I=>by have:=h.2 x I;omega⟩
theorem Bv (h:∀x∈xs,0<=x/\x<2097152) (i:Nat):0<=xs.getD i 0/\xs.getD i 0<2097152:=by
 rw[List.getD_eq_getElem?_getD];cases hx:xs[i]? with
 | none=>simp
 | some x=>simpa using h x (du hx)
theorem yI {p:HP} {c:Nat} (hp:Reads p A bs) (hl:bs.length<=1099511627776) (r q:Nat) (hq:q<=bs.length) :
 DoesX Tryz.prog G 120 [.pointer (some ⟨r,0,none⟩)].toArray [blk r 216 #[.slice A bs.length c,.int .i64 q],p]
  (λu m=>∃(nd:FK.Node) (v:Value) (q':Nat),FK.jd bs q=.ok (nd,q')/\q'<=bs.length/\Small nd/\u=.agg (aP nd v).toArray/\m=[aU v nd.after,blk r 216 #[.slice A bs.length c,.int .i64 q'],p])
  (λx m=>∃e q':Nat,FK.jd bs q=.error e/\x=B7 e/\m=[blk r 216 #[.slice A bs.length c,.int .i64 q'],p]):=by
 refine DoesX.body Tryz.func120 Z Z λE fr hE=>?_;refine az<|sS<|sO (cX (z:=.agg #[.int .i64 0,.int .i64 0,.int .i64 0,.int .i64 0,.int .i64 0,.int .i64 0,.slice none 0 0]) Z λb2=>(sN (sQ (sS ?_))))
 refine bV Z (qF b2) aN ?_;refine aB<|sM Z<|sN<|aj ?_
 refine aL (X:=List Int×Nat) (λx=>[(6,.int .i64 (x.1.length:Nat)),(5,.agg (im b2 0)),(2,.pointer (some ⟨b2,0,none⟩)),(0,.pointer (some ⟨r,0,none⟩))]) (λx=>blk b2 58 (nr x.1)::blk r 216 #[.slice A bs.length c,.int .i64 x.2]::p::fr) (λx=>x.1.length<=6/\FK.j3 bs (6-x.1.length) x.1 x.2=FK.jd bs q/\x.2<=bs.length/\∀y∈x.1,0<=y/\y<2097152) (λx=>6-x.1.length) ([],q) ⟨by simp,(FK.yK bs q).symm,hq,by simp⟩ cf aN ?_;rintro⟨xs,q1⟩ ⟨d7,K,O,hb⟩;simp only at d7 K O hb ⊢;refine sS<|sP (bB Z Z Z)<|sN<|sQ ?_
 refine aA Z (λc7=>?_) λc7=>?_
 ·
  have T:xs.length<6:=ai;have I:6-xs.length=(5-xs.length)+1:=ai;refine ah<|sT<|sQ<|aj<|sS<|sP (sx Z Z Z Z Z T (Cm b2 xs.length T))<|sB Z<|sG<|sM Z<|sM Z ?_
  refine sO<|nq Z Z Z hE (iF (c:=c) hp hl r q1 O) (aY bM bM) ?_ ?_
  ·
   rintro c m ⟨e,q',he,rfl,rfl⟩;refine az<|eM<|cI<|jN<|eM<|cI ?_
   exact gB _ ⟨e,q',by rw[<-K,I,AL he],rfl,rfl⟩<|Ent.cons<|Ent.cons Ent.drop
  rintro v m ⟨y,q3,Y,rfl,rfl⟩;refine az ?_;obtain⟨f7,f8,d6⟩:=FK.xl Y;refine dA Z<|bK Z Z Z Z (by simp[nr];omega) ?_
  rw[yP xs y T];refine aq<|am<|sT<|sG<|sP (aT (r:=((xs++[(y:Int)]).length:Nat)) Z Z (by rw[iI ai];simp))<|sM Z<|aq ?_
  exact aC (xs++[(y:Int)],q3) ⟨by simp only[List.length_append,List.length_cons,List.length_nil];omega,by rw[<-K,I,DQ Y];simp only[List.length_append,List.length_cons,List.length_nil];rw[show 6-(xs.length+(0+1))=5-xs.length by omega],d6,λz hz=>(by rcases List.mem_append.1 hz with h|h;exact hb z h;simp at h;omega)⟩ (by simp only[List.length_append,List.length_cons,List.length_nil];omega) cf aN
 ·
  have h6:xs.length=6:=ai;rw[h6] at K;refine aK<|av<|au<|ao<|sT<|bg Z<|sM Z ?_
  refine sP (ew Z Z) ?_;refine sO<|nq Z Z Z hE (GX (c:=c) hp hl r q1 O) (aY bM bM) ?_ ?_
  ·
   rintro c m ⟨e,q',he,rfl,rfl⟩;refine az<|cI ?_
   exact gB _ ⟨e,q',by rw[<-K,AM he],rfl,rfl⟩<|Ent.cons<|Ent.cons Ent.drop
  rintro v m ⟨l,q3,Y,d8,d9,rfl⟩;refine cD<|aI .head ?_
  rintro A6 c6 rfl _ _ _ _ _;refine bX 6 Z<|bK Z Z Z Z (by simp[nr]) ?_
  rw[ud xs l];refine sN<|sS<|cE (bR (vs:=aP (FK.qg xs l) (.slice A6 l.length c6)) Z) (aR Z) ?_
  refine sO<|aZ Z (m:=7) (vs:=aP (FK.qg xs l) (.slice A6 l.length c6)) Z Z Z Z (by simp[aP,Value.oneCell']) (by simp[aP]) ?_
  rw[yB];refine sN<|an ?_
  exact lf (.inl rfl)<|kO [_,_,_] rfl (ce (vs:=aP (FK.qg xs l) (.slice A6 l.length c6)) rfl rfl rfl rfl (aR rfl)) ⟨FK.qg xs l,_,q3,by rw[<-K];exact yJ Y,d8,⟨λx K=>by simp only[oA,FK.qg,List.mem_cons,List.not_mem_nil,or_false] at K;rcases K with rfl|rfl|rfl|rfl|rfl|rfl<;>exact Bv hb _,d9⟩,rfl,rfl⟩ Ent.drop
end
end Go.Y

namespace Go.Y
open Go.Proofs Go.RowKit Go.SL
variable {G:Env->Prop}
section
variable {ns:List FK.Node} {vs:List Value} {nd:FK.Node} {fr:List HP} {v:Value}
theorem wy:∀(a:List HP) {b:List HP},Ent (a++b) b
 | [],_=>aN
 | _::a,_=>Ent.drop.trans (wy a)
theorem pY (nd:FK.Node) (v:Value):Instr.fill (λi=>some (i*7,7)) (Array.map (λx=>(Value.agg #[.int .i64 0,.int .i64 0,.int .i64 0,.int .i64 0,.int .i64 0,.int .i64 0,.slice none 0 0]).cells[x%(Value.agg #[.int .i64 0,.int .i64 0,.int .i64 0,.int .i64 0,.int .i64 0,.int .i64 0,.slice none 0 0]).cells.size]!) (Array.range (1*7)))
 ((List.map (λx=>x.1) [((0:Nat),Operand.tmp 15)]).zip [Value.agg (aP nd v).toArray])=some (aP nd v).toArray:=by
 have e1:Array.range (1*7)=#[0,1,2,3,4,5,6]:=rfl;rw[e1];simp[Instr.fill,aP,Value.cells]
theorem nj (h:vs.length=ns.length):ck (vs++[v]) (ns++[nd])=ck vs ns++[aU v nd.after]:=by
 unfold ck;rw[List.zip_append h];simp
theorem AW {v':Value} {u:Value} {x y z:HP} (h:vs.length=ns.length) :
 Ent (row 58 7 v' (ns.length+1) (bU ns vs++aP nd u)::x::aU u nd.after::y::z::(ck vs ns++fr)) (y::z::row 58 7 v' (ns++[nd]).length (bU (ns++[nd]) (vs++[u]))::(ck (vs++[u]) (ns++[nd])++fr)):=by
 rw[nj h,lc ns vs nd u h,show(ns++[nd]).length=ns.length+1 by simp];refine(Ent.cons Ent.drop).trans (Ent.perm ?_);have E:(([row 58 7 v' (ns.length+1) (bU ns vs++aP nd u),aU u nd.after]++[y,z])++(ck vs ns++fr)).Perm (([y,z]++[row 58 7 v' (ns.length+1) (bU ns vs++aP nd u),aU u nd.after])++(ck vs ns++fr)):=List.perm_append_comm.append_right _;refine E.trans<|List.Perm.cons _<|List.Perm.cons _<|List.Perm.cons _ ?_
 have I:(aU u nd.after::(ck vs ns++fr)).Perm (ck vs ns++aU u nd.after::fr):=List.perm_middle.symm;simpa using I
theorem yO {y z:HP} (h:vs.length=ns.length) :
 Ent (y::z::row 58 7 v ns.length (bU ns vs)::(ck vs ns++fr)) (nodesOwn v ns::y::z::fr):=by
 refine(Ent.perm ?_).trans (nodesOwn.ent h);have E:(([y,z]++(row 58 7 v ns.length (bU ns vs)::ck vs ns))++fr).Perm (((row 58 7 v ns.length (bU ns vs)::ck vs ns)++[y,z])++fr):=List.perm_append_comm.append_right _;simpa using E
theorem D8 {p:HP} {A:Option Addr} {c:Nat} {bs:List UInt8} (hp:Reads p A bs) (hl:bs.length<=1099511627776) (r q:Nat) (hq:q<=bs.length) :
 DoesX Tryz.prog G 119 [.pointer (some ⟨r,0,none⟩),.func (.func 120) #[.pointer (some ⟨r,0,none⟩)] #[]].toArray [blk r 216 #[.slice A bs.length c,.int .i64 q],p]
  (λu m=>∃(ns:List FK.Node) (I:Nat),FK.gu bs (FK.jd bs) q=.ok (ns,I)/\I<=bs.length/\(∀x∈ns,Small x)/\(∃A' c',u=.slice A' ns.length c')/\m=[nodesOwn u ns,blk r 216 #[.slice A bs.length c,.int .i64 I],p])
  (λx m=>∃e I:Nat,FK.gu bs (FK.jd bs) q=.error e/\x=B7 e/\m=[blk r 216 #[.slice A bs.length c,.int .i64 I],p]):=by
 refine DoesX.body Tryz.func119 Z Z λE fr hE=>?_;refine az<|sS<|sB Z<|sS<|sB Z<|sQ<|bg Z ?_
 refine sO<|nq Z Z Z hE (iF hp hl r q hq) aN ?_ ?_
 ·
  rintro c m ⟨e,I,he,rfl,rfl⟩;exact az<|cI<|cI<|gB _ ⟨e,I,tz he,rfl,rfl⟩ aN
 rintro v m ⟨n,q1,hn,rfl,rfl⟩;refine az ?_;obtain⟨f9,mt,d7⟩:=FK.xl hn;refine sB Z<|aj ?_
 refine aL (X:=Nat×List FK.Node×List Value×Value×Nat) (λx=>[(6,.int .i64 x.1),(5,x.2.2.2.1),(0,.pointer (some ⟨r,0,none⟩)),(1,.func (.func 120) #[.pointer (some ⟨r,0,none⟩)] #[])]) (λx=>blk r 216 #[.slice A bs.length c,.int .i64 x.2.2.2.2]::p::row 58 7 x.2.2.2.1 x.2.1.length (bU x.2.1 x.2.2.1)::(ck x.2.2.1 x.2.1++fr)) (λx=>FK.oB (FK.jd bs) x.1 x.2.1 x.2.2.2.2=FK.gu bs (FK.jd bs) q/\x.2.2.2.2<=bs.length/\(∀y∈x.2.1,Small y)/\x.2.1.length+x.1<=2097152/\x.2.2.1.length=x.2.1.length) (λx=>x.1) (n,[],[],.slice none 0 0,q1) ⟨(uS hn).symm,d7,by simp,by simp;omega,rfl⟩ cf (Ent.cons (Ent.cons Ent.row0)) ?_;rintro⟨k,ns,vs,v5,q2⟩ ⟨hm,O,hb,T,K⟩;simp only at hm O hb T K ⊢;refine sQ<|bg Z<|sP (eS Z Z Z)<|sN ?_
 refine aA Z (λd6=>?_) λd6=>?_
 ·
  obtain⟨k,rfl⟩:∃j,k=j+1:=⟨k-1,ai⟩;refine ah<|sT<|sQ<|aj<|sG<|sM Z<|sM Z ?_
  refine sO<|xJ Z Z Z Z hE (yI (c:=c) hp hl r q2 O) aN ?_ ?_
  ·
   rintro c m ⟨e,I,he,rfl,rfl⟩;refine az<|eM<|cI<|jN<|eM<|cI ?_
   exact gB [_,_] ⟨e,I,by rw[<-hm,xN he],rfl,rfl⟩<|Ent.cons<|Ent.cons<|Ent.drop.trans<|wy _
  rintro v m ⟨nd,u6,q3,hy,d8,d9,rfl,rfl⟩;refine cD<|aI .head ?_
  rintro Y c6 rfl _ _ _ _ _;refine sO (dB (m:=1) (z:=.agg #[.int .i64 0,.int .i64 0,.int .i64 0,.int .i64 0,.int .i64 0,.int .i64 0,.slice none 0 0]) (size:=7) (ps:=[(0,.tmp 15)]) (vs:=[.agg (aP nd (.slice Y nd.after.length c6)).toArray]) (cs:=(aP nd (.slice Y nd.after.length c6)).toArray) Z Z Z Z ai ai Z (pY _ _) λf7=>?_);refine eu rfl (cU rfl rfl sr rfl ai rfl rfl lp (news:=aP nd (.slice Y nd.after.length c6)) rfl (λh=>by cases h) (iu (λj u h=>by simpa using h)) (by simp[aP,Value.oneCell']) (by unfold maxLen;omega) ai λv' f8=>?_);refine sA Z<|aq<|am<|sT<|sG<|cG Z (cH (r:=(k:Int)) Z Z eg)<|sA Z<|aq ?_
  exact aC (k,ns++[nd],vs++[.slice Y nd.after.length c6],v',q3) ⟨by rw[<-hm,va hy],d8,λz hz=>(by rcases List.mem_append.1 hz with h|h;exact hb z h;simp at h;rw[h];exact d9),by simp only[List.length_append,List.length_cons,List.length_nil];omega,by simp[K]⟩ (by simp only;omega) cf<|AW K
 ·
  obtain rfl:k=0:=ai;refine aI dj ?_;rintro Y c6 rfl _ _ _ _ _;refine aK<|av<|au<|ao<|sT<|bg Z<|sB Z<|an ?_
  exact lf (.inl Z)<|aw [_,_,_] rfl Z ⟨ns,q2,by rw[<-hm,uZ],O,hb,⟨_,_,rfl⟩,rfl⟩<|yO K
end
end Go.Y

namespace Go.SL
open Go.RowKit
end Go.SL
namespace Go.Y
open Go.Proofs Go.RowKit Go.SL
variable {G:Env->Prop}
section
variable {ns:List FK.Node} {A:Option Addr} {vs:List Value}
theorem KF {E:Env} {l r:List HP} {I:World} {B:Nat} {c:Nat} {xs:List Int} (s:Sel (old E I) l r) (h0:E.is I) (h:IntsAt I B A c xs) (hB:B<=I.heap.size):∀w,Holds E w l->B8 A (bx xs) w:=
 xm s h0 λw hb ad O j u T=>by
  have hk:=h.keep (hb.to_same.mono hB);simp only[bx,List.getElem?_map,Option.map_eq_some_iff] at T;obtain⟨x,Y,rfl⟩:=T;obtain⟨b,d6,K,_,hc⟩:=hk.cells (by have:=(gfGet.1 Y).1;omega);rw[O] at K;injection K with K;subst K;rw[add_plain];exact hc j x Y
theorem NodesAt.i64s {w:World} {B:Nat} {c:Nat} (h:NodesAt w B A c ns):∀n∈ns,(i64 n.Lz/\i64 n.close/\i64 n.beat/\i64 n.base/\i64 n.cap/\i64 n.LA)/\∀x∈n.after,i64 x:=λn K=>by
 obtain⟨i,hi⟩:=List.getElem?_of_mem K;obtain⟨b,O,_,_,hc⟩:=h.cells (by have:=(gfGet.1 hi).1;omega);have E:=hc i n hi;obtain⟨_,_,_,I⟩:=E.c6;exact⟨E.rng,I.rng⟩
theorem EG {v':Value} {k:Nat} {u:Value} {nd:FK.Node} {a b x y z:HP} (h:vs.length=k) (E:ns[k]?=some nd) :
 Ent (row 58 7 v' (k+1) (bU (ns.take k) vs++aP nd u)::a::b::aU u nd.after::x::y::z::ck vs (ns.take k)) (row 58 7 v' (k+1) (bU (ns.take (k+1)) (vs++[u]))::x::y::z::ck (vs++[u]) (ns.take (k+1))):=by
 have I:vs.length=(ns.take k).length:=by have:=(gfGet.1 E).1;simp;omega
 rw[fB E,nj I,lc _ _ _ _ I];refine Ent.cons<|Ent.drop.trans<|Ent.drop.trans<|Ent.perm ?_
 have K:([aU u nd.after]++(x::y::z::ck vs (ns.take k))).Perm ((x::y::z::ck vs (ns.take k))++[aU u nd.after]):=List.perm_append_comm;simpa using K
theorem BM {v:Value} {z:HP} (h:vs.length=ns.length) :
 Ent (row 58 7 v ns.length (bU (ns.take ns.length) vs)::z::ck vs (ns.take ns.length)) ([nodesOwn v ns]++[z]):=by
 rw[List.take_length];refine(Ent.perm ?_).trans (nodesOwn.ent (r:=[z]) h);exact List.Perm.cons _<|List.perm_append_comm (l₁:=[z]) (l₂:=ck vs ns)
theorem w6 (dl:Int) (A:Option Addr) (c:Nat) (ns:List FK.Node) (Y:pf ns):Gives Tryz.prog G 32 [.agg #[.int .i64 dl,.slice A ns.length c]].toArray (λw=>NodesAt w w.heap.size A c ns)
 λv m=>∃A' c',v=.agg #[.int .i64 dl,.slice A' ns.length c']/\m=[nodesOwn (.slice A' ns.length c') ns]:=by
 refine Gives.body Tryz.func32 Z Z λE w0 hE h0 hN=>?_;refine sS<|sO (cL Z Z λb1=>(sO (cX (z:=.agg #[.int .i64 0,.slice none 0 0]) Z λb2=>(sN (sS (sB Z (sQ (sS (bX 1 Z (aE Z Z Z Z (sP (bh Z Z) (sM Z (sN ?_)))))))))))))
 refine aj ?_;refine aL (X:=Nat×List Value×Value) (λx=>[(9,.int .i64 x.1),(3,x.2.2),(7,.slice A ns.length c),(8,.int .i64 ns.length),(1,.pointer (some ⟨b1,0,none⟩)),(2,.pointer (some ⟨b2,0,none⟩))]) (λx=>row 58 7 x.2.2 x.1 (bU (ns.take x.1) x.2.1)::blk b2 25 #[.int .i64 0,.slice none 0 0]::blk b1 25 #[.int .i64 dl,.slice A ns.length c]::old E w0::ck x.2.1 (ns.take x.1)) (λx=>x.1<=ns.length/\x.2.1.length=x.1) (λx=>ns.length-x.1) (0,[],.slice none 0 0) ⟨ai,rfl⟩ cf Ent.row0 ?_;rintro⟨k,vs,v3⟩ ⟨hk,T⟩;simp only at hk T ⊢;refine sS<|sP (bB Z Z Z)<|sN<|sQ ?_
 refine aA Z (λd8=>?_) λd8=>?_
 ·
  have d9:k<ns.length:=ai;obtain⟨b,t6,rfl,t7,d6⟩:=hN.cells ai;obtain⟨nd,hnd⟩:∃nd,ns[k]?=some nd:=⟨ns[k],by simp[d9]⟩;obtain⟨A6,c6,d7,I⟩:=NodeAt.row (d6 k nd hnd);have t8:=Y.1;have wf:=Y.2 nd (du hnd);refine ah<|sT<|sQ<|aj<|sS<|sP (bp (z:=7) Z Z Z Z ai)<|cE (bR (vs:=ff nd A6 c6) Z) (zV gC h0 d7)<|sO (cX (z:=.agg #[.int .i64 0,.int .i64 0,.int .i64 0,.int .i64 0,.int .i64 0,.int .i64 0,.slice none 0 0]) Z λb5=>?_)
  refine sO<|aZ Z (m:=7) (vs:=ff nd A6 c6) Z Z Z Z (by simp[ff,Value.oneCell']) (by simp[ff,Value.cells]) ?_
  simp only[Value.cells,tp];refine sN<|sS<|bX 6 Z<|aE Z Z Z Z ?_
  refine al (Ent.row0 (e:=3) (size:=1)) ?_;refine eu rfl (cU (k:=0) (xs:=[]) rfl rfl jf rfl ai rfl rfl .head (news:=bx nd.after) (by simp[bx]) (λh=>by have:=I.cells;subst h;rcases Nat.eq_zero_or_pos nd.after.length with h|h;exact h;obtain⟨_,_,h,_⟩:=this h;cases h) (KF tY h0 I (cm _)) (by simp[bx,Value.oneCell']) (by unfold maxLen;omega) ai λf8 f7=>?_);simp only[Nat.zero_add,List.nil_append];refine aI .head ?_;rintro K O rfl _ _ _ _ _;refine bX 6 Z<|bK Z Z Z Z (by simp[ff])<|sN<|sG<|sM Z ?_
  refine cE (bR (vs:=aP nd (.slice K nd.after.length O)) Z) (aR Z) ?_;refine sO (dB (m:=1) (z:=.agg #[.int .i64 0,.int .i64 0,.int .i64 0,.int .i64 0,.int .i64 0,.int .i64 0,.slice none 0 0]) (size:=7) (ps:=[(0,.tmp 18)]) (vs:=[.agg (aP nd (.slice K nd.after.length O)).toArray]) (cs:=(aP nd (.slice K nd.after.length O)).toArray) Z Z Z Z ai ai Z (pY _ _) λf9=>?_);refine eu rfl (cU rfl rfl sr rfl ai rfl rfl gC (news:=aP nd (.slice K nd.after.length O)) rfl (λh=>by cases h) (iu (λj u h=>by simpa using h)) (by simp[aP,Value.oneCell']) (by unfold maxLen;omega) ai λv4 mt=>?_);refine sA Z<|aq<|am<|sT<|sG<|sP (aT Z Z (iI ai))<|sM Z<|aq ?_
  exact aC (k+1,vs++[.slice K nd.after.length O],v4) ⟨by simp only;omega,by simp[T]⟩ (by simp only;omega) cf<|EG T hnd
 ·
  obtain rfl:k=ns.length:=ai;refine aI .head ?_;rintro K O rfl _ _ _ _ _;refine aK<|av<|au<|ao<|sT<|bg Z<|bX 1 Z ?_
  refine bK Z Z Z Z ii ?_;refine sN<|sS<|cE (bR (vs:=[.int .i64 dl,.slice K ns.length O]) Z) (aR Z) ?_
  refine sO<|aZ Z (m:=2) (vs:=[.int .i64 dl,.slice K ns.length O]) Z Z Z Z fx cP ?_
  exact sN<|an<|kO [_] rfl (ce (vs:=[.int .i64 dl,.slice K ns.length O]) Z Z Z Z (aR Z)) ⟨K,O,rfl,rfl⟩<|Ent.drop.trans<|Ent.drop.trans<|BM T
end
end Go.Y

namespace Go.SL
open Go.RowKit
theorem Sel.left {p:HP} {l r:List HP} (s:Sel p l r) (m:List HP):Sel p (l++m) (r++m):=by
 induction s with
 | head=>exact .head
 | tail _ I=>exact .tail I
theorem tN {p:HP}:∀{l:List HP},p∈l->∃r,Sel p l r
 | [],h=>by cases h
 | q::l,h=>by
  rcases List.mem_cons.1 h with rfl|h
  · exact⟨l,.head⟩
  · obtain⟨r,s⟩:=tN h
    exact⟨q::r,.tail s⟩
section
variable {P:Program} {E:Env} {n:Nat} {D:List Deferred} {ts:List (Nat×Value)} {l:List HP} {ops:Array Oper} {Q:Exit->Act->World->Prop} {i:Nat} {ty:TypeId} {pos:String} {af:Array Edge} {g:Option (Nat×Bool)}
theorem GV (z:Value) (m:Nat) (I:z.cells=#[z]):madeCells z.cells (m*1)=(List.replicate m z).toArray:=by
 rw[I];unfold madeCells;apply Array.ext
 · simp
 · intro j K O
   simp[Nat.mod_one]
theorem vS {t e:TypeId} {x:Operand} {z:Value} {m bytes:Nat} {K:Act->World->Prop} (hi:Nat.blt i n=true) (ht:P.underlying t=some (.slice e)) (O:fV P e z 1 bytes) (hz:z.cells=#[z]) (hx:ev ts x=some (.int .i64 (m:Int))) (hb:bytes*m<=281474976710656) (hm:m<=9223372036854775807)
 (h:∀b,At E n D ((i,.slice (some ⟨b,0,none⟩) m m)::ts) (blk b e (List.replicate m z).toArray::l) K):At E n D ts l (λa w=>(Oper.mk (some i) (.makeSlice t x x) ty pos af g).wp P a w K Q):=λa w f hw=>by
 obtain⟨ti,T,e0,e1,e2⟩:=info_parts O;have Y:(ti.bytes:Int)*(m:Int)<=281474976710656:=by
  rw[e2];have:((bytes*m:Nat):Int)<=281474976710656:=ai
  rwa [Int.natCast_mul] at this
 have I:=run_make (P:=P) w t e ti z ht T e0 .i64 .i64 m m ai ai Y ai;rw[Int.toNat_natCast,e1,GV z m hz] at I;have hr:(execOp a.eval (Oper.mk (some i) (.makeSlice t x x) ty pos af g)).run P w=.ok (.value (.slice (some ⟨w.heap.size,0,none⟩) m m)) (w.alloc (.cells (List.replicate m z).toArray e)):=by
  simp only[execOp,f.eval hx,Sem.run_bind,I,Result.andThen_ok,Sem.run_pure]
 show(Oper.mk (some i) (.makeSlice t x x) ty pos af g).wp P a w K Q;unfold Oper.wp;rw[hr];exact h _ _ _ (f.put i (Nat.le_of_ble_eq_true hi) _)<|hw.alloc _
end
end Go.SL
namespace Go.Y
open Go.Proofs Go.RowKit Go.SL
theorem If {vs:List Value} {ns:List FK.Node} {i:Nat} {u:Value} {nd:FK.Node} (I:vs[i]?=some u) (K:ns[i]?=some nd):aU u nd.after∈ck vs ns:=
 List.mem_map.2 ⟨(u,nd),du (i:=i) (by simp[List.getElem?_zip_eq_some,K,I]),rfl⟩
theorem Ent.set:∀(l:List HP) (i:Nat) (x:HP),Ent (x::l) (l.set i x)
 | [],_,_=>Ent.drop
 | _::_,0,_=>Ent.cons Ent.drop
 | _::l,i+1,x=>(Ent.perm (List.Perm.swap _ _ _)).trans (Ent.cons (Ent.set l i x))
end Go.Y

namespace Go.SL
open Go.RowKit
theorem ik {α β:Type} (f:α->β):∀(l:List α) (j:Nat),(l.eraseIdx j).map f=(l.map f).eraseIdx j
 | [],_=>rfl
 | _::_,0=>rfl
 | _::l,j+1=>by simp[ik f l j]
theorem qD {k:IntKind} {x:Int}:∀{I:List MapEntry} {m:List (Int×Value)} {i:Nat},I.map (λe=>(e.key,e.val))=m.map (λp=>(Value.int k p.1,p.2))->
 Instr.findNow (.int k) (.int k x) I i=some ((m.findIdx? (·.1==x)).map λj=>(i+j,((m[j]?).map (·.2)).getD undef))
 | [],[],_,_=>rfl
 | [],_::_,_,h=>by cases h
 | _::_,[],_,h=>by cases h
 | e::I,p::m,i,h=>by
  simp only[List.map_cons,List.cons.injEq,Prod.mk.injEq] at h;obtain⟨⟨O,T⟩,h3⟩:=h;have Y:=qD (k:=k) (x:=x) (i:=i+1) h3;simp only[Instr.findNow,O,Instr.sameNow,if_true,List.findIdx?_cons]
  by_cases K:p.1=x
  · subst K
    simp[T]
  · have h4:(x==p.1)=false:=by simp;exact λh=>K h.symm
    have h5:(p.1==x)=false:=by simp[K]
    simp only[h4,h5,Bool.false_eq_true,if_false];rw[Y];cases m.findIdx? (·.1==x) with
    | none=>rfl
    | some j=>simp;omega
section
variable {P:Program} {E:Env} {n:Nat} {D:List Deferred} {ts:List (Nat×Value)} {l:List HP} {ops:Array Oper} {Q:Exit->Act->World->Prop} {i:Nat} {ty:TypeId} {pos:String} {af:Array Edge} {g:Option (Nat×Bool)}
theorem yC {t:TypeId} {k:IntKind} (K:P.underlying t=some (.int k)) {I:List MapEntry} {m:List (Int×Value)} (h:I.map (λe=>(e.key,e.val))=m.map (λp=>(Value.int k p.1,p.2))) (x:Int) (w:World) :
 (Instr.findKey t (.int k x) I).run P w=.ok ((m.findIdx? (·.1==x)).map λj=>(j,((m[j]?).map (·.2)).getD undef)) w:=by
 have:=qD (x:=x) (i:=0) h;simp only[Nat.zero_add] at this;exact MapKept.run_findKey K this
end
open Go.RowKit
section
variable {P:Program} {ts:List (Nat×Value)}
def mW (P:Program) (xs ys:Array Value):List Field->Option Bool
 | []=>some true
 | f::fs=>bif f.name != "_" then
  match P.underlying f.type,xs[f.offset]?,ys[f.offset]? with
  | some (.int _),some (.int k a),some (.int k' b)=>bif k==k' then(mW P xs ys fs).map ((a==b)&&·) else none
  | _,_,_=>none
  else none
theorem oh {d:Nat} {w:World} {xs ys:Array Value}:∀{fs:List Field} {r:Bool},mW P xs ys fs=some r->(Op.eqFields (d+1) xs ys fs).run P w=.ok r w
 | [],r,h=>by simp[mW] at h;subst h;simp[Op.eqFields]
 | f::fs,r,h=>by
  simp only[mW] at h;cases hn:f.name != "_" with
  | false=>rw[hn] at h;simp at h
  | true=>
   rw[hn,cond_true] at h;have I:f.name≠ "_":=by simpa using hn
   split at h
   · rename_i k0 k a O b T hx hy
     cases hk:k==O with
     | false=>rw[hk] at h;simp at h
     | true=>
      rw[hk,cond_true,Option.map_eq_some_iff] at h;obtain⟨r',E,e⟩:=h;have ih:=oh (d:=d) (w:=w) E;have K:k=O:=by simpa using hk
      subst K;have Y:∀(cs:Array Value) (v:Value),cs[f.offset]?=some v->(part f.type cs f.offset).run P w=.ok v w:=λcs v hv=>by
       simp[part,isAgg,run_underlying T,hv]
      have he:(Op.equalIn (d+1) f.type (.int k a) (.int k b)).run P w=.ok (a==b) w:=run_equalIn_int w d f.type k k0 a b T;simp only[Op.eqFields,if_pos I,Sem.run_bind,Y xs _ hx,Y ys _ hy,he,Result.andThen_ok];cases hab:a==b with
      | true=>rw[hab] at e;simp at e;subst e;simpa using ih
      | false=>rw[hab] at e;simp at e;subst e;simp
   · cases h
theorem w5 {t I:TypeId} {x y:Operand} {xs ys:Array Value} {b r:Bool} (K:P.underlying t=some (.struct (P.fieldsOf t))) (O:P.stoodInHeld t=false) (T:P.eqGuardType P.depth t=false) (Y:ev ts x=some (.agg xs)) (hy:ev ts y=some (.agg ys)) (h:mW P xs ys (P.fieldsOf t).toList=some b) (hr:(!b)=r) :
 Ev P ts (.binOp .neq t x y I) (.bool r) Any:=by
 intro ac w _ _ _ _ _ E _;subst hr;refine eT (E.eval Y) (E.eval hy) (run_eqGuard_agg w _ _ _ _ _ _ T) ?_;rw[run_neq_struct,run_equalIn_agg w 9999 t xs ys K O,oh h,Result.andThen_ok]
end
open Go.RowKit
structure KeyK (P:Program) (kt:TypeId) (K:Type) [BEq K] (enc:K->Value):Prop where
 check:∀(e:Bool) (k:K) (w:World),(Instr.checkKey e 10000 kt (enc k)).run P w=.ok () w
 find:∀(w:World) (es:List MapEntry) (m:List (K×Value)) (k:K),es.map (λe=>(e.key,e.val))=m.map (λp=>(enc p.1,p.2))->
  (Instr.findKey kt (enc k) es).run P w=.ok ((m.findIdx? (·.1==k)).map λj=>(j,((m[j]?).map (·.2)).getD undef)) w
 bits:∀k k':K,(k==k')=true->Instr.sameBits 10000 (enc k) (enc k')=true
 eq:∀k k':K,(k==k')=true->k=k'
section
variable {P:Program} {w:World}
theorem zn (m:List (Nat×Value)) (x:Nat):((m.map λp=>((p.1:Int),p.2)).findIdx? (·.1==(x:Int)))=m.findIdx? (·.1==x):=by
 induction m with
 | nil=>rfl
 | cons p m T=>
  simp only[List.map_cons,List.findIdx?_cons,T]
  by_cases h:p.1=x
  · simp[h]
  · have I:(p.1==x)=false:=by simp[h]
    have O:((p.1:Int)==(x:Int))=false:=by simp;omega
    rw[I,O]
theorem K6 {kt:TypeId} {k:IntKind} (I:P.underlying kt=some (.int k)):KeyK P kt Nat (λx=>.int k (x:Int)) where
 check:=λe x w=>MapKept.run_checkKey (k:=.int k x) I (by simp[MapKept.IsKey]) e 9999
 find:=λw O m x h=>by
  have T:O.map (λe=>(e.key,e.val))=(m.map λp=>((p.1:Int),p.2)).map (λp=>(Value.int k p.1,p.2)):=by rw[h];simp
  rw[yC I T x w,zn];cases m.findIdx? (·.1==x) with
  | none=>rfl
  | some j=>simp[Function.comp_def]
 bits:=λa b h=>by
  have:a=b:=by simpa using h
  subst this;simp[Instr.sameBits]
 eq:=λa b h=>by simpa using h
theorem qC {x:ByteArray}:∀{I:List MapEntry} {m:List (ByteArray×Value)} {i:Nat},I.map (λe=>(e.key,e.val))=m.map (λp=>(Value.string p.1,p.2))->
 Instr.findNow .string (.string x) I i=some ((m.findIdx? (·.1==x)).map λj=>(i+j,((m[j]?).map (·.2)).getD undef))
 | [],[],_,_=>rfl
 | [],_::_,_,h=>by cases h
 | _::_,[],_,h=>by cases h
 | e::I,p::m,i,h=>by
  simp only[List.map_cons,List.cons.injEq,Prod.mk.injEq] at h;obtain⟨⟨T,Y⟩,h3⟩:=h;have ih:=qC (x:=x) (i:=i+1) h3;simp only[Instr.findNow,T,Instr.sameNow,List.findIdx?_cons]
  by_cases O:p.1=x
  · subst O
    have e1:(p.1==p.1)=true:=(MapKept.bytes_beq _ _).2 rfl;rw[e1];simp[Y]
  · have h4:(x==p.1)=false:=by
     cases hb:x==p.1 with
     | false=>rfl
     | true=>exact absurd ((MapKept.bytes_beq _ _).1 hb).symm O
    have h5:(p.1==x)=false:=by
     cases hb:p.1==x with
     | false=>rfl
     | true=>exact absurd ((MapKept.bytes_beq _ _).1 hb) O
    simp only[h4,h5,Bool.false_eq_true,if_false];rw[ih];cases m.findIdx? (·.1==x) with
    | none=>rfl
    | some j=>simp;omega
theorem K4 {kt:TypeId} (I:P.underlying kt=some .string):KeyK P kt ByteArray (λx=>.string x) where
 check:=λe x w=>MapKept.run_checkKey (k:=.string x) I (by simp[MapKept.IsKey]) e 9999
 find:=λw O m x h=>by
  have:=qC (x:=x) (i:=0) h;simp only[Nat.zero_add] at this;exact MapKept.run_findKey I this
 bits:=λa b h=>by simpa[Instr.sameBits] using h
 eq:=λa b h=>(MapKept.bytes_beq _ _).1 h
def nH (P:Program) (cs:Array Value):List Field->Bool
 | []=>true
 | f::fs=>(match P.underlying f.type,cs[f.offset]? with
  | some (.int _),some (.int _ _)=>true
  | _,_=>false)&&nH P cs fs
theorem po {t:TypeId} {fs:Array Field} {cs:Array Value} (O:P.underlying t=some (.struct fs)) (h:nH P cs fs.toList=true) (e:Bool) (n:Nat) (w:World):(Instr.checkKey e (n+2) t (.agg cs)).run P w=.ok () w:=by
 rw[Instr.checkKey];simp only[Sem.run_bind,run_underlying O,Result.andThen_ok];rw[<-Array.forIn_toList]
 generalize fs.toList=l at h ⊢
 clear O
 induction l with
 | nil=>simp
 | cons f l ih=>
  simp only[nH,Bool.and_eq_true] at h;obtain⟨T,h2⟩:=h;have I:=ih h2
  split at T
  · rename_i k0 k a Y hx
    have hp:(part f.type cs f.offset).run P w=.ok (.int k a) w:=by simp[part,isAgg,run_underlying Y,hx]
    have hc:(Instr.checkKey e (n+1) f.type (.int k a)).run P w=.ok () w:=by
     rw[Instr.checkKey];simp[run_underlying Y]
    simp only[List.forIn_cons,Sem.run_bind,Sem.run_ite]
    split
    · simp only[hp,Result.andThen_ok,hc,Sem.run_pure]
      exact I
    · simp only[Sem.run_pure,Result.andThen_ok]
      exact I
  · cases T
theorem kc {t:TypeId} {K:Type} [BEq K] {enc:K->Value} (I:∀(w:World) (a b:K),(Op.equal t (enc a) (enc b)).run P w=.ok (a==b) w) {x:K} (T:∀a b:K,(a==b)=(b==a)):∀{O:List MapEntry} {m:List (K×Value)} {i:Nat} {w:World},O.map (λe=>(e.key,e.val))=m.map (λp=>(enc p.1,p.2))->
 (Instr.findAsking t (enc x) O i).run P w=.ok ((m.findIdx? (·.1==x)).map λj=>(i+j,((m[j]?).map (·.2)).getD undef)) w
 | [],[],_,_,_=>rfl
 | [],_::_,_,_,h=>by cases h
 | _::_,[],_,_,h=>by cases h
 | e::O,p::m,i,w,h=>by
  simp only[List.map_cons,List.cons.injEq,Prod.mk.injEq] at h;obtain⟨⟨Y,h2⟩,h3⟩:=h;have ih:=kc I (x:=x) T (i:=i+1) (w:=w) h3;simp only[Instr.findAsking,Y,Sem.run_bind,I,Result.andThen_ok,List.findIdx?_cons,T x p.1];cases hx:p.1==x with
  | true=>simp[h2]
  | false=>
   simp only[Bool.false_eq_true,if_false];rw[ih];cases m.findIdx? (·.1==x) with
   | none=>rfl
   | some j=>simp;omega
theorem K5 {kt:TypeId} {K:Type} [BEq K] {arr:K->Array Value} (O:P.underlying kt=some (.struct (P.fieldsOf kt))) (hp:P.stoodInHeld kt=false) (hf:∀a,nH P (arr a) (P.fieldsOf kt).toList=true)
 (he:∀a b,mW P (arr a) (arr b) (P.fieldsOf kt).toList=some (a==b)) (hs:∀a b:K,(a==b)=(b==a)) (hb:∀k k':K,(k==k')=true->k=k') (I:∀k:K,Instr.sameBits 10000 (.agg (arr k)) (.agg (arr k))=true):KeyK P kt K (λk=>.agg (arr k)) where
 check:=λe k w=>po O (hf k) e 9998 w
 find:=λw T m k h=>by
  have Y:∀(w:World) (a b:K),(Op.equal kt (.agg (arr a)) (.agg (arr b))).run P w=.ok (a==b) w:=λw a b=>by
   show(Op.equalIn 10000 kt (.agg (arr a)) (.agg (arr b))).run P w=_;rw[run_equalIn_agg w 9999 kt _ _ O hp,oh (he a b)]
  have:=kc (enc:=λk=>.agg (arr k)) Y (x:=k) hs (i:=0) (w:=w) h;simp only[Nat.zero_add] at this;unfold Instr.findKey;rw[Sem.run_bind,run_underlying O,Result.andThen_ok];cases T with
  | nil=>
   cases m with
   | nil=>rfl
   | cons _ _=>cases h
  | cons e T=>
   have hn:Instr.findNow (.struct (P.fieldsOf kt)) (.agg (arr k)) (e::T) 0=none:=by
    simp[Instr.findNow,Instr.sameNow]
   simp only[hn];exact this
 bits:=λa b h=>by rw[hb a b h];exact I b
 eq:=hb
end
def j7 {K:Type} (enc:K->Value) (b:Nat) (m:List (K×Value)) (w:World):Prop:=
 ∃O I,w.heap[b]?=some (.map O I)/\O.toList.map (λe=>(e.key,e.val))=m.map (λp=>(enc p.1,p.2))/\(∀x∈O.toList,x.born<I)/\(O.toList.map (·.born)).Nodup
def cA {K:Type} (enc:K->Value) (b:Nat) (m:List (K×Value)):HP where
 sat w F:=F b/\j7 enc b m w
 loc hFG hk h:=⟨hFG _ h.1,let⟨es,c,h1,h2⟩:=h.2;⟨es,c,(hk _ h.1).trans h1,h2⟩⟩
def er {K:Type} [BEq K] (m:List (K×Value)) (x:K):Option Value:=(m.find? (·.1==x)).map (·.2)
theorem ig {K:Type} [BEq K] (m:List (K×Value)) (x:K):((m.findIdx? (·.1==x)).map λj=>((m[j]?).map (·.2)).getD undef)=er m x:=by
 unfold er
 induction m with
 | nil=>rfl
 | cons p m I=>
  simp only[List.findIdx?_cons,List.find?_cons];cases hx:p.1==x with
  | true=>simp
  | false=>
   rw[<-I];cases m.findIdx? (·.1==x) with
   | none=>rfl
   | some j=>simp
section
variable {P:Program} {E:Env} {n:Nat} {D:List Deferred} {ts:List (Nat×Value)} {l:List HP} {ops:Array Oper} {Q:Exit->Act->World->Prop} {i:Nat} {ty:TypeId} {pos:String} {af:Array Edge} {g:Option (Nat×Bool)} {K:Type} {enc:K->Value}
theorem iN {b:Nat} {m:List (K×Value)} {r:List HP} (s:Sel (cA enc b m) l r):∀w,Holds E w l->j7 enc b m w:=λw hw=>by
 obtain⟨F1,_,_,_,_,I,_⟩:=(hw.sel s).star;exact I.2
theorem Holds.setVMap {b:Nat} {m m':List (K×Value)} {r:List HP} {w:World} {I:Array MapEntry} {c:Nat} (hw:Holds E w (cA enc b m::r)) (T:I.toList.map (λe=>(e.key,e.val))=m'.map λp=>(enc p.1,p.2)) (h1:∀x∈I.toList,x.born<c) (h2:(I.toList.map (·.born)).Nodup) :
 Holds E {w with heap:=w.heap.setIfInBounds b (.map I c)} (cA enc b m'::r):=by
 refine hw.turn Z Z Z cP λF1 Y hF=>⟨F1,λk O=>⟨.inl O,by simpa using(hF k O).1⟩,⟨Y.1,I,c,?_,T,h1,h2⟩,λk _ O=>?_⟩
 · have:=(hF b Y.1).1
   simp[this]
 · have:k≠b:=λh=>by subst h;exact O Y.1
   simp[Array.getElem?_setIfInBounds_ne (Ne.symm this)]
end
section
variable {P:Program} {E:Env} {n:Nat} {D:List Deferred} {ts:List (Nat×Value)} {l:List HP} {ops:Array Oper} {Q:Exit->Act->World->Prop} {i:Nat} {ty:TypeId} {pos:String} {af:Array Edge} {g:Option (Nat×Bool)} {K:Type} [BEq K] {enc:K->Value}
section
variable {y:Operand} {et kt t:TypeId} {Kk:Act->World->Prop} {d:Option Tmp} {r:List HP}
theorem x6 {x:Operand} {b:Nat} {m:List (K×Value)} {a:K} {z:Value} (Y:P.underlying t=some (.map kt et)) (O:KeyK P kt K enc) (hz:iM P et z) (hx:ev ts x=some (.map (some b))) (hy:ev ts y=some (enc a)) :
 Ev P ts (.lookup t x y true) (.tuple #[(er m a).getD z,.bool (er m a).isSome]) (j7 enc b m):=by
 intro ac w _ _ _ _ _ T ⟨es,c,hb,hm,_⟩;have h1:=O.find w es.toList m a hm;have I:=ig m a;have hg:=MapKept.run_getObj_map (P:=P) hb;simp only[execOp,T.eval hx,T.eval hy,Instr.lookup,Sem.run_bind,run_underlying Y,Result.andThen_ok,hg,O.check,h1,Sem.run_pure];cases hf:m.findIdx? (·.1==a) with
 | none=>
  rw[hf] at I;simp only[Option.map_none] at I;simp[<-I,iS hz]
 | some j=>
  rw[hf] at I;simp only[Option.map_some] at I;simp[<-I]
theorem lS {x:Operand} {b:Nat} {m:List (K×Value)} {a:K} {v:Value} (Y:P.underlying t=some (.map kt et)) (O:KeyK P kt K enc) (hx:ev ts x=some (.map (some b))) (hy:ev ts y=some (enc a)) (hv:er m a=some v) :
 Ev P ts (.lookup t x y true) (.tuple #[v,.bool true]) (j7 enc b m):=by
 intro ac w _ _ _ _ _ T ⟨es,c,hb,hm,_⟩;have h1:=O.find w es.toList m a hm;have I:=ig m a;rw[hv] at I;have hg:=MapKept.run_getObj_map (P:=P) hb;simp only[execOp,T.eval hx,T.eval hy,Instr.lookup,Sem.run_bind,run_underlying Y,Result.andThen_ok,hg,O.check,h1,Sem.run_pure];cases hf:m.findIdx? (·.1==a) with
 | none=>rw[hf] at I;simp at I
 | some j=>
  rw[hf] at I;simp only[Option.map_some,Option.some.injEq] at I;simp[I]
theorem nL {x:Operand} {b:Nat} {m:List (K×Value)} {a:K} {z:Value} (I:P.underlying t=some (.map kt et)) (O:KeyK P kt K enc) (T:iM P et z) (Y:ev ts x=some (.map (some b))) (hy:ev ts y=some (enc a)) (hv:er m a=none) :
 Ev P ts (.lookup t x y true) (.tuple #[z,.bool false]) (j7 enc b m):=by
 have:=x6 (m:=m) I O T Y hy;rw[hv] at this;exact this
theorem gO {x:Operand} {b:Nat} {m:List (K×Value)} {a:K} {v:Value} (Y:P.underlying t=some (.map kt et)) (O:KeyK P kt K enc) (hx:ev ts x=some (.map (some b))) (hy:ev ts y=some (enc a)) (hv:er m a=some v) :
 Ev P ts (.lookup t x y false) v (j7 enc b m):=by
 intro ac w _ _ _ _ _ T ⟨es,c,hb,hm,_⟩;have h1:=O.find w es.toList m a hm;have I:=ig m a;rw[hv] at I;have hg:=MapKept.run_getObj_map (P:=P) hb;simp only[execOp,T.eval hx,T.eval hy,Instr.lookup,Sem.run_bind,run_underlying Y,Result.andThen_ok,hg,O.check,h1,Sem.run_pure];cases hf:m.findIdx? (·.1==a) with
 | none=>rw[hf] at I;simp at I
 | some j=>
  rw[hf] at I;simp only[Option.map_some,Option.some.injEq] at I;simp[I]
theorem vQ {x z:Operand} {b:Nat} {m:List (K×Value)} {a:K} {v:Value} (hd:d=none) (ht:P.underlying t=some (.map kt et)) (hk:KeyK P kt K enc) (hx:ev ts x=some (.map (some b))) (I:ev ts y=some (enc a)) (T:ev ts z=some v)
 (s:Sel (cA enc b m) l r) (hn:er m a=none) (h:At E n D ts (cA enc b (m++[(a,v)])::r) Kk):At E n D ts l (λac w=>(Oper.mk d (.mapUpdate t x y z) ty pos af g).wp P ac w Kk Q):=λac w f hw=>by
 subst hd;have O:=hw.sel s;obtain⟨Y,c,hb,hm,hs1,d6⟩:=iN .head w O;have h1:=hk.find w Y.toList m a hm;have h2:=ig m a;have hg:=MapKept.run_getObj_map (P:=P) hb;have hf:m.findIdx? (·.1==a)=none:=by
  cases hf:m.findIdx? (·.1==a) with
  | none=>rfl
  | some j=>rw[hf,hn] at h2;simp at h2
 rw[hf] at h1;have hs:=MapKept.run_setObj_map (P:=P) (.map (Y.push {key:=enc a,val:=v,born:=c}) (c+1)) hb;have hr:(execOp ac.eval (Oper.mk none (.mapUpdate t x y z) ty pos af g)).run P w=.ok .skip {w with heap:=w.heap.setIfInBounds b (.map (Y.push {key:=enc a,val:=v,born:=c}) (c+1))}:=by
  simp only[execOp,f.eval hx,f.eval I,f.eval T,Instr.mapUpdate,Sem.run_bind,run_underlying ht,Result.andThen_ok,hg,hk.check,h1,Option.map_none,hs,Sem.run_pure]
 show(Oper.mk none (.mapUpdate t x y z) ty pos af g).wp P ac w Kk Q;unfold Oper.wp;rw[hr];refine h ac _ f<|O.setVMap (by simp[hm]) (λy I=>?_) ?_
 · rw[Array.toList_push,List.mem_append] at I
   rcases I with I|I
   · exact Nat.lt_succ_of_lt<|hs1 y I
   · simp at I;subst I;exact Nat.lt_succ_self _
 · rw[Array.toList_push,List.map_append,List.nodup_append]
   refine⟨d6,by simp,λy I z T=>?_⟩;obtain⟨e,he,rfl⟩:=List.mem_map.1 I;simp at T;subst T;exact Nat.ne_of_lt<|hs1 e he
theorem vR {x:Operand} {b:Nat} {m:List (K×Value)} {a:K} (hd:d=none) (ht:P.underlying t=some (.map kt et)) (hk:KeyK P kt K enc) (hx:ev ts x=some (.map (some b))) (hy:ev ts y=some (enc a))
 (s:Sel (cA enc b m) l r) (h:At E n D ts (cA enc b (m.eraseP (·.1==a))::r) Kk):At E n D ts l (λac w=>(Oper.mk d (.call {callee:=.builtin .delete,args:=#[x,y],argTypes:=#[t,kt]}) ty pos af g).wp P ac w Kk Q):=λac w f hw=>by
 subst hd;have d9:=hw.sel s;obtain⟨O,c,hb,hm,hs1,T⟩:=iN .head w d9;have h1:=hk.find w O.toList m a hm;have hg:=MapKept.run_getObj_map (P:=P) hb;obtain⟨I,Y,d6,d7,d8⟩:∃I:Array MapEntry,I.toList.map (λe=>(e.key,e.val))=(m.eraseP (·.1==a)).map (λp=>(enc p.1,p.2))/\(∀x∈I.toList,x.born<c)/\(I.toList.map (·.born)).Nodup/\(Builtin.delete_ #[t,kt] ty #[.map (some b),enc a]).run P w=.ok (.tuple #[]) {w with heap:=w.heap.setIfInBounds b (.map I c)}:=by
  cases hf:m.findIdx? (·.1==a) with
  | none=>
   rw[hf] at h1;have hs:=MapKept.run_setObj_map (P:=P) (.map O c) hb;refine⟨O,?_,hs1,T,?_⟩
   · rw[hm,List.eraseP_of_forall_not]
     intro p hp;have:=List.findIdx?_eq_none_iff.1 hf p hp;simpa using this
   · simp only[Builtin.delete_,List.getElem?_toArray,List.getElem?_cons_zero,List.getElem?_cons_succ,Sem.run_bind,run_underlying ht,Result.andThen_ok,hg,hk.check,h1,Option.map_none,hs,Sem.run_pure]
  | some j=>
   rw[hf] at h1;have hs:=MapKept.run_setObj_map (P:=P) (.map (O.eraseIdxIfInBounds j) c) hb;have he:(O.eraseIdxIfInBounds j).toList=O.toList.eraseIdx j:=by
    unfold Array.eraseIdxIfInBounds
    split
    · simp
    · rename_i f7
      rw[List.eraseIdx_of_length_le (by simpa using f7)]
   refine⟨O.eraseIdxIfInBounds j,?_,?_,?_,?_⟩
   · rw[he,ik,hm,<-ik,List.eraseP_eq_eraseIdx,hf]
   · intro x hx
     rw[he] at hx;exact hs1 x ((List.eraseIdx_sublist _ _).subset hx)
   · rw[he]
     exact T.sublist ((List.eraseIdx_sublist _ _).map _)
   · simp only[Builtin.delete_,List.getElem?_toArray,List.getElem?_cons_zero,List.getElem?_cons_succ,Sem.run_bind,run_underlying ht,Result.andThen_ok,hg,hk.check,h1,Option.map_some,hs,Sem.run_pure]
 have hr:(execOp ac.eval (Oper.mk none (.call {callee:=.builtin .delete,args:=#[x,y],argTypes:=#[t,kt]}) ty pos af g)).run P w=.ok (.value (.tuple #[])) {w with heap:=w.heap.setIfInBounds b (.map I c)}:=by
  simp[execOp,resolve,invoke,builtin,f.eval hx,f.eval hy,d8]
 show(Oper.mk none (.call {callee:=.builtin .delete,args:=#[x,y],argTypes:=#[t,kt]}) ty pos af g).wp P ac w Kk Q;unfold Oper.wp;rw[hr];exact h ac _ f<|d9.setVMap Y d6 d7
end
end
section
variable {P:Program} {E:Env} {n:Nat} {D:List Deferred} {ts:List (Nat×Value)} {l:List HP} {ops:Array Oper} {Q:Exit->Act->World->Prop} {i:Nat} {ty:TypeId} {pos:String} {af:Array Edge} {g:Option (Nat×Bool)} {K:Type} {enc:K->Value}
theorem rr {t kt et:TypeId} {x:Operand} {b:Nat} {m:List (K×Value)} (I:P.underlying t=some (.map kt et)) (O:ev ts x=some (.map (some b))):Ev P ts (.call {callee:=.builtin .len,args:=#[x],argTypes:=#[t]}) (.int .i64 m.length) (j7 enc b m):=by
 intro a w _ _ _ _ _ T ⟨Y,c,hb,hm,_⟩;have hg:=MapKept.run_getObj_map (P:=P) hb;have hl:Y.size=m.length:=by
  have:=congrArg List.length hm;simpa using this
 simp[execOp,resolve,invoke,builtin,Builtin.len_,T.eval O,run_underlying I,goInt,hg,hl]
variable (enc) in
theorem jJ {t:TypeId} {Kk:Act->World->Prop} (hi:Nat.blt i n=true) (h:∀b,At E n D ((i,.map (some b))::ts) (cA enc b []::l) Kk):At E n D ts l (λac w=>(Oper.mk (some i) (.makeMap t none) ty pos af g).wp P ac w Kk Q):=λac w f hw=>by
 have hr:(execOp ac.eval (Oper.mk (some i) (.makeMap t none) ty pos af g)).run P w=.ok (.value (.map (some w.heap.size))) (w.alloc (.map #[] 0)):=rfl;show(Oper.mk (some i) (.makeMap t none) ty pos af g).wp P ac w Kk Q;unfold Oper.wp;rw[hr];have h0:=hw.alloc (.map #[] 0);refine h _ _ _ (f.put i (Nat.le_of_ble_eq_true hi) _)<|h0.ent ?_
 exact λw F ⟨F1,F2,O,T,hd,I,Y⟩=>⟨F1,F2,O,T,hd,⟨I.1,#[],0,I.2,rfl,by simp,by simp⟩,Y⟩
end
end Go.SL
