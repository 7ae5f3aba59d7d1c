/- Arguments that come in, opened: lists of integers, flows; and what the row of a law that answers true asks behind the call. -/
import Derived.Test.YtkckgjpkkbkkgaaGreatDoorCoD
import Derived.Deep.Slices
import Derived.Lib.SmallJoins
import Derived.ProofKit
import Derived.OpenShut
import Derived.Test.YtkckgjpkkbkkgaaGreatDoorCards
import Derived.Test.YtkckgjpkkbkkgaaGreatDoorTie
import Derived.Test.YtkckgjpkkbkkgaaGreatDoorCoE
import Derived.Deep.DeepHandedRow
import Derived.Lib.LaidTab
import Derived.LaidHandle
import Derived.LaidSub
import Derived.Stop.LaidErr
import Derived.Leaving
import Derived.Conc.Holds
import Derived.SevenTiedAt
import Derived.Test.YtkckgjpkkbkkgaaGreatDoorCoL
set_option maxRecDepth 100000
namespace Go.Y
open Go.Proofs Go.RowKit Go.Deep Go.ChangeShapes Go.WideShapes
theorem pm {w:World} {a:Addr} {v:Value} (h:w.cell? a=some v):∃b E,a=⟨b,E,none⟩/\b<w.heap.size:=by
 obtain⟨b,E,I⟩:=a;unfold World.cell? at h
 split at h
 · rename_i c _ _ hc
   cases I with
   | none=>exact⟨b,E,rfl,(Array.getElem?_eq_some_iff.1 hc).1⟩
   | some s=>simp at h
 · cases h
theorem add_plain (b E n:Nat):(⟨b,E,none⟩:Addr).add n=⟨b,E+n,none⟩:=by
 unfold Addr.add;split<;>simp_all
theorem nI {n:Int} (h:(Lit.int .i64 n).wf=true):i64 n:=by
 have:=bounds_i64 h;exact⟨this.1,ai⟩
theorem sH:Tryz.prog.cellsOf 3=1:=by kernel_rfl
section
variable {H:Type} {enc:TypeId×Value->H} {w:World}
instance:Inhabited FK.Node:=⟨⟨0,0,0,0,0,0,[]⟩⟩
end
end Go.Y

namespace Go.Proofs.YtkckgjpkkbkkgaaGreatDoor
open Go Go.ChangeShapes Go.WideShapes Go.ChangeAt Go.RowKit Go.Deep Go.SL Go.Y
theorem own:ownKnob Tryz.prog.godebug=none:=by kernel_rfl
theorem gT64:Tryz.prog.globalNamed "math/bits.deBruijn64tab"=some 2:=by kernel_rfl
theorem gT64type:(Tryz.prog.globals[2]?).map (·.type)=some 297:=by kernel_rfl
theorem Cy:laidOutB Tryz.prog=true:=by kernel_rfl
theorem gErr:Tryz.prog.globalNamed "errors.errorType"=some 0:=by kernel_rfl
theorem rtypeIs:(Tryz.prog.cutTypes.find? (·.1== "internal/reflectlite.rtype")).map (·.2)=some 257:=by kernel_rfl
theorem KP:((List.range Tryz.prog.types.size).filter λt=>Tryz.prog.rowNamed t [101,114,114,111,114])=[71]:=by kernel_rfl
abbrev E7:List (String×DataW Unit):=[("math/bits.deBruijn32tab",Rows.laid_math_bits_deBruijn32tab),("math/bits.deBruijn64tab",Rows.laid_math_bits_deBruijn64tab),("internal/strconv.uint64pow10",Rows.laid_internal_strconv_uint64pow10),("strconv.ErrRange",Rows.laid_strconv_ErrRange),("strconv.ErrSyntax",Rows.laid_strconv_ErrSyntax)]
abbrev ux:List (String×DataW Unit):=[("math/bits.deBruijn32tab",Rows.laid_math_bits_deBruijn32tab),("math/bits.deBruijn64tab",Rows.laid_math_bits_deBruijn64tab),("internal/strconv.uint64pow10",Rows.laid_internal_strconv_uint64pow10),("errors.errorType",Rows.laid_errors_errorType),("strconv.ErrRange",Rows.laid_strconv_ErrRange),("strconv.ErrSyntax",Rows.laid_strconv_ErrSyntax)]
theorem ol {W:World} (h:laidMetH Tryz.prog ux W):laidMet Tryz.prog E7 W/\handlesMet Tryz.prog [("errors.errorType",Rows.laid_errors_errorType)] W:=h
theorem Kx {W:World} (h':laidMet Tryz.prog E7 W):Tab W:=by
 obtain⟨ps,⟨g',t',d7,O,p',q',_,_,_,_,E,_⟩,_⟩:=h';obtain⟨g,t,cs,d6,p,q,hg,T,I,hd,_,_⟩:=E;obtain rfl:=Option.some.inj (gT64.symm.trans hg);obtain rfl:=Option.some.inj (gT64type.symm.trans T);have K:(Rows.laid_math_bits_deBruijn64tab:DataW Unit)=Lib.tabData .u8 (Lib.deBruijn64tab.map λn:Nat=>(n:Int)):=by rfl
 rw[K] at hd;have Y:=Lib.cells_of_tab Tryz.underlying297 Tryz.underlying5 eP eP hd;have T:Lib.TabIs Tryz.prog W "math/bits.deBruijn64tab" .u8 (Lib.deBruijn64tab.map λn:Nat=>(n:Int)):=by
  unfold Lib.TabIs;rw[I,<-Y]
 intro j hj;have:=T.cell gT64 j (by simpa using hj);rw[this];simp[List.getD,hj]
theorem El {W:World} (K:handlesMet Tryz.prog [("errors.errorType",Rows.laid_errors_errorType)] W):W.cell? ⟨0,0,none⟩=some (.iface 257 (.agg #[.pointer (some ⟨Tryz.prog.globals.size,71,none⟩)])):=by
 obtain⟨name,u,O,e1,e2,T,Y,E⟩:=K _ (List.mem_singleton.2 rfl);have en:name=[101,114,114,111,114]:=(Option.some.inj e1).symm;subst en;obtain rfl:=Option.some.inj (rtypeIs.symm.trans e2);have I:O∈(List.range Tryz.prog.types.size).filter λt=>Tryz.prog.rowNamed t [101,114,114,111,114]:=List.mem_filter.2 ⟨List.mem_range.2 T,Y⟩;rw[KP] at I;obtain rfl:=List.mem_singleton.1 I;have hh:typeHandle Tryz.prog 71=.pointer (some ⟨Tryz.prog.globals.size,71,none⟩):=by kernel_rfl
 rw[hh] at E;simpa using World.var?_cell gErr E 0
theorem gPow:Tryz.prog.globalNamed "internal/strconv.uint64pow10"=some 5:=by kernel_rfl
theorem gPowType:(Tryz.prog.globals[5]?).map (·.type)=some 348:=by kernel_rfl
theorem gSyn:Tryz.prog.globalNamed "strconv.ErrSyntax"=some 3:=by kernel_rfl
theorem Hm:(Tryz.prog.globals[3]?).map (·.type)=some 71:=by kernel_rfl
theorem _root_.Go.laidMet.head1 {P:Program} {x:String×DataW Unit} {r:List (String×DataW Unit)} {w:World} (h:laidMet P (x::r) w):laidMet P [x] w:=by
 obtain⟨ps,Y,hnd,I⟩:=h;obtain⟨n,d⟩:=x;obtain⟨g,t,cs,K,p,q,h1,h2,h3,h4,hq,rfl⟩:=Y;have E:(MemPlace.row ⟨g,0,none⟩ cs.size++p++[]).Sublist (MemPlace.row ⟨g,0,none⟩ cs.size++p++q):=by
  rw[List.append_nil];exact List.sublist_append_left _ _
 exact⟨MemPlace.row ⟨g,0,none⟩ cs.size++p++[],⟨g,t,cs,K,p,[],h1,h2,h3,h4,rfl,rfl⟩,List.Nodup.sublist E hnd,λb O T=>I b O (E.subset T)⟩
theorem GG {W:World} (h:laidMetH Tryz.prog ux W):laidMet Tryz.prog [("internal/strconv.uint64pow10",Rows.laid_internal_strconv_uint64pow10)] W:=
 (ol h).1.tail.tail.head1
theorem Gc {W:World} (h:laidMetH Tryz.prog ux W):laidMet Tryz.prog [("strconv.ErrSyntax",Rows.laid_strconv_ErrSyntax)] W:=
 (ol h).1.tail.tail.tail.tail
theorem KM {W:World} (Y:laidMet Tryz.prog [("internal/strconv.uint64pow10",Rows.laid_internal_strconv_uint64pow10)] W):Lib.TabIs Tryz.prog W "internal/strconv.uint64pow10" .u64 Lib.pow10Tab:=by
 obtain⟨ps,E,_⟩:=Y;obtain⟨g,t,cs,T,p,q,hg,ht,I,hd,_,_⟩:=E;obtain rfl:=Option.some.inj (gPow.symm.trans hg);obtain rfl:=Option.some.inj (gPowType.symm.trans ht);have K:(Rows.laid_internal_strconv_uint64pow10:DataW Unit)=Lib.tabData .u64 Lib.pow10Tab:=by rfl
 rw[K] at hd;have O:=Lib.cells_of_tab Tryz.underlying348 Tryz.underlying30 eP eP hd;unfold Lib.TabIs;rw[I,<-O]
theorem KA {W:World} (h:laidMet Tryz.prog [("strconv.ErrSyntax",Rows.laid_strconv_ErrSyntax)] W):∃t p,W.cell? ⟨3,0,none⟩=some (.iface t p):=by
 have E:∀u,Tryz.prog.typeName? 3 u=some "*errors.errorString"->u=339:=λu h=>typeName_ptr_named (nm:= "errors.errorString") (by rw[show "*"++ "errors.errorString"= "*errors.errorString" by decide];kernel_rfl) eP di u (by rw[show "*"++ "errors.errorString"= "*errors.errorString" by decide];exact h);obtain⟨O,s0,I,-,-,-⟩:=laid_sentinel h gSyn Hm Tryz.underlying71 E Tryz.underlying339 Tryz.underlying341 rfl rfl Tryz.underlying9 eP eP;exact⟨_,_,by have K:=World.var?_cell gSyn I 0;simpa using K⟩
abbrev fixedAt:List Nat:=[2,0,3,5]
section
variable {W w:World}
noncomputable def mQ (W:World):Env:=⟨W.os,W.tape,W.output,fixedAt.filterMap λg=>(W.heap[g]?).map λo=>(g,o)⟩
theorem x8 (W:World):(mQ W).is W:=by
 refine⟨rfl,rfl,rfl,λp I=>?_⟩;unfold mQ at I;obtain⟨g,_,E⟩:=List.mem_filterMap.1 I;cases ho:W.heap[g]? with
 | none=>rw[ho] at E;cases E
 | some o=>
  rw[ho] at E;injection E with E;subst E;exact ho
theorem tJ (h:(mQ W).is w) {b:Nat} (K:b∈fixedAt) (I:b<W.heap.size):w.heap[b]?=W.heap[b]?:=by
 obtain⟨ob,E⟩:∃ob,W.heap[b]?=some ob:=⟨_,Array.getElem?_eq_getElem I⟩;have O:(b,ob)∈(mQ W).fixed:=by
  unfold mQ;exact List.mem_filterMap.2 ⟨b,K,by rw[E];rfl⟩
 have:=h.fixed _ O;simp only at this;rw[this,E]
theorem pZ (h:(mQ W).is w) {b o:Nat} {v:Value} (I:b∈fixedAt) (E:W.cell? ⟨b,o,none⟩=some v):w.cell? ⟨b,o,none⟩=some v:=by
 have:=tJ h I (World.block_lt_of_cell? _ _ E);rw[<-E];simp only[World.cell?,this]
theorem zx (h:(mQ W).is w) {n:String} {k:IntKind} {zs:List Int} {g:Nat} (O:Tryz.prog.globalNamed n=some g) (T:g∈fixedAt) (E:Lib.TabIs Tryz.prog W n k zs):Lib.TabIs Tryz.prog w n k zs:=by
 unfold Lib.TabIs World.var? at E ⊢;rw[O] at E ⊢;simp only[Option.bind_some] at E ⊢;have K:g<W.heap.size:=by
  refine Nat.lt_of_not_le λI=>?_;rw[Array.getElem?_eq_none I] at E;cases E
 rw[tJ h T K];exact E
theorem Jw (h:laidMetH Tryz.prog ux W):Go.Y.Good (mQ W):=by
 obtain⟨I,K⟩:=ol h;obtain⟨t,p,O⟩:=KA (Gc h);exact⟨λw hw j E=>pZ hw di (Kx I j E),λw hw=>pZ hw di (El K),λw hw=>⟨t,p,pZ hw di O⟩,λw hw=>zx hw gPow di (KM (GG h))⟩
theorem Gives.run {f:FuncId} {args:Array Value} {φ:World->Prop} {R:Value->List HP->Prop} (h:Gives Tryz.prog Go.Y.Good f args φ R) (E:laidMetH Tryz.prog ux W) (I:φ W):Calls Tryz.prog f args W λe K=>∃v m,e=.returned v/\R v m/\Below W.heap.size W K:=
 (h (mQ W) W (Jw E) (x8 W) I).mono λe w' ⟨v,m,O,T,Y⟩=>⟨v,m,O,T,by
  have hs:Sel (SL.old (mQ W) W) (m++[SL.old (mQ W) W]) (m++[]):=Sel.app' m;exact Y.old hs (x8 W)⟩
where
 Sel.app':∀(m:List HP) {p:HP},Sel p (m++[p]) (m++[])
 | [],_=>.head
 | _::m,_=>.tail (Sel.app' m)
def lay64:Obj->Obj
 | .cells _ t E=>.cells #[.int .u8 0,.int .u8 1,.int .u8 56,.int .u8 2,.int .u8 57,.int .u8 49,.int .u8 28,.int .u8 3,.int .u8 61,.int .u8 58,.int .u8 42,.int .u8 50,.int .u8 38,.int .u8 29,.int .u8 17,.int .u8 4,.int .u8 62,.int .u8 47,.int .u8 59,.int .u8 36,.int .u8 45,.int .u8 43,.int .u8 51,.int .u8 22,.int .u8 53,.int .u8 39,.int .u8 33,.int .u8 30,.int .u8 24,.int .u8 18,.int .u8 12,.int .u8 5,.int .u8 63,.int .u8 55,.int .u8 48,.int .u8 27,.int .u8 60,.int .u8 41,.int .u8 37,.int .u8 16,.int .u8 46,.int .u8 35,.int .u8 44,.int .u8 21,.int .u8 52,.int .u8 32,.int .u8 23,.int .u8 11,.int .u8 54,.int .u8 26,.int .u8 40,.int .u8 15,.int .u8 34,.int .u8 20,.int .u8 31,.int .u8 10,.int .u8 25,.int .u8 14,.int .u8 19,.int .u8 9,.int .u8 13,.int .u8 8,.int .u8 7,.int .u8 6] t E
 | o=>o
def lay32:Obj->Obj
 | .cells _ t E=>.cells #[.int .u8 0,.int .u8 1,.int .u8 28,.int .u8 2,.int .u8 29,.int .u8 14,.int .u8 24,.int .u8 3,.int .u8 30,.int .u8 22,.int .u8 20,.int .u8 15,.int .u8 25,.int .u8 17,.int .u8 4,.int .u8 8,.int .u8 31,.int .u8 27,.int .u8 13,.int .u8 23,.int .u8 21,.int .u8 19,.int .u8 16,.int .u8 7,.int .u8 26,.int .u8 12,.int .u8 18,.int .u8 6,.int .u8 11,.int .u8 5,.int .u8 10,.int .u8 9] t E
 | o=>o
noncomputable def KZ:Obj->Obj
 | .cells _ t E=>.cells #[.iface 257 (.agg #[.pointer (some ⟨Tryz.prog.globals.size,71,none⟩)])] t E
 | o=>o
def KY:Obj->Obj
 | .cells _ t E=>.cells #[.int .u64 1,.int .u64 10,.int .u64 100,.int .u64 1000,.int .u64 10000,.int .u64 100000,.int .u64 1000000,.int .u64 10000000,.int .u64 100000000,.int .u64 1000000000,.int .u64 10000000000,.int .u64 100000000000,.int .u64 1000000000000,.int .u64 10000000000000,.int .u64 100000000000000,.int .u64 1000000000000000,.int .u64 10000000000000000,.int .u64 100000000000000000,.int .u64 1000000000000000000,.int .u64 10000000000000000000] t E
 | o=>o
end
abbrev rngS:ByteArray:={data:=#[118,97,108,117,101,32,111,117,116,32,111,102,32,114,97,110,103,101]}
abbrev synS:ByteArray:={data:=#[105,110,118,97,108,105,100,32,115,121,110,116,97,120]}
noncomputable def low:Nat:=(World.holding Tryz.prog default ⟨#[],#[],[]⟩).heap.size
noncomputable def Cx (b:Nat):Obj->Obj
 | .cells _ t E=>.cells #[.iface 339 (.pointer (some ⟨b,0,none⟩))] t E
 | o=>o
noncomputable def km (os:Os):World:=
 let E:=World.holding Tryz.prog os ⟨#[.cells #[.string rngS] 341,.cells #[.string synS] 341],#[],[]⟩
 {E with heap:=(((((E.heap.modify 2 lay64).modify 1 lay32).modify 0 KZ).modify 5 KY).modify 4 (Cx low)).modify 3 (Cx (low+1))}
theorem G7 (os:Os) (args:Array Value) (E:laidMet Tryz.prog E7 ((km os).forCall (λ_ _=>0) ⟨#[],args,[]⟩).memory) (I:([("errors.errorType",(Rows.laid_errors_errorType:DataW Unit))].all (handleAtB Tryz.prog ((km os).forCall (λ_ _=>0) ⟨#[],args,[]⟩).memory))=true) :
 laidMetH Tryz.prog ux ((km os).forCall (λ_ _=>0) ⟨#[],args,[]⟩).memory:=
 laidMetH_of_parts E I
end Go.Proofs.YtkckgjpkkbkkgaaGreatDoor

namespace Go.Proofs.YtkckgjpkkbkkgaaGreatDoor
open Go Go.RowKit Go.Deep Go.ChangeShapes Go.WideShapes Go.ChangeAt Go.SL Go.Y
theorem CZ:Tryz.prog.cellsOf 43=3:=by kernel_rfl
theorem Ga:Tryz.prog.underlying 22=some (.slice 43):=Tryz.underlying22
instance:Inhabited FK.Ev:=⟨⟨0,0,0⟩⟩
theorem J7 {α:Type} {l:List α} (h:l.length=3):∃a b c,l=[a,b,c]:=by
 match l,h with
 | [a,b,c],_=>exact⟨a,b,c,rfl⟩
section
variable {H:Type} {enc:TypeId×Value->H} {w:World}
theorem I5 {E:Nat} {cs:List Value} {y:DataW H×List MemPlace} (h:DataW.trod enc Tryz.prog w 0 (λ_=>true) true E 43 cs=some y) :
 ∃x:FK.Ev,(i64 x.kind/\i64 x.n/\i64 x.kept)/\cs=evL x:=by
 obtain⟨xs,n,_,hy,I,K,O⟩:=DataW.trod_struct Tryz.underlying43 h;obtain⟨T,Y,v2,rfl⟩:=J7 (I.trans CZ);obtain⟨y0,y1,y2,rfl⟩:=J7 (l:=xs) K;have g0:DataW.trod enc Tryz.prog w 0 (λ_=>true) true n 3 [T]=some y0:=by have:=O 0 _ rfl;simpa[sH] using this
 have g1:DataW.trod enc Tryz.prog w 0 (λ_=>true) true n 3 [Y]=some y1:=by have:=O 1 _ rfl;simpa[sH] using this
 have g2:DataW.trod enc Tryz.prog w 0 (λ_=>true) true n 3 [v2]=some y2:=by have:=O 2 _ rfl;simpa[sH] using this
 obtain⟨a0,e0,_,w0⟩:=DataW.trod_int Tryz.underlying3 g0;obtain⟨a1,e1,_,w1⟩:=DataW.trod_int Tryz.underlying3 g1;obtain⟨a2,e2,_,w2⟩:=DataW.trod_int Tryz.underlying3 g2;simp only[List.cons.injEq,and_true] at e0 e1 e2;subst e0 e1 e2;exact⟨⟨a0,a1,a2⟩,⟨nI w0,nI w1,nI w2⟩,rfl⟩
theorem AR {d6:Nat} {v:Value} {y:DataW H×List MemPlace} (h:DataW.trod enc Tryz.prog w 0 (λ_=>true) true d6 22 [v]=some y) :
 ∃A c l,v=.slice A l.length c/\EvsAt w w.heap.size A c l:=by
 rcases open_slice Ga h with⟨I,hx⟩|⟨a,len,cap,m,n,D,Pl,I,_,hl,hm,f9,hx,hi⟩
 · simp at I;subst I
   exact⟨none,0,[],rfl,⟨by simp,by simp,by simp,by simp⟩⟩
 · simp at I;subst I
   simp only[if_true] at f9;subst f9;rw[CZ] at hi;have wf:∀i,i<len->∃x:FK.Ev,(i64 x.kind/\i64 x.n/\i64 x.kept)/\∃b E,a=⟨b,E,none⟩/\b<w.heap.size/\∀j u,(evL x)[j]?=some u->w.cell? ⟨b,E+i*3+j,none⟩=some u:=by
    intro i LD;obtain⟨d7,K,h2⟩:=hi i ai;obtain⟨_,Fd,d8⟩:=World.cells?_some K;have h0:=d8 0 ai;have hv:d7[0]?=some (d7[0]'ai):=List.getElem?_eq_getElem _;rw[hv,add_add] at h0;obtain⟨b',d9,f7,In⟩:=pm h0;have T:∃b E,a=⟨b,E,none⟩:=by
     obtain⟨LB,t6,_⟩:=hi 0 ai;obtain⟨_,LC,f8⟩:=World.cells?_some t6;have Y:=f8 0 ai;rw[add_add] at Y;have e:a.add (0*3+0)=a:=by simp[Addr.add]
     rw[e,List.getElem?_eq_getElem ai] at Y;obtain⟨b,E,e,_⟩:=pm Y;exact⟨b,E,e⟩
    obtain⟨b,E,rfl⟩:=T;have BT:b<w.heap.size:=by
     rw[Go.Y.add_plain] at f7;injection f7 with e1 _ _;omega
    obtain⟨x,t7,rfl⟩:=I5 h2;refine⟨x,t7,b,E,rfl,BT,λj u hu=>?_⟩;have hj:j<3:=by have:=(gfGet.1 hu).1;simpa using this
    have:=d8 j hj;rw[add_add,Go.Y.add_plain] at this;rw[Nat.add_assoc,this];exact hu
   obtain⟨V,hV⟩:=choose_lt wf;have mt:((List.range len).map V).length=len:=by simp
   have O:∀i n,((List.range len).map V)[i]?=some n->i<len/\n=V i:=λi n hn=>by
    obtain⟨K,h2⟩:=gfGet.1 hn;simp at K h2;exact⟨K,h2.symm⟩
   refine⟨some a,m,(List.range len).map V,by rw[mt],⟨λx hx=>?_,ai,by unfold maxLen at hm;omega,λh0=>?_⟩⟩
   · obtain⟨i,t8⟩:=List.getElem?_of_mem hx
     obtain⟨K,rfl⟩:=O i x t8;exact(hV i K).1
   · obtain⟨_,b,E,rfl,hb,_⟩:=hV 0 ai
     refine⟨b,E,rfl,hb,λi n hn=>?_⟩;obtain⟨K,rfl⟩:=O i n hn;obtain⟨_,b',d9,e,_,hnd⟩:=hV i K;injection e with e1 e2 _;subst e1 e2;exact hnd
end
theorem GK {H:Type} {enc:TypeId×Value->H} {w:World} {r:Reach} {K:Nat} {v:Value} {d:DataW H} {p:List MemPlace} (O:Value.okWide Tryz.prog w r K 22 v) (h:DataW.Trod enc Tryz.prog w 0 (λ_=>true) true 22 v d p) :
 ∃A c l,v=.slice A l.length c/\EvsAt w w.heap.size A c l:=by
 obtain⟨E,I⟩:=h;obtain⟨a,n,k,rfl⟩:=okWide_slice Tryz.underlying22 O;have hc:(Value.slice a n k).cells.toList=[.slice a n k]:=by simp[Value.cells]
 rw[hc] at I;exact AR I
open Go Go.Y
theorem AJ:mapsRowed Tryz.prog=true:=by kernel_rfl
theorem Ee:(false==Tryz.prog.plainKeys)=true:=by kernel_rfl
theorem ua:Tryz.prog.stopsHeard=true:=by kernel_rfl
theorem Hz:Tryz.prog.mayEnter=true:=by kernel_rfl
theorem GY:(Rows.compactedRow.lifted==Tryz.prog.liftsFinal)=true:=by kernel_rfl
theorem KV:(Tryz.prog.make==some Rows.compactedRow.make)=true:=by kernel_rfl
theorem Ei {P:Program} {f:FuncId} {E:Func} {s:ChangeSpec} {c:OpenClaim}
 (h1:(c.wf (OpenSpec.ofChange s))=true)
 (h2:(laidOutB P)=true)
 (h3:(mapsRowed P)=true)
 (h4:(E.params.all (P.readableRec ·))=true)
 (h5:(namedTie P c.named s.vars)=true)
 (h6:((c.stops==[]))=true)
 (h7:((P.stops==[]))=true)
 (h8:((c.knobs==[]))=true)
 (h9:((P.stopKnobs==[]))=true)
 (I:((c.inPlace==P.inPlace f))=true)
 (K:((c.unfollowed==P.unfollowed f))=true)
 (O:((c.recurses==P.recurses f))=true)
 (T:((c.named==P.varsNamed f))=true)
 (Y:((c.maps==(E.params.toList++s.plain.varTypes P).any (P.mapsRec ·)))=true)
 (d6:((c.ifaces==(E.params.toList++s.plain.varTypes P).any (P.ifacesRec ·)))=true)
 (d7:((c.mapsOut==P.mapsAmong E.resultTypes.toList))=true)
 (d8:((c.loops==(E.params.toList++s.plain.varTypes P).any (P.loopsFrom ·)))=true)
 (d9:((c.wideKeys==(E.params.toList++s.plain.varTypes P++E.resultTypes.toList).any (P.wideKeysFrom ·)))=true)
 (f7:(s.vars.all (P.varReadable ·))=true)
 (f8:(E.resultTypes.all (λt=>P.readableRec t&&decide (t<P.types.size)))=true)
 (f9:((c.ifacesOut==E.resultTypes.toList.any (P.ifacesRec ·)))=true)
 (mt:((c.loopsOut==E.resultTypes.toList.any (P.loopsFrom ·)))=true)
 (t6:((c.plainKeys==P.plainKeys))=true)
 (t7:(c.shortTexts.isNone)=true)
 (t8:(P.stopsHeard)=true)
 (wf:(P.mayEnter)=true)
 (BT:((c.lifted==P.liftsFinal))=true)
 (Fd:((P.make==some c.make))=true)
 (In:((c.kinds==(if c.domain.isEmpty then[] else E.params.toList.map λt=>match P.underlying t with|some (.int k)=>some k|_=>none)))=true)
 (LB:((c.pinned==c.pinnedBy))=true)
 (LC:((c.veiled==(E.params.toList++s.plain.varTypes P++E.resultTypes.toList).any (P.veiledRec ·)))=true)
 (LD:(c.veiledFits P E.params.toList (E.params.toList++s.plain.varTypes P++E.resultTypes.toList))=true):joinedFacts P f E s c=true:=by
 unfold joinedFacts;simp only[Bool.and_eq_true];exact⟨⟨⟨⟨⟨⟨⟨⟨⟨⟨⟨⟨⟨⟨⟨⟨⟨⟨⟨⟨⟨⟨⟨⟨⟨⟨⟨⟨⟨⟨⟨h1,h2⟩,h3⟩,h4⟩,h5⟩,h6⟩,h7⟩,h8⟩,h9⟩,I⟩,K⟩,O⟩,T⟩,Y⟩,d6⟩,d7⟩,d8⟩,d9⟩,f7⟩,f8⟩,f9⟩,mt⟩,t6⟩,t7⟩,t8⟩,wf⟩,BT⟩,Fd⟩,In⟩,LB⟩,LC⟩,LD⟩
end Go.Proofs.YtkckgjpkkbkkgaaGreatDoor
