/- Arguments that come in, opened: lists of integers, flows; and what the row of a law that answers true asks behind the call. -/
import Derived.Test.YtncdhfckklfhdaaGreatDoorKeE
import Derived.Deep.Slices
import Derived.Lib.SmallJoins
import Derived.ProofKit
import Derived.OpenShut
import Derived.Test.YtncdhfckklfhdaaGreatDoorCards
import Derived.Test.YtncdhfckklfhdaaGreatDoorTie
import Derived.Test.YtncdhfckklfhdaaGreatDoorKeF
import Derived.Deep.DeepHandedRow
import Derived.Lib.LaidTab
import Derived.LaidHandle
import Derived.LaidSub
import Derived.Stop.LaidErr
import Derived.Leaving
import Derived.Conc.Holds
import Derived.SevenTiedAt
import Derived.Test.YtncdhfckklfhdaaGreatDoorKeM
set_option maxRecDepth 100000
namespace Go.Y
open Go.Proofs Go.RowKit Go.Deep Go.ChangeShapes Go.WideShapes
theorem ju {w:World} {a:Addr} {v:Value} (h:w.cell? a=some v):∃b off,a=⟨b,off,none⟩/\b<w.heap.size:=by
 obtain⟨b,off,E⟩:=a;unfold World.cell? at h
 split at h
 · rename_i c _ _ hc
   cases E with
   | none=>exact⟨b,off,rfl,(Array.getElem?_eq_some_iff.1 hc).1⟩
   | some s=>simp at h
 · cases h
theorem add_plain (b off n:Nat):(⟨b,off,none⟩:Addr).add n=⟨b,off+n,none⟩:=by
 unfold Addr.add;split<;>simp_all
theorem gT {n:Int} (h:(Lit.int .i64 n).wf=true):i64 n:=by
 have:=bounds_i64 h;exact⟨this.1,am⟩
theorem gx:Tryz.prog.cellsOf 3=1:=by kernel_rfl
theorem xp:Tryz.prog.cellsOf 51=7:=by kernel_rfl
theorem Kh:Tryz.prog.bytesOf 3=8:=by kernel_rfl
theorem Hl:Tryz.prog.bytesOf 51=72:=by kernel_rfl
section
variable {H:Type} {enc:TypeId×Value->H} {w:World}
theorem Bt {K:Nat} {v:Value} {y:DataW H×List MemPlace} (h:DataW.trod enc Tryz.prog w 0 (λ_=>true) true K 24 [v]=some y) :
 ∃A c l,v=.slice A l.length c/\IntsAt w w.heap.size A c l/\(∀R,(y.1.weights Tryz.prog 24).all (·<=R)=true->l.length*8<=R):=by
 rcases open_ints Tryz.underlying24 Tryz.underlying3 gx h with⟨E,hx⟩|⟨a,len,cap,zs,E,_,hl,hm,hz,hx,I,Y⟩
 · simp at E;subst E
   exact⟨none,0,[],rfl,⟨by simp,by simp,by simp,by simp⟩,λR _=>by simp⟩
 · simp at E;subst E
   simp only[if_true] at hz;have J:(zs.take len).length=len:=by simp;omega
   refine⟨some a,cap,zs.take len,by rw[J],⟨λx T=>gT (Y x (List.mem_of_mem_take T)),am,by unfold maxLen at hm;omega,λh0=>?_⟩,λR O=>?_⟩
   · obtain⟨b,off,rfl,hb⟩:=ju (I 0 am)
     refine⟨b,off,rfl,hb,λi x hi=>?_⟩;obtain⟨d6,d7⟩:=gfGet.1 hi;have:=I i am;rw[add_plain] at this;rw[this];rw[List.getElem?_take] at hi
     split at hi
     · simp[List.getD,hi]
     · cases hi
   · rw[hx] at O
     simp only[DataW.weights,Tryz.underlying24] at O;simp only[List.all_cons,Bool.and_eq_true,decide_eq_true_eq] at O;have h1:=O.1;rw[Kh] at h1;have e1:(lits (H:=H) IntKind.i64 (zs.take len)).length=len:=by simp[lits];omega
     rw[e1] at h1;rw[J];have:=Nat.le_add_right len (lits (H:=H) IntKind.i64 (zs.drop len)).length;have:=Nat.mul_le_mul_right 8 this;omega
theorem Mg {α:Type} {l:List α} (h:l.length=7):∃a b c d e f g,l=[a,b,c,d,e,f,g]:=by
 match l,h with
 | [a,b,c,d,e,f,g],_=>exact⟨a,b,c,d,e,f,g,rfl⟩
theorem Hf:Tryz.prog.cellsOf 24=1:=by kernel_rfl
theorem Gs {I:Nat} {cs:List Value} {y:DataW H×List MemPlace} {b off:Nat} (h:DataW.trod enc Tryz.prog w 0 (λ_=>true) true I 51 cs=some y) (hc:∀j,j<7->w.cell? ⟨b,off+j,none⟩=cs[j]?) :
 ∃n:FK.Node,NodeAt w w.heap.size b off n/\(∀R,(y.1.weights Tryz.prog 51).all (·<=R)=true->n.after.length*8<=R):=by
 obtain⟨xs,n,_,Y,J,O,E⟩:=DataW.trod_struct Tryz.underlying51 h;obtain⟨v0,v1,v2,v3,v4,v5,v6,rfl⟩:=Mg (J.trans xp);obtain⟨y0,y1,y2,y3,y4,y5,y6,rfl⟩:=Mg (l:=xs) O;have g0:DataW.trod enc Tryz.prog w 0 (λ_=>true) true n 3 [v0]=some y0:=by have:=E 0 _ rfl;simpa[gx] using this
 have g1:DataW.trod enc Tryz.prog w 0 (λ_=>true) true n 3 [v1]=some y1:=by have:=E 1 _ rfl;simpa[gx] using this
 have g2:DataW.trod enc Tryz.prog w 0 (λ_=>true) true n 3 [v2]=some y2:=by have:=E 2 _ rfl;simpa[gx] using this
 have g3:DataW.trod enc Tryz.prog w 0 (λ_=>true) true n 3 [v3]=some y3:=by have:=E 3 _ rfl;simpa[gx] using this
 have g4:DataW.trod enc Tryz.prog w 0 (λ_=>true) true n 3 [v4]=some y4:=by have:=E 4 _ rfl;simpa[gx] using this
 have g5:DataW.trod enc Tryz.prog w 0 (λ_=>true) true n 3 [v5]=some y5:=by have:=E 5 _ rfl;simpa[gx] using this
 have g6:DataW.trod enc Tryz.prog w 0 (λ_=>true) true n 24 [v6]=some y6:=by have:=E 6 _ rfl;simpa[Hf] using this
 obtain⟨a0,e0,_,w0⟩:=DataW.trod_int Tryz.underlying3 g0;obtain⟨a1,e1,_,w1⟩:=DataW.trod_int Tryz.underlying3 g1;obtain⟨a2,e2,_,w2⟩:=DataW.trod_int Tryz.underlying3 g2;obtain⟨a3,e3,_,w3⟩:=DataW.trod_int Tryz.underlying3 g3;obtain⟨a4,e4,_,w4⟩:=DataW.trod_int Tryz.underlying3 g4;obtain⟨a5,T,_,w5⟩:=DataW.trod_int Tryz.underlying3 g5;simp only[List.cons.injEq,and_true] at e0 e1 e2 e3 e4 T;subst e0 e1 e2 e3 e4 T;obtain⟨A,c,l,rfl,hi,hw⟩:=Bt g6;refine⟨⟨a0,a1,a2,a3,a4,a5,l⟩,⟨hc 0 am,hc 1 am,hc 2 am,hc 3 am,hc 4 am,hc 5 am,⟨A,c,hc 6 am,hi⟩,gT w0,gT w1,gT w2,gT w3,gT w4,gT w5⟩,λR K=>?_⟩;apply hw R;rw[Y] at K;simp only[DataW.weights,Tryz.underlying51,List.map_cons,List.map_nil,DataW.weightsEach,List.all_append,Bool.and_eq_true] at K;exact K.2.2.2.2.2.2.1
theorem uP:Tryz.prog.underlying 44=some (.slice 51):=Tryz.underlying44
theorem lY {P:Program} {e:TypeId} {R:Nat}:∀{l:List (DataW H)} {i:Nat} {d:DataW H},(DataW.weightsAll P e l).all (·<=R)=true->l[i]?=some d->(d.weights P e).all (·<=R)=true
 | [],_,_,_,h=>by simp at h
 | a::l,0,d,h,hd=>by
  simp at hd;subst hd;simp only[DataW.weightsAll,List.all_append,Bool.and_eq_true] at h;exact h.1
 | a::l,i+1,d,h,hd=>by
  simp only[DataW.weightsAll,List.all_append,Bool.and_eq_true] at h;exact lY h.2 (by simpa using hd)
instance:Inhabited FK.Node:=⟨⟨0,0,0,0,0,0,[]⟩⟩
theorem yA {d7:Nat} {v:Value} {y:DataW H×List MemPlace} (h:DataW.trod enc Tryz.prog w 0 (λ_=>true) true d7 44 [v]=some y) :
 ∃A c l,v=.slice A l.length c/\NodesAt w w.heap.size A c l/\((y.1.weights Tryz.prog 44).all (·<=reachBytes)=true->qe l):=by
 rcases open_slice uP h with⟨E,hx⟩|⟨a,len,cap,m,n,D,Pl,E,_,hl,hm,mt,hx,hi⟩
 · simp at E;subst E
   exact⟨none,0,[],rfl,⟨by simp,by simp,by simp⟩,λ_=>⟨by simp,by simp⟩⟩
 · simp at E;subst E
   simp only[if_true] at mt;subst mt;rw[xp] at hi;have T:∀i,i<len->∃n:FK.Node,(∃b off,a=⟨b,off,none⟩/\b<w.heap.size/\NodeAt w w.heap.size b (off+i*7) n)/\(∀R,((D i).weights Tryz.prog 51).all (·<=R)=true->n.after.length*8<=R):=by
    intro i LT;obtain⟨d8,I,O⟩:=hi i am;obtain⟨_,BT,d9⟩:=World.cells?_some I;have h0:=d9 0 am;have hv:d8[0]?=some (d8[0]'am):=List.getElem?_eq_getElem _;rw[hv,add_add] at h0;obtain⟨b',f7,f8,Fd⟩:=ju h0;have Y:∃b off,a=⟨b,off,none⟩:=by
     obtain⟨In,t6,_⟩:=hi 0 am;obtain⟨_,LE,f9⟩:=World.cells?_some t6;have d6:=f9 0 am;rw[add_add] at d6;have e:a.add (0*7+0)=a:=by simp[Addr.add]
     rw[e,List.getElem?_eq_getElem am] at d6;obtain⟨b,off,e,_⟩:=ju d6;exact⟨b,off,e⟩
    obtain⟨b,off,rfl⟩:=Y;have wf:b<w.heap.size:=by
     rw[add_plain] at f8;injection f8 with e1 _ _;omega
    obtain⟨nd,hnd,hw⟩:=Gs (b:=b) (off:=off+i*7) O (λj hj=>by
     have:=d9 j hj;rw[add_add,add_plain] at this;rw[Nat.add_assoc];exact this)
    exact⟨nd,⟨b,off,rfl,wf,hnd⟩,hw⟩
   obtain⟨V,hV⟩:=choose_lt T;have J:((List.range len).map V).length=len:=by simp
   have K:∀i n,((List.range len).map V)[i]?=some n->i<len/\n=V i:=λi n hn=>by
    obtain⟨I,O⟩:=gfGet.1 hn;simp at I O;exact⟨I,O.symm⟩
   refine⟨some a,m,(List.range len).map V,by rw[J],⟨am,by unfold maxLen at hm;omega,λh0=>?_⟩,λhR=>?_⟩
   · obtain⟨⟨b,off,rfl,hb,_⟩,_⟩:=hV 0 am
     refine⟨b,off,rfl,hb,λi n hn=>?_⟩;obtain⟨I,rfl⟩:=K i n hn;obtain⟨⟨b',f7,e,_,hnd⟩,_⟩:=hV i I;injection e with e1 e2 _;subst e1 e2;exact hnd
   · rw[hx] at hR
     simp only[DataW.weights,uP] at hR;simp only[List.all_cons,List.all_append,Bool.and_eq_true,decide_eq_true_eq,List.length_map,List.length_range,Hl] at hR;obtain⟨I,O,_⟩:=hR;unfold reachBytes at I O;refine⟨by rw[J];have:=Nat.mul_le_mul_right 72 (Nat.le_add_right len (m-len));omega,λn hn=>?_⟩;obtain⟨i,t7,t8⟩:=List.mem_iff_getElem.1 hn;obtain⟨h3,h4⟩:=K i n (by rw[List.getElem?_eq_getElem t7,t8]);subst h4;have:=(hV i h3).2 _ (lY (i:=i) (d:=D i) O (by simp[h3]));omega
theorem Hg:Tryz.prog.cellsOf 46=2:=by kernel_rfl
theorem Ep:Tryz.prog.cellsOf 44=1:=by kernel_rfl
end
end Go.Y

namespace Go.Proofs.YtncdhfckklfhdaaGreatDoor
open Go Go.ChangeShapes Go.WideShapes Go.ChangeAt Go.RowKit Go.Deep Go.SL Go.Y
theorem own:ownKnob Tryz.prog.godebug=none:=by kernel_rfl
theorem gT64:Tryz.prog.globalNamed "math/bits.deBruijn64tab"=some 4:=by kernel_rfl
theorem gT64type:(Tryz.prog.globals[4]?).map (·.type)=some 369:=by kernel_rfl
theorem Fc:laidOutB Tryz.prog=true:=by kernel_rfl
theorem gErr:Tryz.prog.globalNamed "errors.errorType"=some 0:=by kernel_rfl
theorem rtypeIs:(Tryz.prog.cutTypes.find? (·.1== "internal/reflectlite.rtype")).map (·.2)=some 296:=by kernel_rfl
theorem Nc:((List.range Tryz.prog.types.size).filter λt=>Tryz.prog.rowNamed t [101,114,114,111,114])=[62]:=by kernel_rfl
abbrev Hy:List (String×DataW Unit):=[("math/bits.deBruijn32tab",Rows.laid_math_bits_deBruijn32tab),("math/bits.deBruijn64tab",Rows.laid_math_bits_deBruijn64tab),("internal/strconv.uint64pow10",Rows.laid_internal_strconv_uint64pow10),("strconv.ErrRange",Rows.laid_strconv_ErrRange),("strconv.ErrSyntax",Rows.laid_strconv_ErrSyntax)]
abbrev wk:List (String×DataW Unit):=[("math/bits.deBruijn32tab",Rows.laid_math_bits_deBruijn32tab),("math/bits.deBruijn64tab",Rows.laid_math_bits_deBruijn64tab),("internal/strconv.uint64pow10",Rows.laid_internal_strconv_uint64pow10),("errors.errorType",Rows.laid_errors_errorType),("strconv.ErrRange",Rows.laid_strconv_ErrRange),("strconv.ErrSyntax",Rows.laid_strconv_ErrSyntax)]
theorem py {W:World} (h:laidMetH Tryz.prog wk W):laidMet Tryz.prog Hy W/\handlesMet Tryz.prog [("errors.errorType",Rows.laid_errors_errorType)] W:=h
theorem MN {W:World} (h':laidMet Tryz.prog Hy W):Tab W:=by
 obtain⟨ps,⟨g',t',d6,K,p',q',_,_,_,_,E,_⟩,_⟩:=h';obtain⟨g,t,cs,Y,p,q,hg,O,I,hd,_,_⟩:=E;obtain rfl:=Option.some.inj (gT64.symm.trans hg);obtain rfl:=Option.some.inj (gT64type.symm.trans O);have J:(Rows.laid_math_bits_deBruijn64tab:DataW Unit)=Lib.tabData .u8 (Lib.deBruijn64tab.map λn:Nat=>(n:Int)):=by rfl
 rw[J] at hd;have T:=Lib.cells_of_tab Tryz.underlying369 Tryz.underlying5 eS eS hd;have O:Lib.TabIs Tryz.prog W "math/bits.deBruijn64tab" .u8 (Lib.deBruijn64tab.map λn:Nat=>(n:Int)):=by
  unfold Lib.TabIs;rw[I,<-T]
 intro j hj;have:=O.cell gT64 j (by simpa using hj);rw[this];simp[List.getD,hj]
theorem GN {W:World} (J:handlesMet Tryz.prog [("errors.errorType",Rows.laid_errors_errorType)] W):W.cell? ⟨0,0,none⟩=some (.iface 296 (.agg #[.pointer (some ⟨Tryz.prog.globals.size,62,none⟩)])):=by
 obtain⟨name,u,K,e1,e2,e3,e4,E⟩:=J _ (List.mem_singleton.2 rfl);have O:name=[101,114,114,111,114]:=(Option.some.inj e1).symm;subst O;obtain rfl:=Option.some.inj (rtypeIs.symm.trans e2);have I:K∈(List.range Tryz.prog.types.size).filter λt=>Tryz.prog.rowNamed t [101,114,114,111,114]:=List.mem_filter.2 ⟨List.mem_range.2 e3,e4⟩;rw[Nc] at I;obtain rfl:=List.mem_singleton.1 I;have T:typeHandle Tryz.prog 62=.pointer (some ⟨Tryz.prog.globals.size,62,none⟩):=by kernel_rfl
 rw[T] at E;simpa using World.var?_cell gErr E 0
theorem gPow:Tryz.prog.globalNamed "internal/strconv.uint64pow10"=some 5:=by kernel_rfl
theorem gPowType:(Tryz.prog.globals[5]?).map (·.type)=some 384:=by kernel_rfl
theorem gSyn:Tryz.prog.globalNamed "strconv.ErrSyntax"=some 1:=by kernel_rfl
theorem JN:(Tryz.prog.globals[1]?).map (·.type)=some 62:=by kernel_rfl
theorem _root_.Go.laidMet.head1 {P:Program} {x:String×DataW Unit} {r:List (String×DataW Unit)} {w:World} (h:laidMet P (x::r) w):laidMet P [x] w:=by
 obtain⟨ps,O,hnd,I⟩:=h;obtain⟨n,d⟩:=x;obtain⟨g,t,cs,J,p,q,T,Y,h3,h4,hq,rfl⟩:=O;have E:(MemPlace.row ⟨g,0,none⟩ cs.size++p++[]).Sublist (MemPlace.row ⟨g,0,none⟩ cs.size++p++q):=by
  rw[List.append_nil];exact List.sublist_append_left _ _
 exact⟨MemPlace.row ⟨g,0,none⟩ cs.size++p++[],⟨g,t,cs,J,p,[],T,Y,h3,h4,rfl,rfl⟩,List.Nodup.sublist E hnd,λb off K=>I b off (E.subset K)⟩
theorem Jf {W:World} (h:laidMetH Tryz.prog wk W):laidMet Tryz.prog [("internal/strconv.uint64pow10",Rows.laid_internal_strconv_uint64pow10)] W:=
 (py h).1.tail.tail.head1
theorem IQ {W:World} (h:laidMetH Tryz.prog wk W):laidMet Tryz.prog [("strconv.ErrSyntax",Rows.laid_strconv_ErrSyntax)] W:=
 (py h).1.tail.tail.tail.tail
theorem M9 {W:World} (Y:laidMet Tryz.prog [("internal/strconv.uint64pow10",Rows.laid_internal_strconv_uint64pow10)] W):Lib.TabIs Tryz.prog W "internal/strconv.uint64pow10" .u64 Lib.pow10Tab:=by
 obtain⟨ps,E,_⟩:=Y;obtain⟨g,t,cs,O,p,q,hg,ht,I,T,_,_⟩:=E;obtain rfl:=Option.some.inj (gPow.symm.trans hg);obtain rfl:=Option.some.inj (gPowType.symm.trans ht);have J:(Rows.laid_internal_strconv_uint64pow10:DataW Unit)=Lib.tabData .u64 Lib.pow10Tab:=by rfl
 rw[J] at T;have K:=Lib.cells_of_tab Tryz.underlying384 Tryz.underlying36 eS eS T;unfold Lib.TabIs;rw[I,<-K]
theorem MQ {W:World} (h:laidMet Tryz.prog [("strconv.ErrSyntax",Rows.laid_strconv_ErrSyntax)] W):∃t p,W.cell? ⟨1,0,none⟩=some (.iface t p):=by
 have E:∀u,Tryz.prog.typeName? 3 u=some "*errors.errorString"->u=361:=λu h=>typeName_ptr_named (nm:= "errors.errorString") (by rw[show "*"++ "errors.errorString"= "*errors.errorString" by decide];kernel_rfl) eS fh u (by rw[show "*"++ "errors.errorString"= "*errors.errorString" by decide];exact h);obtain⟨K,s0,I,-,-,-⟩:=laid_sentinel h gSyn JN Tryz.underlying62 E Tryz.underlying361 Tryz.underlying363 rfl rfl Tryz.underlying9 eS eS;exact⟨_,_,by have J:=World.var?_cell gSyn I 0;simpa using J⟩
abbrev fixedAt:List Nat:=[4,0,1,5]
section
variable {W w:World}
noncomputable def ny (W:World):Env:=⟨W.os,W.tape,W.output,fixedAt.filterMap λg=>(W.heap[g]?).map λo=>(g,o)⟩
theorem Ak (W:World):(ny W).is W:=by
 refine⟨rfl,rfl,rfl,λp I=>?_⟩;unfold ny at I;obtain⟨g,_,E⟩:=List.mem_filterMap.1 I;cases ho:W.heap[g]? with
 | none=>rw[ho] at E;cases E
 | some o=>
  rw[ho] at E;injection E with E;subst E;exact ho
theorem vq (h:(ny W).is w) {b:Nat} (J:b∈fixedAt) (I:b<W.heap.size):w.heap[b]?=W.heap[b]?:=by
 obtain⟨ob,E⟩:∃ob,W.heap[b]?=some ob:=⟨_,Array.getElem?_eq_getElem I⟩;have K:(b,ob)∈(ny W).fixed:=by
  unfold ny;exact List.mem_filterMap.2 ⟨b,J,by rw[E];rfl⟩
 have:=h.fixed _ K;rw[this,E]
theorem rk (h:(ny W).is w) {b o:Nat} {v:Value} (I:b∈fixedAt) (E:W.cell? ⟨b,o,none⟩=some v):w.cell? ⟨b,o,none⟩=some v:=by
 have:=vq h I (World.block_lt_of_cell? _ _ E);rw[<-E];simp only[World.cell?,this]
theorem Cb (h:(ny W).is w) {n:String} {k:IntKind} {zs:List Int} {g:Nat} (K:Tryz.prog.globalNamed n=some g) (O:g∈fixedAt) (E:Lib.TabIs Tryz.prog W n k zs):Lib.TabIs Tryz.prog w n k zs:=by
 unfold Lib.TabIs World.var? at E ⊢;rw[K] at E ⊢;simp only[Option.bind_some] at E ⊢;have J:g<W.heap.size:=by
  refine Nat.lt_of_not_le λI=>?_;rw[Array.getElem?_eq_none I] at E;cases E
 rw[vq h O J];exact E
theorem Lx (h:laidMetH Tryz.prog wk W):Go.Y.Good (ny W):=by
 obtain⟨I,J⟩:=py h;obtain⟨t,p,K⟩:=MQ (IQ h);exact⟨λw hw j E=>rk hw fh (MN I j E),λw hw=>rk hw fh (GN J),λw hw=>⟨t,p,rk hw fh K⟩,λw hw=>Cb hw gPow fh (M9 (Jf h))⟩
theorem Gives.run {f:FuncId} {args:Array Value} {φ:World->Prop} {R:Value->List HP->Prop} (h:Gives Tryz.prog Go.Y.Good f args φ R) (E:laidMetH Tryz.prog wk W) (I:φ W):Calls Tryz.prog f args W λe J=>∃v m,e=.returned v/\R v m/\Below W.heap.size W J:=
 (h (ny W) W (Lx E) (Ak W) I).mono λe w' ⟨v,m,K,O,T⟩=>⟨v,m,K,O,by
  have Y:Sel (SL.old (ny W) W) (m++[SL.old (ny W) W]) (m++[]):=Sel.app' m;exact T.old Y (Ak W)⟩
where
 Sel.app':∀(m:List HP) {p:HP},Sel p (m++[p]) (m++[])
 | [],_=>.head
 | _::m,_=>.tail (Sel.app' m)
def lay64:Obj->Obj
 | .cells _ t E=>.cells #[.int .u8 0,.int .u8 1,.int .u8 56,.int .u8 2,.int .u8 57,.int .u8 49,.int .u8 28,.int .u8 3,.int .u8 61,.int .u8 58,.int .u8 42,.int .u8 50,.int .u8 38,.int .u8 29,.int .u8 17,.int .u8 4,.int .u8 62,.int .u8 47,.int .u8 59,.int .u8 36,.int .u8 45,.int .u8 43,.int .u8 51,.int .u8 22,.int .u8 53,.int .u8 39,.int .u8 33,.int .u8 30,.int .u8 24,.int .u8 18,.int .u8 12,.int .u8 5,.int .u8 63,.int .u8 55,.int .u8 48,.int .u8 27,.int .u8 60,.int .u8 41,.int .u8 37,.int .u8 16,.int .u8 46,.int .u8 35,.int .u8 44,.int .u8 21,.int .u8 52,.int .u8 32,.int .u8 23,.int .u8 11,.int .u8 54,.int .u8 26,.int .u8 40,.int .u8 15,.int .u8 34,.int .u8 20,.int .u8 31,.int .u8 10,.int .u8 25,.int .u8 14,.int .u8 19,.int .u8 9,.int .u8 13,.int .u8 8,.int .u8 7,.int .u8 6] t E
 | o=>o
def lay32:Obj->Obj
 | .cells _ t E=>.cells #[.int .u8 0,.int .u8 1,.int .u8 28,.int .u8 2,.int .u8 29,.int .u8 14,.int .u8 24,.int .u8 3,.int .u8 30,.int .u8 22,.int .u8 20,.int .u8 15,.int .u8 25,.int .u8 17,.int .u8 4,.int .u8 8,.int .u8 31,.int .u8 27,.int .u8 13,.int .u8 23,.int .u8 21,.int .u8 19,.int .u8 16,.int .u8 7,.int .u8 26,.int .u8 12,.int .u8 18,.int .u8 6,.int .u8 11,.int .u8 5,.int .u8 10,.int .u8 9] t E
 | o=>o
noncomputable def Nj:Obj->Obj
 | .cells _ t E=>.cells #[.iface 296 (.agg #[.pointer (some ⟨Tryz.prog.globals.size,62,none⟩)])] t E
 | o=>o
def Ni:Obj->Obj
 | .cells _ t E=>.cells #[.int .u64 1,.int .u64 10,.int .u64 100,.int .u64 1000,.int .u64 10000,.int .u64 100000,.int .u64 1000000,.int .u64 10000000,.int .u64 100000000,.int .u64 1000000000,.int .u64 10000000000,.int .u64 100000000000,.int .u64 1000000000000,.int .u64 10000000000000,.int .u64 100000000000000,.int .u64 1000000000000000,.int .u64 10000000000000000,.int .u64 100000000000000000,.int .u64 1000000000000000000,.int .u64 10000000000000000000] t E
 | o=>o
end
abbrev rngS:ByteArray:={data:=#[118,97,108,117,101,32,111,117,116,32,111,102,32,114,97,110,103,101]}
abbrev synS:ByteArray:={data:=#[105,110,118,97,108,105,100,32,115,121,110,116,97,120]}
noncomputable def low:Nat:=(World.holding Tryz.prog default ⟨#[],#[],[]⟩).heap.size
noncomputable def Fb (b:Nat):Obj->Obj
 | .cells _ t E=>.cells #[.iface 361 (.pointer (some ⟨b,0,none⟩))] t E
 | o=>o
noncomputable def kV (os:Os):World:=
 let E:=World.holding Tryz.prog os ⟨#[.cells #[.string rngS] 363,.cells #[.string synS] 363],#[],[]⟩
 {E with heap:=(((((E.heap.modify 4 lay64).modify 3 lay32).modify 0 Nj).modify 5 Ni).modify 2 (Fb low)).modify 1 (Fb (low+1))}
theorem JC (os:Os) (args:Array Value) (E:laidMet Tryz.prog Hy ((kV os).forCall (λ_ _=>0) ⟨#[],args,[]⟩).memory) (I:([("errors.errorType",(Rows.laid_errors_errorType:DataW Unit))].all (handleAtB Tryz.prog ((kV os).forCall (λ_ _=>0) ⟨#[],args,[]⟩).memory))=true) :
 laidMetH Tryz.prog wk ((kV os).forCall (λ_ _=>0) ⟨#[],args,[]⟩).memory:=
 laidMetH_of_parts E I
theorem qv {a:Assume} {C:Checked} {os:Os} {f:FuncId} {r:Reach} {J:World->Array Value->Prop} {E:World->Array Value->Value->World->Prop} (h:ReturnsInHanded a C os f r J E):ReturnsInLeavingWide a C os f r J E:=
 λI=>ReturnsInOpen.mono (λ_ _ _ x=>⟨x.2.1,onlyLeaving_of_quiet x.1,x.2.2⟩) (λ_ x=>x) (h I)
theorem sE (O:Looks) {p:Pinned} {s:OpenSpec} {c:OpenClaim} (kinds:List LaidKind) (E:Bool) (I:Bool×String) (J:Bool)
 (hc:c.holds p s) (hw:c.wfByText s=true) (K:c.laidByTextAt O p kinds E)
 (T:c.start=.entering) (Y:c.noBlocks=false/\c.again=false) (hm:p.checked.prog.mainIs=some (I.1,I.2.toList)) (hn:(!I.1&&I.2.isEmpty&&!J)=false)
 (hl:∀f fn,p.checked.prog.funcNamed c.func=some f->p.checked.prog.funcs[f]?=some fn->J=p.checked.prog.looks []/\∀(j:Nat) t,fn.params[j]?=some t->p.checked.prog.wantsStandIn t=false)
 (hg:true=c.goesBy p.checked.prog) :
 Claim7.holds p (.plain s) {stood:={row:=c,standIns:=[],harness:=I,looks:=J},kinds:=[],alts:=[],goes:=true,laidByText:=true,laidKinds:=kinds,laidTests:=E,laidLooks:=O}:=by
 have h6:∀r:OpenClaim,Claim7.isSixth {stood:={row:=r,standIns:=[],harness:=I,looks:=J},kinds:=[]}=false:=λr=>by simpa[Claim7.isSixth] using hn
 exact⟨Claim7.tied_new_at O kinds E (Claim7.new_of_sixth hc I J T Y hm (h6 c) hl) hw,(λD hD=>by cases hD),K,fX,hg⟩
end Go.Proofs.YtncdhfckklfhdaaGreatDoor

namespace Go.Proofs.YtncdhfckklfhdaaGreatDoor
open Go Go.RowKit Go.Deep Go.ChangeShapes Go.WideShapes Go.ChangeAt Go.SL Go.Y
theorem xo:Tryz.prog.cellsOf 48=9:=by kernel_rfl
theorem Hh:Tryz.prog.cellsOf 31=4:=by kernel_rfl
theorem Kf:Tryz.prog.cellsOf 36=1:=by kernel_rfl
theorem Kg:Tryz.prog.cellsOf 9=1:=by kernel_rfl
theorem Hk:Tryz.prog.bytesOf 48=96:=by kernel_rfl
theorem uO:Tryz.prog.underlying 22=some (.slice 48):=Tryz.underlying22
theorem Hj (b:ByteArray):b.data.toList.length=b.size:=by rw[Array.length_toList];rfl
instance:Inhabited FK.Stp:=⟨⟨0,0,0,none,0,[],.empty,0,0,0,0⟩⟩
theorem list9 {α:Type} {l:List α} (h:l.length=9):∃a b c d e f g i j,l=[a,b,c,d,e,f,g,i,j]:=by
 match l,h with
 | [a,b,c,d,e,f,g,i,j],_=>exact⟨a,b,c,d,e,f,g,i,j,rfl⟩
theorem list5 {α:Type} {l:List α} (h:l.length=5):∃a b c d e,l=[a,b,c,d,e]:=by
 match l,h with
 | [a,b,c,d,e],_=>exact⟨a,b,c,d,e,rfl⟩
theorem list4 {α:Type} {l:List α} (h:l.length=4):∃a b c d,l=[a,b,c,d]:=by
 match l,h with
 | [a,b,c,d],_=>exact⟨a,b,c,d,rfl⟩
theorem list2 {α:Type} {l:List α} (h:l.length=2):∃a b,l=[a,b]:=by
 match l,h with
 | [a,b],_=>exact⟨a,b,rfl⟩
theorem Gx {n:Int} (h:(Lit.int .u64 n).wf=true):∃k:Nat,k<18446744073709551616/\n=(k:Int):=by
 have E:=bounds_u64 h;exact⟨n.toNat,am,am⟩
section
variable {H:Type} {enc:TypeId×Value->H} {w:World}
theorem Gr {J:Nat} {cs:List Value} {y:DataW H×List MemPlace} (h:DataW.trod enc Tryz.prog w 0 (λ_=>true) true J 48 cs=some y) :
 ∃x:FK.Stp,cs=iH x/\(x.n<18446744073709551616/\i64 x.l/\i64 x.fu/\i64 x.pa)/\NodesAt w w.heap.size x.A x.c x.NO/\((y.1.weights Tryz.prog 48).all (·<=reachBytes)=true->qe x.NO/\x.s.size<=140737488355328):=by
 obtain⟨xs,n,_,hy,K,Y,O⟩:=DataW.trod_struct Tryz.underlying48 h;obtain⟨v0,v1,v2,v3,v4,v5,v6,v7,v8,rfl⟩:=list9 (K.trans xo);obtain⟨y0,y1,y2,y3,y4,rfl⟩:=list5 (l:=xs) Y;have g0:DataW.trod enc Tryz.prog w 0 (λ_=>true) true n 3 [v0]=some y0:=by have:=O 0 _ rfl;simpa[gx] using this
 have g1:DataW.trod enc Tryz.prog w 0 (λ_=>true) true n 36 [v1]=some y1:=by have:=O 1 _ rfl;simpa[Kf] using this
 have g2:DataW.trod enc Tryz.prog w 0 (λ_=>true) true n 46 [v2,v3]=some y2:=by have:=O 2 _ rfl;simpa[Hg] using this
 have g3:DataW.trod enc Tryz.prog w 0 (λ_=>true) true n 9 [v4]=some y3:=by have:=O 3 _ rfl;simpa[Kg] using this
 have g4:DataW.trod enc Tryz.prog w 0 (λ_=>true) true n 31 [v5,v6,v7,v8]=some y4:=by have:=O 4 _ rfl;simpa[Hh] using this
 obtain⟨a0,e0,_,w0⟩:=DataW.trod_int Tryz.underlying3 g0;obtain⟨a1,e1,_,w1⟩:=DataW.trod_int Tryz.underlying36 g1;obtain⟨a3,e3,hs,w3⟩:=DataW.trod_string Tryz.underlying9 g3;obtain⟨zs,m,_,hz,_,d6,hf⟩:=DataW.trod_struct Tryz.underlying46 g2;obtain⟨z0,z1,rfl⟩:=list2 (l:=zs) d6;have f0:DataW.trod enc Tryz.prog w 0 (λ_=>true) true m 3 [v2]=some z0:=by have:=hf 0 _ rfl;simpa[gx] using this
 have f1:DataW.trod enc Tryz.prog w 0 (λ_=>true) true m 44 [v3]=some z1:=by have:=hf 1 _ rfl;simpa[Ep] using this
 obtain⟨a2,e2,_,w2⟩:=DataW.trod_int Tryz.underlying3 f0;obtain⟨A,c,l,rfl,hn,hw⟩:=yA f1;obtain⟨us,k,_,hu,_,d7,hk⟩:=DataW.trod_struct Tryz.underlying31 g4;obtain⟨z5,z6,z7,z8,rfl⟩:=list4 (l:=us) d7;have k0:DataW.trod enc Tryz.prog w 0 (λ_=>true) true k 3 [v5]=some z5:=by have:=hk 0 _ rfl;simpa[gx] using this
 have k1:DataW.trod enc Tryz.prog w 0 (λ_=>true) true k 3 [v6]=some z6:=by have:=hk 1 _ rfl;simpa[gx] using this
 have k2:DataW.trod enc Tryz.prog w 0 (λ_=>true) true k 3 [v7]=some z7:=by have:=hk 2 _ rfl;simpa[gx] using this
 have k3:DataW.trod enc Tryz.prog w 0 (λ_=>true) true k 3 [v8]=some z8:=by have:=hk 3 _ rfl;simpa[gx] using this
 obtain⟨b0,q0,_,u0⟩:=DataW.trod_int Tryz.underlying3 k0;obtain⟨b1,q1,_,u1⟩:=DataW.trod_int Tryz.underlying3 k1;obtain⟨b2,q2,_,u2⟩:=DataW.trod_int Tryz.underlying3 k2;obtain⟨b3,q3,_,u3⟩:=DataW.trod_int Tryz.underlying3 k3;simp only[List.cons.injEq,and_true] at e0 e1 e2 e3 q0 q1 q2 q3;subst e0 e1 e2 e3 q0 q1 q2 q3;obtain⟨a1,d8,rfl⟩:=Gx w1;refine⟨⟨a0,a1,a2,A,c,l,a3,b0,b1,b2,b3⟩,rfl,⟨d8,gT u0,gT u1,gT u3⟩,hn,λT=>?_⟩;rw[hy] at T;simp only[DataW.weights,Tryz.underlying48,List.map_cons,List.map_nil,DataW.weightsEach,List.all_append,Bool.and_eq_true] at T;obtain⟨-,-,I,E,-⟩:=T;rw[hz] at I;simp only[DataW.weights,Tryz.underlying46,List.map_cons,List.map_nil,DataW.weightsEach,List.all_append,Bool.and_eq_true] at I;refine⟨hw I.2.1,?_⟩;rw[hs] at E;simp only[DataW.weights,List.all_cons,List.all_nil,Bool.and_true,decide_eq_true_eq] at E;rw[Hj] at E;unfold reachBytes at E;show a3.size<=_;omega
theorem yz {d8:Nat} {v:Value} {y:DataW H×List MemPlace} (h:DataW.trod enc Tryz.prog w 0 (λ_=>true) true d8 22 [v]=some y) :
 ∃A c l,v=.slice A l.length c/\((y.1.weights Tryz.prog 22).all (·<=reachBytes)=true->StepsAt w w.heap.size A c l):=by
 rcases open_slice uO h with⟨E,J⟩|⟨a,len,cap,m,n,D,Pl,E,_,hl,hm,t6,J,hi⟩
 · simp at E;subst E
   exact⟨none,0,[],rfl,λ_=>⟨by simp,by simp,by simp,by simp,by simp⟩⟩
 · simp at E;subst E
   simp only[if_true] at t6;subst t6;rw[xo] at hi;have BT:∀i,i<len->∃x:FK.Stp,((x.n<18446744073709551616/\i64 x.l/\i64 x.fu/\i64 x.pa)/\NodesAt w w.heap.size x.A x.c x.NO/\(((D i).weights Tryz.prog 48).all (·<=reachBytes)=true->qe x.NO/\x.s.size<=140737488355328))/\∃b off,a=⟨b,off,none⟩/\b<w.heap.size/\∀j u,(iH x)[j]?=some u->w.cell? ⟨b,off+i*9+j,none⟩=some u:=by
    intro i NU;obtain⟨d9,K,h2⟩:=hi i am;obtain⟨_,In,f7⟩:=World.cells?_some K;have h0:=f7 0 am;have hv:d9[0]?=some (d9[0]'am):=List.getElem?_eq_getElem _;rw[hv,add_add] at h0;obtain⟨b',f8,f9,LE⟩:=ju h0;have d6:∃b off,a=⟨b,off,none⟩:=by
     obtain⟨LT,t7,_⟩:=hi 0 am;obtain⟨_,NT,mt⟩:=World.cells?_some t7;have d7:=mt 0 am;rw[add_add] at d7;have e:a.add (0*9+0)=a:=by simp[Addr.add]
     rw[e,List.getElem?_eq_getElem am] at d7;obtain⟨b,off,e,_⟩:=ju d7;exact⟨b,off,e⟩
    obtain⟨b,off,rfl⟩:=d6;have Fd:b<w.heap.size:=by
     rw[Go.Y.add_plain] at f9;injection f9 with e1 _ _;omega
    obtain⟨x,rfl,t8⟩:=Gr h2;refine⟨x,t8,b,off,rfl,Fd,λj u hu=>?_⟩;have hj:j<9:=by have:=(gfGet.1 hu).1;simpa using this
    have:=f7 j hj;rw[add_add,Go.Y.add_plain] at this;rw[Nat.add_assoc,this];exact hu
   obtain⟨V,hV⟩:=choose_lt BT;have O:((List.range len).map V).length=len:=by simp
   have T:∀i n,((List.range len).map V)[i]?=some n->i<len/\n=V i:=λi n hn=>by
    obtain⟨K,h2⟩:=gfGet.1 hn;simp at K h2;exact⟨K,h2.symm⟩
   have Y:∀x∈(List.range len).map V,∃i,i<len/\x=V i:=λx J=>by
    obtain⟨i,wf⟩:=List.getElem?_of_mem J;exact⟨i,T i x wf⟩
   refine⟨some a,m,(List.range len).map V,by rw[O],λhR=>?_⟩;rw[J] at hR;simp only[DataW.weights,uO] at hR;simp only[List.all_cons,List.all_append,Bool.and_eq_true,decide_eq_true_eq,List.length_map,List.length_range,Hk] at hR;obtain⟨K,h2,_⟩:=hR;refine⟨λx J=>?_,λx J=>?_,am,?_,λh0=>?_⟩
   · obtain⟨i,I,rfl⟩:=Y x J
     obtain⟨h4,h5,h6⟩:=(hV i I).1;obtain⟨h7,h8⟩:=h6 (lY (i:=i) (d:=D i) h2 (by simp[I]));exact⟨h7,h8,h4⟩
   · obtain⟨i,I,rfl⟩:=Y x J
     exact(hV i I).1.2.1
   · rw[O]
     unfold reachBytes at K;have:=Nat.mul_le_mul_right 96 (Nat.le_add_right len (m-len));omega
   · obtain⟨_,b,off,rfl,hb,_⟩:=hV 0 am
     refine⟨b,off,rfl,hb,λi n hn=>?_⟩;obtain⟨K,rfl⟩:=T i n hn;obtain⟨_,b',f8,e,_,hnd⟩:=hV i K;injection e with e1 e2 _;subst e1 e2;exact hnd
theorem Dy {r:Reach} {J:Nat} {v:Value} {d:DataW H} {p:List MemPlace} (K:Value.okWide Tryz.prog w r J 22 v) (h:DataW.Trod enc Tryz.prog w 0 (λ_=>true) true 22 v d p) :
 ∃A c l,v=.slice A l.length c/\((d.weights Tryz.prog 22).all (·<=reachBytes)=true->StepsAt w w.heap.size A c l):=by
 obtain⟨E,I⟩:=h;obtain⟨a,n,k,rfl⟩:=okWide_slice Tryz.underlying22 K;have hc:(Value.slice a n k).cells.toList=[.slice a n k]:=by simp[Value.cells]
 rw[hc] at I;exact yz I
end
open Go Go.Y
theorem Dg:mapsRowed Tryz.prog=true:=by kernel_rfl
theorem GH:(false==Tryz.prog.plainKeys)=true:=by kernel_rfl
theorem vM:Tryz.prog.stopsHeard=true:=by kernel_rfl
theorem J5:Tryz.prog.mayEnter=true:=by kernel_rfl
theorem Jy:(Rows.keptRow.lifted==Tryz.prog.liftsFinal)=true:=by kernel_rfl
theorem Nh:(Tryz.prog.make==some Rows.keptRow.make)=true:=by kernel_rfl
theorem GJ {P:Program} {f:FuncId} {E:Func} {s:ChangeSpec} {c:OpenClaim}
 (h1:(c.wf (OpenSpec.ofChange s))=true)
 (h2:(laidOutB P)=true)
 (h3:(mapsRowed P)=true)
 (h4:(E.params.all (P.readableRec ·))=true)
 (h5:(namedTie P c.named s.vars)=true)
 (h6:((c.stops==[]))=true)
 (h7:((P.stops==[]))=true)
 (h8:((c.knobs==[]))=true)
 (h9:((P.stopKnobs==[]))=true)
 (I:((c.inPlace==P.inPlace f))=true)
 (J:((c.unfollowed==P.unfollowed f))=true)
 (K:((c.recurses==P.recurses f))=true)
 (O:((c.named==P.varsNamed f))=true)
 (T:((c.maps==(E.params.toList++s.plain.varTypes P).any (P.mapsRec ·)))=true)
 (Y:((c.ifaces==(E.params.toList++s.plain.varTypes P).any (P.ifacesRec ·)))=true)
 (d6:((c.mapsOut==P.mapsAmong E.resultTypes.toList))=true)
 (d7:((c.loops==(E.params.toList++s.plain.varTypes P).any (P.loopsFrom ·)))=true)
 (d8:((c.wideKeys==(E.params.toList++s.plain.varTypes P++E.resultTypes.toList).any (P.wideKeysFrom ·)))=true)
 (d9:(s.vars.all (P.varReadable ·))=true)
 (f7:(E.resultTypes.all (λt=>P.readableRec t&&decide (t<P.types.size)))=true)
 (f8:((c.ifacesOut==E.resultTypes.toList.any (P.ifacesRec ·)))=true)
 (f9:((c.loopsOut==E.resultTypes.toList.any (P.loopsFrom ·)))=true)
 (mt:((c.plainKeys==P.plainKeys))=true)
 (t6:(c.shortTexts.isNone)=true)
 (t7:(P.stopsHeard)=true)
 (t8:(P.mayEnter)=true)
 (wf:((c.lifted==P.liftsFinal))=true)
 (BT:((P.make==some c.make))=true)
 (Fd:((c.kinds==(if c.domain.isEmpty then[] else E.params.toList.map λt=>match P.underlying t with|some (.int k)=>some k|_=>none)))=true)
 (In:((c.pinned==c.pinnedBy))=true)
 (LE:((c.veiled==(E.params.toList++s.plain.varTypes P++E.resultTypes.toList).any (P.veiledRec ·)))=true)
 (LT:(c.veiledFits P E.params.toList (E.params.toList++s.plain.varTypes P++E.resultTypes.toList))=true):joinedFacts P f E s c=true:=by
 unfold joinedFacts;simp only[Bool.and_eq_true];exact⟨⟨⟨⟨⟨⟨⟨⟨⟨⟨⟨⟨⟨⟨⟨⟨⟨⟨⟨⟨⟨⟨⟨⟨⟨⟨⟨⟨⟨⟨⟨h1,h2⟩,h3⟩,h4⟩,h5⟩,h6⟩,h7⟩,h8⟩,h9⟩,I⟩,J⟩,K⟩,O⟩,T⟩,Y⟩,d6⟩,d7⟩,d8⟩,d9⟩,f7⟩,f8⟩,f9⟩,mt⟩,t6⟩,t7⟩,t8⟩,wf⟩,BT⟩,Fd⟩,In⟩,LE⟩,LT⟩
end Go.Proofs.YtncdhfckklfhdaaGreatDoor
