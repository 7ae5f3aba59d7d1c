/- The engine's clock moved: Pop by the engine; Cancel. -/
import Derived.Test.YtncdhfckklfhdaaGreatDoorKeG
import Derived.Test.YtncdhfckklfhdaaGreatDoorKeF
import Derived.Test.YtncdhfckklfhdaaGreatDoorKeE
import Derived.Laws.BitsAllLaws
import Derived.Test.YtncdhfckklfhdaaGreatDoorKeA
import Derived.WalkKit
import Derived.Laws.IdiomStrings
import Derived.Shelf.Strconv.Itoa3
import Derived.Shelf.Strconv.AtoiErr
import Derived.Test.YtncdhfckklfhdaaGreatDoorChecked
import Derived.Lib.ItoaLen
import Derived.Lib.ItoaMem
import Derived.Lib.AppendIntMem
import Derived.Test.YtncdhfckklfhdaaGreatDoorKeB
set_option linter.defProp false
set_option maxHeartbeats 4000000
set_option maxRecDepth 10000
variable{G:Go.SL.Env->Prop}{bs:List UInt8}{P:List (Nat×ByteArray)}{A:Option Go.Addr}{ts:List (Nat×Go.Value)}{S:FK.En}{Q:Go.Exit->Go.Act->Go.World->Prop}{M:List (ByteArray×Nat)}{b c d e h i id j k n:Nat}{g:Option (Nat×Bool)}{p:Go.Y.EA}{l r:List Go.SL.HP}{x:Go.Operand}{E:Go.SL.Env}{D:List Go.Deferred}{af:Array Go.Edge}{R:FK.Rn}{s:ByteArray}{ty:Go.TypeId}{f:FK.Flow}{v:Go.Value}{wh:Int}{K V:Type}
namespace Go.Y
open Go.Proofs Tryz Go.RowKit Go.SL
def EX(up:Nat)(T:S.now<=up)(J:up<=4611686018427387904)(Y:S.sets<9223372036854775808)(d6:S.tms.length<=99999) :
 dS 201 [aY p.w,cd up] [aP e p S] λv m=>(∃(x:FK.KD) (E:List FK.KD),FK.IsMin S.tms x E/\x.2<=up/\v=.tuple #[jj x.1,cd x.2,.bool true]/\m=[aP e p {S with now:=x.2,tms:=E}])\/
  ((∀y∈S.tms,up<y.2)/\v=.tuple #[jj ⟨0,0,0⟩,cd 0,.bool false]/\m=[aP e p {S with now:=up}]):=by
 refine m5 λW I=>(Jg p.w up I.inv (by rw[I.now];exact T) J (Nat.lt_of_le_of_lt I.seq Y) (by have:=congrArg List.length I.tms;rw[List.length_map]at this;omega)).mono ?_;rintro v m (⟨S',x,K,O,h3,h4,h5,rfl,rfl⟩|⟨S',K,O,h3,h4,h5,rfl,rfl⟩)
 ·rw[I.tms]at K
  exact⟨_,⟨S',x.2,S.sets,S'.tms.map FK.kd,rfl,⟨h4,h5▸I.seq,h3,rfl⟩,.inl ⟨x,_,K,O,rfl,rfl⟩⟩,aQ⟩
 ·rw[I.tms]at K O
  exact⟨_,⟨S',up,S.sets,S.tms,rfl,⟨h4,h5▸I.seq,h3,O⟩,.inr ⟨K,rfl,rfl⟩⟩,aQ⟩
def Cf(J:S.getR id=some R)(K:R.NN.length<=100)(O:S.NP.length<=400)(T:S.tms.length<=99999)(I:S.ends<9223372036854775807):dz G 153 [aY e,aU id] [aP e p S] λv m=>v=.tuple #[]/\m=[aP e p (S.finish id 4)]:=by
 refine bz func153 Z λE fr Y=>ae<|sG<|sM Z<|sM Z<|bV Z (n9 J K O T I) aQ<|ae<|ap<|bt [_] rfl ⟨rfl,rfl⟩ aQ
end Go.Y
namespace FK
def xP(p:Nat×Nat)(c:UInt8):Nat×Nat:=((p.1+c.toNat)%65521,(p.2+(p.1+c.toNat)%65521)%65521)
def gJ(bs:List UInt8):Nat×Nat:=bs.foldl xP (1,0)
def jD(bs:List UInt8):Nat:=(gJ bs).2*65536+(gJ bs).1
def xv(bs:List UInt8):(gJ bs).1<65521/\(gJ bs).2<65521:=by
 have h:∀(l:List UInt8) (p:Nat×Nat),p.1<65521/\p.2<65521->(l.foldl xP p).1<65521/\(l.foldl xP p).2<65521:=by
  intro l
  induction l with
  |nil=>exact λp h=>h
  |cons c l E=>exact λp _=>E _ ⟨Nat.mod_lt _ am,Nat.mod_lt _ am⟩
 exact h bs (1,0) ⟨by decide,by decide⟩
end FK
namespace Go.Y
open Go.Proofs Tryz
open Go Go.RowKit Go.SL
def wu32{a:Nat}(h:a<4294967296):IntKind.u32.wrap (a:Int)=(a:Int):=by
 simp only[IntKind.wrap,IntKind.bits,IntKind.signed];simp;omega
def zx{p:HP}(c:Nat)(T:Reads p A bs)(hl:bs.length<=9223372036854775807):dz G 136 [.slice A bs.length c] [p] λv m=>v=.int .u32 (FK.jD bs)/\m=[p]:=by
 refine bz func136 Z λE fr hE=>ae<|sS<|sB Z<|sS<|sA Z<|sB Z<|sQ<|bp Z<|sP (bh Z Z)<|sM Z<|sN<|ai<|aO (X:=Nat) (λk=>[(9,aA k),(8,aA bs.length),(7,.slice A bs.length c),(3,.int .u32 (FK.gJ (bs.take k)).1),(4,.int .u32 (FK.gJ (bs.take k)).2)]) (λ_=>p::fr) (λk=>k<=bs.length) (λk=>bs.length-k) 0 (Nat.zero_le _) bW aQ ?_
 intro k hk;refine sS<|sP (bq Z Z Z)<|sN<|sQ<|aC Z (λK=>?_) λK=>?_
 ·have I:k<bs.length:=am;obtain⟨x,Y⟩:∃x,bs[k]?=some x:=⟨bs[k],by simp[I]⟩;obtain⟨g,o,hA⟩:=T.form (by intro h;rw[h]at I;simp at I);subst hA;have J:FK.gJ (bs.take (k+1))=FK.xP (FK.gJ (bs.take k)) x:=by rw[List.take_add_one,Y];unfold FK.gJ;rw[List.foldl_append];rfl
  obtain⟨h1,h2⟩:=FK.xv (bs.take k);have d6:x.toNat<256:=x.toNat_lt;refine aa<|sT<|sQ<|ai<|sS<|sP (aV (z:=1) Z Z Z Z I)<|bF (au (v:=zb x.toNat) Z) (λw hw=>by have:=T.at .head Z Y w hw;simpa using this)<|sB Z<|bp Z<|bY Z (cD (r:=(x.toNat:Int)) Z Z Z (wu32 am))<|sP (bH (r:=(((FK.gJ (bs.take k)).1+x.toNat:Nat):Int)) Z Z (wu32 am))<|sP (mK (r:=((((FK.gJ (bs.take k)).1+x.toNat)%65521:Nat):Int)) Z Z am (pP (b:=65521) am am))<|sB Z<|sG<|sM Z<|bY Z (bH (r:=(((FK.gJ (bs.take k)).2+((FK.gJ (bs.take k)).1+x.toNat)%65521:Nat):Int)) Z Z (wu32 am))<|sP (mK (r:=((((FK.gJ (bs.take k)).2+((FK.gJ (bs.take k)).1+x.toNat)%65521)%65521:Nat):Int)) Z Z am (pP (b:=65521) am am))<|sA Z<|ap<|al<|sT<|sG<|sP (dM Z Z)<|sM Z<|ap<|aH (k+1) I am ⟨rfl,rfl,rfl,by rw[J];rfl,by rw[J];rfl,trivial⟩ aQ
 ·have O:k=bs.length:=am;rw[O,List.take_length];obtain⟨h1,h2⟩:=FK.xv bs;refine aM<|aw<|az<|aq<|sT<|bp Z<|sP (nF (r:=(((FK.gJ bs).2*65536:Nat):Int)) Z Z am (by rw[<-wu32 (a:=(FK.gJ bs).2*65536) am];congr 1))<|sM Z<|sP (zm (r:=((FK.jD bs:Nat):Int)) Z Z (by
 rw[u32_or_nat _ _ am am];unfold FK.jD
 congr 1
 have:=Nat.two_pow_add_eq_or_of_lt (i:=16) (b:=(FK.gJ bs).1) am (FK.gJ bs).2;rw[Nat.mul_comm,<-this])) ?_
  exact sB Z<|an<|ar [_] rfl Z ec aQ
end Go.Y
namespace FK
def jA(s:Nat):List UInt8:=[UInt8.ofNat (s/16777216),UInt8.ofNat (s/65536),UInt8.ofNat (s/256),UInt8.ofNat s]
def frame(bs:List UInt8):List UInt8:=(dJ bs.length++bs)++jA (jD (dJ bs.length++bs))
end FK
namespace Go.Y
open Go.Proofs Tryz
open Go Go.RowKit Go.SL
def Reads.row(h:bs≠[]->∃g,A=some ⟨g,0,none⟩):Reads (dB (.slice A bs.length c) bs) A bs where
 form hb:=let⟨g,h⟩:=h hb;⟨g,0,h⟩
 cell w F hp b o hA j x hx:=by
  obtain⟨E,_⟩:=hp;obtain⟨g,I⟩:=h (by intro h;simp[h]at hx);rw[hA]at I;injection I with I;injection I with J K;subst J;subst K;subst hA;have:=E.cells (g:=b) rfl j (zb x.toNat) (by simp[dj,hx])
  rwa [add_plain]at this
def Reads.src{p:HP}(h:Reads p A bs)(s:Sel p l r):∀w,Holds E w l->nA A (dj bs) w:=λw hw T J j u K=>by
 simp only[dj,List.getElem?_map,Option.map_eq_some_iff]at K;obtain⟨x,O,rfl⟩:=K;obtain⟨b,o,I⟩:=h.form (by intro h;simp[h]at O);have:=h.at s I O w hw;rw[J]at I;injection I with I;subst I;rw[add_plain];exact this
def xA(s k:Nat):(s:Int).fdiv ((2:Int) ^ k)=((s/2 ^ k:Nat):Int):=by
 rw[Int.fdiv_eq_ediv_of_nonneg _ (Int.pow_nonneg am)];rw[show((2:Int) ^ k)=((2 ^ k:Nat):Int) from(Int.natCast_pow 2 k).symm]
 rfl
def fill4(a b c d:UInt8):Instr.fill (λi=>some (i*1,1)) (Array.map (λx=>(Value.int .u8 0).cells[x%(Value.int .u8 0).cells.size]!) (Array.range (4*1))) ((List.map (λx=>x.fst) [((0:Nat),Operand.tmp 16),(1,.tmp 19),(2,.tmp 22),(3,.tmp 24)]).zip (dj [a,b,c,d]))=some (dj [a,b,c,d]).toArray:=by
 have e1:Array.range (4*1)=#[0,1,2,3]:=rfl;rw[e1];simp[Instr.fill,Value.cells,dj]
theorem jI(m:Nat):IntKind.u8.wrap (m:Int)=((UInt8.ofNat m).toNat:Int):=by
 rw[<-zR];simp[IntKind.wrap,IntKind.bits,IntKind.signed]
theorem BS{p:HP}(c:Nat)(hp:Reads p A bs)(hA:A=none->bs=[])(hl:bs.length<=1099511627776):dz G 98 [.slice A bs.length c] [p] λv m=>m=[dB v (FK.frame bs),p]:=by
 refine bz func98 Z λE fr hE=>ae<|sS<|sB Z<|bp Z<|sP (bh Z Z)<|sP (cD (r:=((bs.length:Nat):Int)) Z Z Z (by rw[li];omega))<|bQ Z (rR cB [] bs.length am di) Ent.row0 ?_
 rintro v m rfl;refine ae ?_;rw[List.nil_append];have hN:(FK.dJ bs.length).length<=10:=gC am;refine sM Z<|dL rfl (ce rfl rfl kj rfl am rfl rfl (HasVal.sel (v:=v)) (news:=dj bs) (by rw[l7];omega) (λh=>by rw[hA h];rfl) (Reads.src hp bJ) (by intro u hu;obtain⟨x,_,rfl⟩:=List.mem_map.1 hu;rfl) gk am λd6 d8=>aN (HasVal.sel (v:=d6)) ?_)
 rintro J K rfl f1 f2 f3 f4 -
 refine ao (l':=dB (.slice J ((FK.dJ bs.length).length+bs.length) K) (FK.dJ bs.length++bs)::p::fr) ?_ ?_
 ·show Ent _ (row 5 1 _ (FK.dJ bs.length++bs).length (dj (FK.dJ bs.length++bs))::p::fr)
  rw[List.length_append,j8];exact aQ
 have O:(FK.dJ bs.length++bs).length=(FK.dJ bs.length).length+bs.length:=List.length_append;have I:FK.dJ bs.length++bs≠[]->∃g,J=some ⟨g,0,none⟩:=λd7=>by
  have hp:=List.length_pos_iff.2 d7;cases J with
  |none=>have:=(f1 rfl).1;omega
  |some ad=>obtain⟨g,rfl⟩:=f2 ad rfl;exact⟨g,rfl⟩
 rw[<-O];refine sB Z<|bp Z<|bV Z (zx K (Reads.row (c:=K) I) am) aQ<|ae<|sB Z<|sQ ?_
 obtain⟨X,hX⟩:∃X,X=FK.dJ bs.length++bs:=⟨_,rfl⟩;have Y:FK.frame bs=X++FK.jA (FK.jD X):=by rw[hX];rfl
 rw[<-hX]at O I ⊢;obtain⟨s,hs⟩:∃s,s=FK.jD X:=⟨_,rfl⟩;rw[<-hs]at Y ⊢;refine sG<|sM Z<|sM Z<|sP (gH (r:=((s/16777216:Nat):Int)) Z Z am (by exact xA s 24))<|sP (cD (r:=((UInt8.ofNat (s/16777216)).toNat:Int)) Z Z Z (jI _))<|sM Z<|sP (gH (r:=((s/65536:Nat):Int)) Z Z am (by exact xA s 16))<|sP (cD (r:=((UInt8.ofNat (s/65536)).toNat:Int)) Z Z Z (jI _))<|sM Z<|sP (gH (r:=((s/256:Nat):Int)) Z Z am (by exact xA s 8))<|sP (cD (r:=((UInt8.ofNat (s/256)).toNat:Int)) Z Z Z (jI _))<|bY Z (cD (r:=((UInt8.ofNat s).toNat:Int)) Z Z Z (jI _))<|sO (dw (m:=4) (z:=zb 0) (size:=1) (ps:=[(0,.tmp 16),(1,.tmp 19),(2,.tmp 22),(3,.tmp 24)]) (vs:=dj (FK.jA s)) (cs:=(dj (FK.jA s)).toArray) Z Z Z Z am am Z (fill4 _ _ _ _) λf7=>dL rfl (ce rfl rfl kj rfl am rfl rfl (HasVal.sel (v:=.slice J X.length K)) (news:=dj (FK.jA s)) rfl fX (Ma (λj u h=>by rw[Nat.zero_add];simpa using h)) (by intro u hu;obtain⟨x,_,rfl⟩:=List.mem_map.1 hu;rfl) gk am λT d9=>sB Z<|an<|ar [dB T (FK.frame bs),p] rfl Z Z ?_))
 rw[Y];show Ent _ (row 5 1 T (X++FK.jA s).length (dj (X++FK.jA s))::p::fr);rw[List.length_append,j8];exact Ent.cons Ent.drop
end Go.Y
namespace FK
def jF{K V:Type}[BEq K](m:List (K×V))(a:K)(v:V):List (K×V):=match m.findIdx? (·.1==a)with
 |some j=>m.set j (a,v)
 |none=>m++[(a,v)]
def fG{K V:Type}[BEq K](m:List (K×V))(a:K):Option V:=(m.find? (·.1==a)).map (·.2)
def yR{W:Type}[BEq K](m:List (K×V))(f:V->W)(a:K):(m.map λp=>(p.1,f p.2)).findIdx? (·.1==a)=m.findIdx? (·.1==a):=by
 induction m with
 |nil=>rfl
 |cons p m E=>simp only[List.map_cons,List.findIdx?_cons,E]
theorem GE{W:Type}[BEq K](m:List (K×V))(f:V->W)(a:K)(v:V):jF (m.map λp=>(p.1,f p.2)) a (f v)=(jF m a v).map λp=>(p.1,f p.2):=by
 unfold jF;rw[yR];cases m.findIdx? (·.1==a)with
 |none=>simp
 |some j=>simp[List.map_set]
structure DOp where
 kind:Int
 name:ByteArray
 data:ByteArray
abbrev ph:=List (ByteArray×ByteArray)
structure Dsk where
 dur:ph
 now:ph
 pend:List DOp
 left:Int
 full:Int
 down:Bool
def fx(fs:ph)(o:DOp):ph:=if o.kind=2 then jF fs o.name (match fG fs o.name with|some w=>w++o.data|none=>o.data) else if o.kind=1 then jF fs o.name o.data else if o.kind=3 then fs.eraseP (·.1==o.name) else fs
def Dsk.writes(d:Dsk):Dsk×Int:=if d.down=true\/d.left=0 then({d with down:=true},11) else if d.full=0 then({d with left:=Go.IntKind.i64.wrap (d.left-1),full:=-1},10) else({d with left:=Go.IntKind.i64.wrap (d.left-1),full:=Go.IntKind.i64.wrap (d.full-1)},0)
def Dsk.tell(d:Dsk)(o:DOp):Dsk×Int:=
 if d.writes.2=11 then({d.writes.1 with pend:=d.writes.1.pend++[o]},11) else if d.writes.2≠0 then d.writes else if o.kind=3/\fG d.writes.1.now o.name=none then(d.writes.1,9) else({d.writes.1 with now:=fx d.writes.1.now o,pend:=d.writes.1.pend++[o]},0)
def Dsk.sync(d:Dsk):Dsk×Int:=if d.writes.2≠0 then d.writes else({d.writes.1 with dur:=d.writes.1.pend.foldl fx d.writes.1.dur,pend:=[]},0)
def l9(fs:ph):Nat:=(fs.map λx=>x.2.size).sum
def jh(l:List DOp):Nat:=(l.map λo=>o.data.size).sum
def pK{fs:ph}{n w:ByteArray}(h:fG fs n=some w):w.size<=l9 fs:=by
 unfold fG at h
 induction fs with
 |nil=>cases h
 |cons x fs E=>
  rw[List.find?_cons]at h;unfold l9 at E ⊢;rw[List.map_cons,List.sum_cons];cases hx:x.1==n with
  |true=>rw[hx]at h;simp at h;subst h;omega
  |false=>rw[hx]at h;have:=E h;omega
def w9[BEq K]{m:List (K×V)}{a:K}(h:fG m a=none)(v:V):jF m a v=m++[(a,v)]:=by
 unfold jF;have:m.findIdx? (·.1==a)=none:=by
  rw[List.findIdx?_eq_none_iff];intro x E;unfold fG at h;cases hf:m.find? (·.1==a)with
  |none=>
   have:=List.find?_eq_none.1 hf x E;simpa using this
  |some y=>rw[hf]at h;cases h
 rw[this]
theorem IS{l:List Nat}:∀{j x y:Nat},l[j]?=some x->(l.set j y).sum+x=l.sum+y:=by
 induction l with
 |nil=>intro j x y h;simp at h
 |cons a l E=>
  intro j x y h;cases j with
  |zero=>simp at h;subst h;simp;omega
  |succ j=>have:=E (y:=y) (by simpa using h);simp only[List.set_cons_succ,List.sum_cons];omega
def JE[BEq K]{m:List (K×V)}{a:K}(h:m.findIdx? (·.1==a)=some j):∃x,m[j]?=some x/\fG m a=some x.2:=by
 induction m generalizing j with
 |nil=>simp at h
 |cons y m E=>
  rw[List.findIdx?_cons]at h;unfold fG at E ⊢;rw[List.find?_cons];cases hy:y.1==a with
  |true=>rw[hy]at h;simp at h;subst h;exact⟨y,rfl,rfl⟩
  |false=>
   rw[hy]at h;simp only[Bool.false_eq_true,if_false,Option.map_eq_some_iff]at h;obtain⟨i,hi,rfl⟩:=h;obtain⟨x,I,J⟩:=E hi;exact⟨x,by simpa using I,J⟩
def EN{fs:ph}{n s:ByteArray}:l9 (jF fs n s)+(match fG fs n with|some w=>w.size|none=>0)=l9 fs+s.size:=by
 cases hf:fs.findIdx? (·.1==n)with
 |none=>
  have J:fG fs n=none:=by
   unfold fG;cases h:fs.find? (·.1==n)with
   |none=>rfl
   |some y=>
    have I:=List.find?_some h;have E:=List.findIdx?_eq_none_iff.1 hf y (List.mem_of_find?_eq_some h);rw[I]at E;cases E
  rw[w9 J,J];simp[l9]
 |some j=>
  obtain⟨x,I,E⟩:=JE hf;rw[E];have:jF fs n s=fs.set j (n,s):=by unfold jF;rw[hf]
  rw[this];unfold l9;rw[List.map_set];exact IS (by rw[List.getElem?_map,I];rfl)
def KH{fs:ph}{n:ByteArray}:l9 (fs.eraseP (·.1==n))<=l9 fs:=by
 induction fs with
 |nil=>exact cx _
 |cons x fs E=>
  rw[List.eraseP_cons];unfold l9 at E ⊢;cases x.1==n with
  |true=>simp
  |false=>simp;omega
def xE(fs:ph)(o:DOp):l9 (fx fs o)<=l9 fs+o.data.size:=by
 unfold fx
 split
 ·have:=@EN fs o.name (match fG fs o.name with|some w=>w++o.data|none=>o.data)
  cases h:fG fs o.name with
  |none=>rw[h]at this;simp at this ⊢;omega
  |some w=>rw[h]at this;simp[ByteArray.size_append]at this ⊢;omega
 ·split
  ·have:=@EN fs o.name o.data
   omega
  ·split
   ·have:=@KH fs o.name
    omega
   ·omega
def tZ:∀(l:List DOp) (fs:ph),l9 (l.foldl fx fs)<=l9 fs+jh l
 | [],_=>cx _
 |o::l,fs=>by
  have E:=tZ l (fx fs o);have I:=xE fs o;have h3:jh (o::l)=o.data.size+jh l:=by simp[jh]
  rw[List.foldl_cons,h3];omega
end FK
variable{σ:FK.Dsk}{fs:FK.ph}{o:FK.DOp}
namespace Go.SL
open Go.RowKit
section
variable{P:Program}{ops:Array Oper}{pos:String}[BEq K]{enc:K->Value}
theorem AK{m:List (K×Value)}{a:K}(h:m.findIdx? (·.1==a)=none):eH m a=none:=by
 have:=ix m a;rw[h]at this;simpa using this.symm
theorem xJ{t kt et:TypeId}{y z:Operand}{m:List (K×Value)}{a:K}{d:Option Tmp}{Kk:Act->World->Prop}(hd:d=none)(ht:P.underlying t=some (.map kt et))(hk:KeyK P kt K enc)(hx:ev ts x=some (.map (some b)))(hy:ev ts y=some (enc a))(hz:ev ts z=some v)
(s:Sel (dh enc b m) l r)(h:At E n D ts (dh enc b (FK.jF m a v)::r) Kk):At E n D ts l (λac w=>(Oper.mk d (.mapUpdate t x y z) ty pos af g).wp P ac w Kk Q):=by
 cases hf:m.findIdx? (·.1==a)with
 |none=>
  have hp:FK.jF m a v=m++[(a,v)]:=by unfold FK.jF;rw[hf]
  rw[hp]at h;exact xK hd ht hk hx hy hz s (AK hf) h
 |some j=>
  have hp:FK.jF m a v=m.set j (a,v):=by unfold FK.jF;rw[hf]
  rw[hp]at h;intro ac w f hw;subst hd;have d7:=hw.sel s;obtain⟨I,c,hb,hm,hs1,d9⟩:=jm .head w d7;have h1:=hk.find w I.toList m a hm;rw[hf]at h1;have hg:=MapKept.run_getObj_map (P:=P) hb;obtain⟨d6,f7,_⟩:=List.findIdx?_eq_some_iff_getElem.1 hf;have mt:m[j]?=some m[j]:=List.getElem?_eq_getElem d6;have t7:I.toList.length=m.length:=by simpa using congrArg List.length hm
  have t6:∃e,I[j]?=some e/\e.key=enc m[j].1:=by
   have:=congrArg (λl=>l[j]?) hm;simp only[List.getElem?_map,mt,Option.map_some]at this;cases he:I.toList[j]? with
   |none=>rw[he]at this;cases this
   |some e=>
    rw[he]at this;simp only[Option.map_some,Option.some.injEq,Prod.mk.injEq]at this;exact⟨e,by rw[<-Array.getElem?_toList];exact he,this.1⟩
  obtain⟨e,he,f8⟩:=t6;have T:(Instr.keyThatStays (((I[j]?).map (·.key)).getD (enc a)) (enc a)).run P w=.ok (enc a) w:=by
   rw[he];simp[Instr.keyThatStays,f8,hk.bits _ _ f7]
  have hs:=MapKept.run_setObj_map (P:=P) (.map (I.modify j λe=>{e with key:=enc a,val:=v}) c) hb;have hr:(execOp ac.eval (Oper.mk none (.mapUpdate t x y z) ty pos af g)).run P w=.ok .skip {w with heap:=w.heap.setIfInBounds b (.map (I.modify j λe=>{e with key:=enc a,val:=v}) c)}:=by
   simp only[execOp,f.eval hx,f.eval hy,f.eval hz,Instr.mapUpdate,Sem.run_bind,run_underlying ht,Result.andThen_ok,hg,hk.check,h1,Option.map_some,T,hs,Sem.run_pure]
  unfold Oper.wp;rw[hr];have O:∀k,((I.modify j λe=>{e with key:=enc a,val:=v}).toList)[k]?=(I.toList[k]?).map λe=>if j=k then {e with key:=enc a,val:=v} else e:=λk=>by
   rw[Array.toList_modify,List.getElem?_modify]
   rfl
  have J:(I.modify j λe=>{e with key:=enc a,val:=v}).toList.map (·.born)=I.toList.map (·.born):=by
   apply List.ext_getElem?;intro k;rw[List.getElem?_map,List.getElem?_map,O,Option.map_map]
   congr 1
   funext e
   simp only[Function.comp_apply]
   split<;>rfl
  refine h ac _ f<|d7.setVMap ?_ (λy hy=>?_) ?_
  ·apply List.ext_getElem?
   intro k;rw[List.getElem?_map,O,List.getElem?_map];have d8:=congrArg (λl=>l[k]?) hm;simp only[List.getElem?_map]at d8
   by_cases Y:j=k
   ·subst Y
    rw[List.getElem?_set_self d6];rw[Array.getElem?_toList,he];simp
   ·rw[List.getElem?_set_ne Y,<-d8,Option.map_map]
    congr 1
    funext e
    simp[Y]
  ·have:y.born∈(I.modify j λe=>{e with key:=enc a,val:=v}).toList.map (·.born):=List.mem_map_of_mem (f:=(·.born)) hy
   rw[J]at this;obtain⟨e',f9,hq⟩:=List.mem_map.1 this;rw[<-hq];exact hs1 e' f9
  ·rw[J]
   exact d9
end
end Go.SL
namespace Go.Y
open Go.Proofs Tryz Go.RowKit Go.SL
abbrev dU(e:Int):Value:=if e=0 then .nilIface else .iface 28 (aA e)
abbrev cX(s:ByteArray):Value:=.string s
def lm:KeyK prog 9 ByteArray cX:=Nl eS
def fN(P:List (Nat×ByteArray)):HP:=HP.all (P.map λc=>blk c.1 9 #[cX c.2])
inductive Names(P:List (Nat×ByteArray)):List (ByteArray×Nat)->FK.ph->Prop where
 |nil:Names P [] []
 |cons {M:List (ByteArray×Nat)} {fs:FK.ph} {n s:ByteArray} {b:Nat} (h:(b,s)∈P) (t:Names P M fs):Names P ((n,b)::M) ((n,s)::fs)
def Names.mono{P I:List (Nat×ByteArray)}(h:∀c∈P,c∈I):∀{M:List (ByteArray×Nat)} {fs:FK.ph},Names P M fs->Names I M fs
 |_,_,.nil=>.nil
 |_,_,.cons a t=>.cons (h _ a) (t.mono h)
def Names.get{P:List (Nat×ByteArray)}(n:ByteArray):∀{M:List (ByteArray×Nat)} {fs:FK.ph},Names P M fs->(FK.fG M n=none/\FK.fG fs n=none)\/∃b s,FK.fG M n=some b/\FK.fG fs n=some s/\(b,s)∈P
 |_,_,.nil=>.inl ⟨rfl,rfl⟩
 |_,_,.cons (M:=M) (fs:=fs) (n:=k) (s:=s) (b:=b) a t=>by
  have I:=t.get n;unfold FK.fG at I ⊢;rw[List.find?_cons,List.find?_cons];cases hk:k==n with
  |true=>exact .inr ⟨b,s,by simp,by simp,a⟩
  |false=>exact I
def Names.idx{P:List (Nat×ByteArray)}(n:ByteArray):∀{M:List (ByteArray×Nat)} {fs:FK.ph},Names P M fs->M.findIdx? (·.1==n)=fs.findIdx? (·.1==n)
 |_,_,.nil=>rfl
 |_,_,.cons _ t=>by
  rw[List.findIdx?_cons,List.findIdx?_cons,t.idx n]
theorem Names.set{P:List (Nat×ByteArray)}{n s:ByteArray}{b:Nat}(h:(b,s)∈P):∀{M:List (ByteArray×Nat)} {fs:FK.ph} (j:Nat),Names P M fs->Names P (M.set j (n,b)) (fs.set j (n,s))
 |_,_,_,.nil=>.nil
 |_,_,0,.cons _ t=>.cons h t
 |_,_,j+1,.cons a t=>.cons a (t.set h j)
def Names.snoc{P:List (Nat×ByteArray)}{n s:ByteArray}{b:Nat}(h:(b,s)∈P):∀{M:List (ByteArray×Nat)} {fs:FK.ph},Names P M fs->Names P (M++[(n,b)]) (fs++[(n,s)])
 |_,_,.nil=>.cons h .nil
 |_,_,.cons a t=>.cons a (t.snoc h)
def Names.put{n:ByteArray}(t:Names P M fs)(h:(b,s)∈P):Names P (FK.jF M n b) (FK.jF fs n s):=by
 unfold FK.jF;rw[t.idx n];cases fs.findIdx? (·.1==n)with
 |none=>exact t.snoc h
 |some j=>exact t.set h j
def Names.del{P:List (Nat×ByteArray)}(n:ByteArray):∀{M:List (ByteArray×Nat)} {fs:FK.ph},Names P M fs->Names P (M.eraseP (·.1==n)) (fs.eraseP (·.1==n))
 |_,_,.nil=>.nil
 |_,_,.cons (n:=k) a t=>by
  rw[List.eraseP_cons,List.eraseP_cons];cases k==n with
  |true=>exact t
  |false=>exact .cons a (t.del n)
abbrev fi(M:List (ByteArray×Nat)):List (ByteArray×Value):=M.map λx=>(x.1,aY x.2)
def bX(mb:Nat)(P:List (Nat×ByteArray))(fs:FK.ph):HP:=HP.ex λM:List (ByteArray×Nat)=>HP.all [HP.pure (Names P M fs),dh cX mb (fi M)]
abbrev oh(o:FK.DOp):List Value:=[aA o.kind,cX o.name,cX o.data]
abbrev jB(l:List FK.DOp):List Value:=l.flatMap oh
def mh(M:List (ByteArray×Nat))(n:ByteArray):eH (fi M) n=(FK.fG M n).map aY:=by
 unfold eH FK.fG;rw[List.find?_map];show Option.map _ (Option.map _ (M.find? (·.1==n)))=_;cases M.find? (·.1==n)<;>rfl
def zH(M:List (ByteArray×Nat))(n:ByteArray)(b:Nat):FK.jF (fi M) n (aY b)=fi (FK.jF M n b):=FK.GE M (λb=>aY b) n b
def Je(M:List (ByteArray×Nat))(n:ByteArray):(fi M).eraseP (·.1==n)=fi (M.eraseP (·.1==n)):=by
 unfold fi;rw[List.eraseP_map]
 rfl
section
variable{mb:Nat}
def zI(h:(b,s)∈P)(S:Sel (fN P) l r):∀w,Holds E w l->cw ⟨b,0,none⟩ (cX s) w:=λw hw=>by
 obtain⟨F1,_,_,_,_,J,_⟩:=(hw.sel S).star;have I:Star w (P.map λc:Nat×ByteArray=>blk c.1 9 #[cX c.2]) F1:=J;have K:(blk b 9 #[cX s]).sat w F1:=Star.mem I (List.mem_map.2 ⟨(b,s),h,rfl⟩);have:=K.2;simp[cw,World.cell?,this]
theorem Ew:Ent (blk b 9 #[cX s]::fN P::r) (fN ((b,s)::P)::r):=by
 refine(Ent.cons (Ent.unall (m:=P.map λc=>blk c.1 9 #[cX c.2]))).trans<|Ent.all (m:=((b,s)::P).map λc=>blk c.1 9 #[cX c.2])
def dH(h:Names P M fs):Ent (dh cX mb (fi M)::r) (bX mb P fs::r):=
 (Ent.pure h).trans ((Ent.all (m:=[HP.pure (Names P M fs),dh cX mb (fi M)])).trans (Ent.ex (f:=λM:List (ByteArray×Nat)=>HP.all [HP.pure (Names P M fs),dh cX mb (fi M)]) M))
def nc{n:ByteArray}(h:Names P M fs):Ent (dh cX mb (FK.jF (fi M) n (aY b))::blk b 9 #[cX s]::fN P::r) (bX mb ((b,s)::P) (FK.jF fs n s)::fN ((b,s)::P)::r):=by
 rw[zH];exact(Ent.cons Ew).trans (dH ((h.mono λc hc=>.tail _ hc).put (.head _)))
def l8{I:List (Nat×ByteArray)}(h:∀c∈P,c∈I):Ent (bX mb P fs::r) (bX mb I fs::r):=λw F ⟨F1,F2,K,O,T,⟨M,J⟩,Y⟩=>by
 have hn:Names P M fs:=Star.mem (p:=HP.pure (Names P M fs)) (l:=[HP.pure (Names P M fs),dh cX mb (fi M)]) J di;obtain⟨G1,G2,g1,g2,gd,_,g4⟩:=J;exact⟨F1,F2,K,O,T,⟨M,G1,G2,g1,g2,gd,hn.mono h,g4⟩,Y⟩
end
def xi{P:Program}{t:TypeId}{y:Operand}{a b:ByteArray}(K:ev ts x=some (.string a))(O:ev ts y=some (.string b))(T:a.size+b.size<=9223372036854775807):Ev P ts (.binOp .add t x y ty) (.string (a++b)) Any:=by
 intro ac w _ _ _ _ _ I _;refine ff (I.eval K) (I.eval O) (by simp[eqGuard]) ?_;have:¬(((a.size+b.size:Nat):Int)>IntKind.i64.max):=by
  rw[show IntKind.i64.max=9223372036854775807 from rfl];omega
 simp only[binOp,Op.stringOp];rw[if_neg this]
 rfl
structure DA where
 md:Nat
 mn:Nat
 pv:Value
 P:List (Nat×ByteArray)
abbrev iU(q:DA)(σ:FK.Dsk):Array Value:=#[.map (some q.md),.map (some q.mn),q.pv,aA σ.left,aA σ.full,.bool σ.down]
abbrev HU(d:Nat)(q:DA)(σ:FK.Dsk):List HP:=[blk d 56 (iU q σ),bX q.md q.P σ.dur,bX q.mn q.P σ.now,fN q.P,row 205 3 q.pv σ.pend.length (jB σ.pend)]
def aI(d:Nat)(σ:FK.Dsk):HP:=HP.ex λq:DA=>HP.all (HU d q σ)
abbrev nh(d:Nat)(q:DA)(σ:FK.Dsk)(r:List HP):List HP:=blk d 56 (iU q σ)::bX q.md q.P σ.dur::bX q.mn q.P σ.now::fN q.P::row 205 3 q.pv σ.pend.length (jB σ.pend)::r
def cU(q:DA)(σ:FK.Dsk):Ent (HU d q σ++r) (aI d σ::r):=Ent.all.trans (Ent.ex (f:=λq:DA=>HP.all (HU d q σ)) q)
def rG:dz G 302 [aY d] [aI d σ] λv m=>v=dU σ.writes.2/\m=[aI d σ.writes.1]:=by
 obtain⟨dur,now,pend,left,full,down⟩:=σ;refine bz func302 Z λE fr hE=>ae<|df .head λq=>bC<|ao (l':=nh d q ⟨dur,now,pend,left,full,down⟩ fr) aQ<|sS<|sB Z<|sQ<|sS<|cE 5 Z Z (cj Z (au Z) (ah Z) λK T=>(sM Z ?_))
 refine bK K (by rfl)<|cz Z Z (λ_=>rfl) (bg Z) dp<|bK K (by rfl)<|cz Z Z (λ_=>rfl) (cI Z) dp<|bK K (by rfl)<|cz Z Z (λ_=>rfl) (bd 3 Z) dp<|bK K (by rfl)<|cz Z Z (λ_=>rfl) (au Z) (ah Z) ?_
 refine bK K (by rfl)<|cz Z Z (λ_=>rfl) (bc Z Z Z) dp<|cj Z (xf Z Z Z) dp λY O=>sN<|cf Z (λI=>?_) λI=>?_
 ·have hc:down=true\/left=0:=by rw[O,T]at I;simpa using I
  have hw:FK.Dsk.writes ⟨dur,now,pend,left,full,down⟩=(⟨dur,now,pend,left,full,true⟩,11):=by unfold FK.Dsk.writes;rw[if_pos hc]
  rw[hw];refine sS<|cE 5 Z Z<|bD Z Z Z Z fW<|sN<|sS<|sP (em Z Z Z)<|sB Z<|an<|aD<|ar [_] rfl Z ec ((cU (d:=d) q ⟨dur,now,pend,left,full,true⟩))
 ·have hc:¬(down=true\/left=0):=by rw[O,T]at I;simpa using I
  refine aa<|sT<|sS<|cE 3 Z Z<|aL Z Z Z Z<|sP (dd Z Z Z)<|cZ Z<|bm 3 Z<|bD Z Z Z Z fW<|sN<|sQ<|sS<|cE 4 Z Z<|aL Z Z Z Z<|sP (bc Z Z Z)<|sN<|aC Z (λJ=>?_) λJ=>?_
  ·have hw:FK.Dsk.writes ⟨dur,now,pend,left,full,down⟩=(⟨dur,now,pend,IntKind.i64.wrap (left-1),-1,down⟩,10):=by unfold FK.Dsk.writes;rw[if_neg hc,if_pos J]
   rw[hw];refine sS<|cE 4 Z Z<|bD Z Z Z Z fW<|sN<|sS<|sP (em Z Z Z)<|sB Z<|an<|aD<|ar [_] rfl Z ec ((cU (d:=d) q ⟨dur,now,pend,IntKind.i64.wrap (left-1),-1,down⟩))
  ·have hw:FK.Dsk.writes ⟨dur,now,pend,left,full,down⟩=(⟨dur,now,pend,IntKind.i64.wrap (left-1),IntKind.i64.wrap (full-1),down⟩,0):=by unfold FK.Dsk.writes;rw[if_neg hc,if_neg J]
   rw[hw];refine aa<|sT<|sS<|cE 4 Z Z<|aL Z Z Z Z<|sP (dd Z Z Z)<|cZ Z<|bm 4 Z<|bD Z Z Z Z fW<|sN<|sS<|sB Z<|an<|ar [_] rfl Z ec ((cU (d:=d) q ⟨dur,now,pend,IntKind.i64.wrap (left-1),IntKind.i64.wrap (full-1),down⟩))
def yg{mb:Nat}(d6:o.kind=2->∀w,FK.fG fs o.name=some w->w.size+o.data.size<=9223372036854775807):dz G 112 [.map (some mb),.agg (oh o).toArray] [bX mb P fs,fN P] λv m=>v=.tuple #[]/\∃P',(∀c∈P,c∈P')/\m=[bX mb P' (FK.fx fs o),fN P']:=by
 have I:∀b s,∀c∈P,c∈(b,s)::P:=λb s c hc=>.tail _ hc;refine bz func112 Z λE fr hE=>aE<|df .head λM=>bC<|ao (l':=HP.pure (Names P M fs)::dh cX mb (fi M)::fN P::fr) aQ<|eW .head λY=>sS<|sO (cP Z Z λb3=>(sN (sS (bm 2 Z (aL Z Z Z Z (sO (cO (z:=.string ⟨#[]⟩) Z λb4=>bD Z Z Z Z fW ?_)))))))
 refine sN<|sQ<|aB b4 #[cX o.data] rfl<|sG<|bm 0 Z<|aL Z Z Z Z<|sN<|ai<|sS<|sP (bc Z Z Z)<|sB Z<|aC Z (λK=>?_) λK=>?_
 ·have J:FK.fx fs o=FK.jF fs o.name (match FK.fG fs o.name with|some w=>w++o.data|none=>o.data):=by unfold FK.fx;rw[if_pos K];first|done|rfl
  rw[J];refine sQ<|sQ ?_
  by_cases HG:∃b s,FK.fG M o.name=some b/\FK.fG fs o.name=some s/\(b,s)∈P
  ·obtain⟨ob,os,hM,hF,hP⟩:=HG;rw[hF];refine sG<|sM Z<|bm 1 Z<|aL Z Z Z Z<|bF (kZ (a:=o.name) (v:=aY ob) Z lm Z Z (by rw[mh,hM];rfl)) (jm (b:=mb) (m:=fi M) dm)<|sM Z<|bG Z Z<|bG Z Z<|sA Z<|sB Z<|bp Z<|sN<|aK Z<|sZ Z<|ea Z Z<|dx 1 Z (cI Z)<|bN Z (au (v:=cX os) Z) (zI hP gP)<|bN Z (au Z) (ah Z)<|bB Z (xi Z Z (d6 K os hF))<|dI 5 Z<|cq Z Z Z Z Z fW ?_
   exact dK [false,false] ak<|dE<|sT<|aB b4 #[cX (os++o.data)] rfl<|sG<|sM Z<|bm 1 Z<|aL Z Z Z Z<|sO<|xJ Z Z lm Z Z Z dm<|ap<|al<|bt [_,_] rfl ⟨rfl,(b4,os++o.data)::P,I _ _,rfl⟩ ((cM .head .head bJ).trans ((nc Y).trans (Ent.cons (Ent.cons Ent.drop))))
  ·obtain⟨hM,hF⟩:FK.fG M o.name=none/\FK.fG fs o.name=none:=by rcases Y.get o.name with h|h;exact h;exact absurd h HG
   rw[hF];refine sG<|sM Z<|bm 1 Z<|aL Z Z Z Z<|bF (k9 (m:=fi M) (a:=o.name) Z lm Z Z Z (by rw[mh,hM];rfl)) (jm (b:=mb) (m:=fi M) dm)<|sM Z<|bG Z Z<|bG Z Z<|sA Z<|sB Z<|bp Z<|sN<|ag Z<|aa<|sT<|sG<|sM Z<|bm 1 Z<|aL Z Z Z Z<|sO<|xJ Z Z lm Z Z Z dm<|ap<|al<|bt [_,_] rfl ⟨rfl,(b4,o.data)::P,I _ _,rfl⟩ ((cM .head .head bJ).trans ((nc Y).trans (Ent.cons (Ent.cons Ent.drop))))
 ·refine sS<|sP (bc Z Z Z)<|sB Z<|aC Z (λO=>?_) λO=>?_
  ·have J:FK.fx fs o=FK.jF fs o.name o.data:=by unfold FK.fx;rw[if_neg K,if_pos O]
   rw[J];exact sG<|sM Z<|bm 1 Z<|aL Z Z Z Z<|sO<|xJ Z Z lm Z Z Z dm<|ap<|al<|bt [_,_] rfl ⟨rfl,(b4,o.data)::P,I _ _,rfl⟩ ((cM .head .head bJ).trans ((nc Y).trans (Ent.cons (Ent.cons Ent.drop))))
  ·refine sS<|sP (bc Z Z Z)<|sB Z<|aC Z (λT=>?_) λT=>?_
   ·have J:FK.fx fs o=fs.eraseP (·.1==o.name):=by unfold FK.fx;rw[if_neg K,if_neg O,if_pos T]
    rw[J];refine sG<|sM Z<|bm 1 Z<|aL Z Z Z Z<|sO<|xL Z Z lm Z Z dm<|ap<|al ?_
    rw[Je];exact bt [_,_] rfl ⟨rfl,P,λ_ h=>h,rfl⟩ ((bo .head dm).trans ((dH (Y.del o.name)).trans (Ent.cons (Ent.cons (Ent.drop.trans Ent.drop)))))
   ·have J:FK.fx fs o=fs:=by unfold FK.fx;rw[if_neg K,if_neg O,if_neg T]
    rw[J];refine aa<|al<|bt [_,_] rfl ⟨rfl,P,λ_ h=>h,rfl⟩ ((bo dm dm).trans ((dH Y).trans (Ent.cons (Ent.cons (Ent.drop.trans Ent.drop)))))
end Go.Y
namespace Go.SL
open Go.RowKit
section
variable{P:Program}{ops:Array Oper}{rest:List Oper}{pos:String}
def FF(A:Option Addr)(bs:List UInt8)(w:World):Prop:=(A=none->bs=[])/\∀b o,A=some ⟨b,o,none⟩->∀j (I:j<bs.length),w.cell? ⟨b,o+j,none⟩=some (zb (bs[j].toNat:Int))
def LC{src I e:TypeId}(O:P.underlying src=some (.slice e))(T:P.underlying e=some (.int .u8))(Y:P.underlying I=some .string)(hA:∀J,A=some J->∃b o,J=⟨b,o,none⟩)
(hx:ev ts x=some (.slice A bs.length c)):Ev P ts (.convert src I x) (.string ⟨bs.toArray⟩) (FF A bs):=by
 intro a w _ _ _ _ _ kn hφ;cases A with
 |none=>
  obtain rfl:=hφ.1 rfl;have K:(convert src I (.slice none ([]:List UInt8).length c)).run P w=.ok (.string .empty) w:=by
   rw[run_convert_bytes_string w src I e none _ c O T Y];simp[Conv.bytesToString]
  simp only[execOp,kn.eval hx,Sem.run_bind,K,Result.andThen_ok,Sem.run_pure]
  rfl
 |some J=>
  obtain⟨b,o,rfl⟩:=hA J rfl;have K:=run_convert_bytes_back (P:=P) w src I e ⟨b,o,none⟩ c bs O T Y λj hj=>by rw[add_plain];exact hφ.2 b o rfl j hj
  simp only[execOp,kn.eval hx,Sem.run_bind,K,Result.andThen_ok,Sem.run_pure]
theorem E7{src I e:TypeId}{K:Act->World->Prop}(hi:Nat.blt i n=true)(O:P.underlying src=some .string)(T:P.underlying I=some (.slice e))(Y:P.underlying e=some (.int .u8))(hx:ev ts x=some (.string s))
(h:∀b c fz,At E n D ((i,dQ b s.size c)::ts) (ob b (.cells (bytesRow s c) e fz)::l) K):At E n D ts l (λa w=>(Oper.mk (some i) (.convert src I x) ty pos af g).wp P a w K Q):=λa w J hw=>by
 have hr:=run_bytes_of_string (P:=P) w src I e s O T Y;have:(execOp a.eval (Oper.mk (some i) (.convert src I x) ty pos af g)).run P w=.ok (.value (.slice (some ⟨w.heap.size,0,none⟩) s.size (grownCap w s.size 0 e))) (w.drew.alloc (.cells (bytesRow s (grownCap w s.size 0 e)) e ((bytesRow s (grownCap w s.size 0 e)).size,(bytesRow s (grownCap w s.size 0 e)).size+1))):=by
  simp only[execOp,J.eval hx,Sem.run_bind,hr,Result.andThen_ok,Sem.run_pure]
 show(Oper.mk (some i) (.convert src I x) ty pos af g).wp P a w K Q;unfold Oper.wp;rw[this];exact h _ _ _ _ _ (J.put i (Nat.le_of_ble_eq_true hi) _) ((hw.drawn _).alloc _)
def mF{t J:TypeId}{y:Operand}{a b:ByteArray}{r:Bool}(_ht:P.underlying t=some .string)(K:ev ts x=some (.string a))(O:ev ts y=some (.string b))(T:(!(a.toList==b.toList))=r):Ev P ts (.binOp .neq t x y J) (.bool r) Any:=by
 intro ac w _ _ _ _ _ I _;subst T;exact ff (I.eval K) (I.eval O) (by simp[eqGuard]) (by simp[binOp,Op.stringOp])
end
end Go.SL
namespace Go.Y
open Go.Proofs Tryz Go.RowKit Go.SL
def CA:fm prog 205 (.agg #[aA 0,.string .empty,.string .empty]) 3 40:=by unfold fm;kernel_rfl
def ye(o:FK.DOp)(t:Nat):Instr.fill (λi=>some (i*3,3)) (Array.map (λx=>((.agg #[aA 0,.string .empty,.string .empty]:Value)).cells[x%((.agg #[aA 0,.string .empty,.string .empty]:Value)).cells.size]!) (Array.range (1*3))) ((List.map (λx=>x.fst) [((0:Nat),Operand.tmp t)]).zip [.agg (oh o).toArray])=some (oh o).toArray:=by
 have e1:Array.range (1*3)=#[0,1,2]:=rfl;rw[e1];simp[Instr.fill,Value.cells]
theorem qW(l:List FK.DOp)(o:FK.DOp):jB (l++[o])=jB l++oh o:=by
 unfold jB;rw[List.flatMap_append]
 rfl
def wB(f7:FK.l9 σ.now+o.data.size<=9223372036854775807)(hp:σ.pend.length<=1099511627776):dz G 301 [aY d,.agg (oh o).toArray] [aI d σ] λv m=>v=dU (σ.tell o).2/\m=[aI d (σ.tell o).1]:=by
 have t6:FK.l9 σ.writes.1.now+o.data.size<=9223372036854775807:=by
  have:σ.writes.1.now=σ.now:=by unfold FK.Dsk.writes;split;rfl;split<;>rfl
  rw[this];exact f7
 have wf:σ.writes.1.pend.length<=1099511627776:=by
  have:σ.writes.1.pend=σ.pend:=by unfold FK.Dsk.writes;split;rfl;split<;>rfl
  rw[this];exact hp
 have d9:σ.writes.2=0\/σ.writes.2=10\/σ.writes.2=11:=by unfold FK.Dsk.writes;split;exact .inr (.inr rfl);split;exact .inr (.inl rfl);exact .inl rfl
 have I:σ.tell o=if σ.writes.2=11 then({σ.writes.1 with pend:=σ.writes.1.pend++[o]},11) else if σ.writes.2≠0 then σ.writes else if o.kind=3/\FK.fG σ.writes.1.now o.name=none then(σ.writes.1,9) else({σ.writes.1 with now:=FK.fx σ.writes.1.now o,pend:=σ.writes.1.pend++[o]},0):=rfl
 clear f7 hp;refine bz func301 Z λE fr hE=>ae<|sS<|sO (cP Z Z λb3=>(sB Z (sQ (sS (sM Z (bQ Z rG gfE1 ?_))))))
 rintro v m ⟨hv,rfl⟩;refine ae ?_
 generalize σ.writes=ω at *
 obtain⟨⟨dur,now,pend,left,full,down⟩,e⟩:=ω;simp only at t6 wf d9 hv ⊢;refine sB Z<|sQ ?_
 by_cases HE:e=0
 ·subst HE;subst hv;refine sG<|bY Z (dF Z Z)<|df .head λq=>bC<|ao (l':=nh d q ⟨dur,now,pend,left,full,down⟩ (blk b3 205 (oh o).toArray::fr)) aQ<|df dm λM=>bC<|ao (l':=HP.pure (Names q.P M now)::dh cX q.mn (fi M)::blk d 56 (iU q ⟨dur,now,pend,left,full,down⟩)::bX q.md q.P dur::fN q.P::row 205 3 q.pv pend.length (jB pend)::blk b3 205 (oh o).toArray::fr) aQ<|eW .head λhN=>sN<|ag Z<|aa<|sT<|sQ<|sQ ?_
  by_cases HG:∃b s,FK.fG M o.name=some b/\FK.fG now o.name=some s/\(b,s)∈q.P
  ·obtain⟨ob,os,hM,hF,hP⟩:=HG;refine sZ Z<|ea Z Z<|dy 1 Z Z Z<|bN Z (au Z) (ah Z)<|bB Z (bd 1 Z)<|bN Z (au Z) (ah Z)<|bN Z (kZ (a:=o.name) (v:=aY ob) Z lm Z Z (by rw[mh,hM];rfl)) (jm .head)<|cC Z Z<|bB Z (bZ Z Z)<|bB Z (bZ Z Z)<|bB Z (aX Z)<|bB Z (aX Z)<|dE<|sT<|bp Z<|sP (cA Z Z)<|sM Z<|aR Z<|aR Z<|aR Z<|sP (aF Z Z Z)<|sN<|ag Z<|aa<|sT<|sQ<|ao (l':=bX q.mn q.P now::fN q.P::blk d 56 (iU q ⟨dur,now,pend,left,full,down⟩)::bX q.md q.P dur::row 205 3 q.pv pend.length (jB pend)::blk b3 205 (oh o).toArray::fr) ((bo .head dm).trans ((Ent.cons aQ).trans (dH hN)))<|sZ Z<|ea Z Z<|dy 1 Z Z Z<|bN Z (au Z) (ah Z)<|bN Z (bR (vs:=oh o) Z) (bl Z)<|dI 5 Z<|dP Z (yg (P:=q.P) (fs:=now) (o:=o) (λ_ w hw=>by have:=FK.pK hw;omega)) aQ ?_
   rintro v m ⟨rfl,J,d8,rfl⟩;refine aE<|dK [false,false] ak<|dE<|sT<|sQ<|ao (l':=bX q.md J dur::bX q.mn J (FK.fx now o)::fN J::blk d 56 (iU q ⟨dur,now,pend,left,full,down⟩)::row 205 3 q.pv pend.length (jB pend)::blk b3 205 (oh o).toArray::fr) (gfE3.trans (l8 d8))<|sZ Z<|ea Z Z<|cC Z Z<|dy 2 Z Z Z<|bN Z (au Z) (ah Z)<|bN Z (bR (vs:=oh o) Z) (bl Z)<|dI 6 Z (dw (m:=1) (z:=.agg #[aA 0,.string .empty,.string .empty]) (size:=3) (ps:=[(0,.tmp 55)]) (vs:=[.agg (oh o).toArray]) (cs:=(oh o).toArray) Z Z Z Z am am Z (ye _ _) λt7=>dK [false,true] (aj (ah Z) ak) (dR 7 rfl rfl (ce rfl rfl CA rfl am rfl rfl (HasVal.sel (v:=q.pv)) (news:=oh o) rfl fX iy eG gk am λd6 f8=>aN (HasVal.sel (v:=d6)) ?_)))
   rintro K O rfl - - - - -
   refine dK [false] ak<|dx 8 Z (cI Z)<|bB Z (bd 2 Z)<|dI 10 Z<|cq Z Z Z Z Z fW ?_
   refine aB d (iU ⟨q.md,q.mn,.slice K (pend.length+1) O,J⟩ ⟨dur,FK.fx now o,pend++[o],left,full,down⟩) Z<|ao (l':=aI d ⟨dur,FK.fx now o,pend++[o],left,full,down⟩::fr) ?_ ?_
   ·refine Ent.trans ?_<|cU ⟨q.md,q.mn,.slice K (pend.length+1) O,J⟩ ⟨dur,FK.fx now o,pend++[o],left,full,down⟩
    show Ent _ (_::_::_::_::row 205 3 _ (pend++[o]).length (jB (pend++[o]))::fr);rw[qW,List.length_append];exact aG
   refine dK [] ak<|dE<|sT<|sS<|sB Z<|an ?_
   have Y:σ.tell o=(⟨dur,FK.fx now o,pend++[o],left,full,down⟩,0):=by rw[I,if_neg di,if_neg di,if_neg (by rw[hF];simp)]
   rw[Y];exact ar [_] rfl Z ec aQ
  ·obtain⟨hM,hF⟩:FK.fG M o.name=none/\FK.fG now o.name=none:=by rcases hN.get o.name with h|h;exact h;exact absurd h HG
   refine sZ Z<|ea Z Z<|dy 1 Z Z Z<|bN Z (au Z) (ah Z)<|bB Z (bd 1 Z)<|bN Z (au Z) (ah Z)<|bN Z (k9 (m:=fi M) (a:=o.name) Z lm Z Z Z (by rw[mh,hM];rfl)) (jm .head)<|cC Z Z<|bB Z (bZ Z Z)<|bB Z (bZ Z Z)<|bB Z (aX Z)<|bB Z (aX Z)<|dE<|sT<|bp Z<|sP (cA Z Z)<|sM Z<|bO (bd 0 Z)<|fM (au Z) (ah Z)<|bO (bc Z Z Z)<|sP (aF Z Z Z)<|sN<|aC Z (λd7=>?_) λd7=>?_
   ·refine sS<|sP (em Z Z Z)<|sB Z<|an<|aD ?_
    have Y:σ.tell o=(⟨dur,now,pend,left,full,down⟩,9):=by rw[I,if_neg di,if_neg di,if_pos ⟨d7,hF⟩]
    rw[Y];refine ar [aI d ⟨dur,now,pend,left,full,down⟩] rfl Z ec<|Ent.trans ?_<|cU q ⟨dur,now,pend,left,full,down⟩
    refine Ent.trans (dH hN) ?_;show Ent _ (_::bX q.md q.P dur::bX q.mn q.P now::fN q.P::_::fr);exact aG
   ·refine aa<|sT<|sQ<|ao (l':=bX q.mn q.P now::fN q.P::blk d 56 (iU q ⟨dur,now,pend,left,full,down⟩)::bX q.md q.P dur::row 205 3 q.pv pend.length (jB pend)::blk b3 205 (oh o).toArray::fr) ((bo .head dm).trans ((Ent.cons aQ).trans (dH hN)))<|sZ Z<|ea Z Z<|dy 1 Z Z Z<|bN Z (au Z) (ah Z)<|bN Z (bR (vs:=oh o) Z) (bl Z)<|dI 5 Z<|dP Z (yg (P:=q.P) (fs:=now) (o:=o) (λ_ w hw=>by have:=FK.pK hw;omega)) aQ ?_
    rintro v m ⟨rfl,J,d8,rfl⟩;refine aE<|dK [false,false] ak<|dE<|sT<|sQ<|ao (l':=bX q.md J dur::bX q.mn J (FK.fx now o)::fN J::blk d 56 (iU q ⟨dur,now,pend,left,full,down⟩)::row 205 3 q.pv pend.length (jB pend)::blk b3 205 (oh o).toArray::fr) (gfE3.trans (l8 d8))<|sZ Z<|ea Z Z<|cC Z Z<|dy 2 Z Z Z<|bN Z (au Z) (ah Z)<|bN Z (bR (vs:=oh o) Z) (bl Z)<|dI 6 Z (dw (m:=1) (z:=.agg #[aA 0,.string .empty,.string .empty]) (size:=3) (ps:=[(0,.tmp 55)]) (vs:=[.agg (oh o).toArray]) (cs:=(oh o).toArray) Z Z Z Z am am Z (ye _ _) λt7=>dK [false,true] (aj (ah Z) ak) (dR 7 rfl rfl (ce rfl rfl CA rfl am rfl rfl (HasVal.sel (v:=q.pv)) (news:=oh o) rfl fX iy eG gk am λd6 f8=>aN (HasVal.sel (v:=d6)) ?_)))
    rintro K O rfl - - - - -
    refine dK [false] ak<|dx 8 Z (cI Z)<|bB Z (bd 2 Z)<|dI 10 Z<|cq Z Z Z Z Z fW ?_
    refine aB d (iU ⟨q.md,q.mn,.slice K (pend.length+1) O,J⟩ ⟨dur,FK.fx now o,pend++[o],left,full,down⟩) Z<|ao (l':=aI d ⟨dur,FK.fx now o,pend++[o],left,full,down⟩::fr) ?_ ?_
    ·refine Ent.trans ?_<|cU ⟨q.md,q.mn,.slice K (pend.length+1) O,J⟩ ⟨dur,FK.fx now o,pend++[o],left,full,down⟩
     show Ent _ (_::_::_::_::row 205 3 _ (pend++[o]).length (jB (pend++[o]))::fr);rw[qW,List.length_append];exact aG
    refine dK [] ak<|dE<|sT<|sS<|sB Z<|an ?_
    have Y:σ.tell o=(⟨dur,FK.fx now o,pend++[o],left,full,down⟩,0):=by rw[I,if_neg di,if_neg di,if_neg (λh=>d7 h.1)]
    rw[Y];exact ar [_] rfl Z ec aQ
 ·replace hv:=hv.trans (if_neg HE);subst hv;refine sG<|bY Z (fk Z Z)<|sN<|aK Z<|sQ<|bp Z<|sP (em Z Z Z)<|sP (uB Z Z Z Z Z Z Z)<|sN<|cf Z (λT=>?_) λT=>?_
  ·obtain rfl:e=11:=by simpa using T
   refine df .head λq=>bC<|ao (l':=nh d q ⟨dur,now,pend,left,full,down⟩ (blk b3 205 (oh o).toArray::fr)) aQ<|sZ Z<|ea Z Z<|cC Z Z<|dy 2 Z Z Z<|bN Z (au Z) (ah Z)<|bN Z (bR (vs:=oh o) Z) (bl Z)<|dI 6 Z (dw (m:=1) (z:=.agg #[aA 0,.string .empty,.string .empty]) (size:=3) (ps:=[(0,.tmp 20)]) (vs:=[.agg (oh o).toArray]) (cs:=(oh o).toArray) Z Z Z Z am am Z (ye _ _) λIn=>dK [false,true] (aj (ah Z) ak) (dR 7 rfl rfl (ce rfl rfl CA rfl am rfl rfl (HasVal.sel (v:=q.pv)) (news:=oh o) rfl fX iy eG (by unfold maxLen;show pend.length+1<=_;omega) (by show(pend.length+1)*40<=_;omega) λt8 Fd=>aN (HasVal.sel (v:=t8)) ?_)))
   rintro f9 mt rfl - - - - -
   refine dK [false] ak<|dx 8 Z (cI Z)<|bB Z (bd 2 Z)<|dI 10 Z<|cq Z Z Z Z Z fW ?_
   refine aB d (iU ⟨q.md,q.mn,.slice f9 (pend.length+1) mt,q.P⟩ ⟨dur,now,pend++[o],left,full,down⟩) Z<|ao (l':=aI d ⟨dur,now,pend++[o],left,full,down⟩::fr) ?_ ?_
   ·refine Ent.trans ?_<|cU ⟨q.md,q.mn,.slice f9 (pend.length+1) mt,q.P⟩ ⟨dur,now,pend++[o],left,full,down⟩
    show Ent _ (_::_::_::_::row 205 3 _ (pend++[o]).length (jB (pend++[o]))::fr);rw[qW,List.length_append];exact aG
   refine dK [] ak<|dE<|sT<|bp Z<|sB Z<|an<|aD ?_
   have Y:σ.tell o=(⟨dur,now,pend++[o],left,full,down⟩,11):=by rw[I,if_pos rfl]
   rw[Y];exact ar [_] rfl Z ec aQ
  ·have BT:e≠11:=λh=>by rw[h]at T;exact absurd T fh
   refine aa<|sT<|bp Z<|sB Z<|an<|aD ?_
   have Y:σ.tell o=(⟨dur,now,pend,left,full,down⟩,e):=by rw[I,if_neg BT,if_pos HE]
   rw[Y];exact ar [_] rfl Z ⟨(if_neg HE).symm,rfl⟩<|Ent.cons Ent.drop
def gD(bs:List UInt8):ByteArray:=⟨bs.toArray⟩
def pU(bs:List UInt8):(gD bs).size=bs.length:=by
 unfold gD;show bs.toArray.size=_;simp
def LV{p:HP}(h:Reads p A bs)(J:A=none->bs=[])(s:Sel p l r):∀w,Holds E w l->FF A bs w:=λw hw=>⟨J,λ_ _ I _ K=>h.at s I (List.getElem?_eq_getElem K) w hw⟩
section
variable{name:ByteArray}{l:List FK.DOp}{u:Value}
def G9{kind:Int}(K:FK.l9 σ.now+bs.length<=9223372036854775807)(hp:σ.pend.length<=1099511627776)(hl:bs.length<=1099511627776):dz G 299 [aY d,aA kind,cX name,u] [aI d σ,dB u bs] λv m=>v=dU (σ.tell ⟨kind,name,gD bs⟩).2/\m=[aI d (σ.tell ⟨kind,name,gD bs⟩).1]:=by
 refine bz func299 Z λE fr hE=>aE<|aN (HasVal.sel (v:=u)) ?_
 rintro A c rfl f1 f2 f3 f4 -
 have I:bs≠[]->∃g,A=some ⟨g,0,none⟩:=λO=>by
  have d6:=List.length_pos_iff.2 O;cases A with
  |none=>have:=(f1 rfl).1;omega
  |some T=>obtain⟨g,rfl⟩:=f2 T rfl;exact⟨g,rfl⟩
 have hA:A=none->bs=[]:=λh=>by
  have:=(f1 h).1;exact List.eq_nil_of_length_eq_zero am
 refine sS<|sB Z<|bp Z<|sM Z<|sM Z<|sM Z<|mo rfl (LC (bs:=bs) rfl rfl rfl (λT h=>by obtain⟨g,rfl⟩:=f2 T h;exact⟨g,0,rfl⟩) rfl) (LV (Reads.row (c:=c) I) hA bJ)<|sP (bI (cs:=(oh ⟨kind,name,gD bs⟩).toArray) Z Z Z Z Z)<|bQ Z (wB (o:=⟨kind,name,gD bs⟩) (by rw[pU];exact K) hp) aQ ?_
 rintro v m ⟨hv,rfl⟩;refine ae<|sB Z<|sQ<|bp Z<|sP (bh Z Z)<|sM Z<|sN<|ai<|aO (X:=Nat×List Value) (λx=>[(20,aA x.1),(19,aA bs.length),(3,.slice A bs.length c),(9,v)]) (λx=>row 5 1 (.slice A bs.length c) bs.length x.2::aI d (σ.tell ⟨kind,name,gD bs⟩).1::fr) (λx=>x.1<=bs.length) (λx=>bs.length-x.1) (0,dj bs) (Nat.zero_le _) bW gfE1 ?_
 rintro⟨k,ys⟩ hk;refine sS<|sP (bq Z Z Z)<|sN<|sQ<|aC Z (λY=>?_) λY=>?_
 ·have J:k<bs.length:=am;obtain⟨g,rfl⟩:=I (by rintro rfl;simp at J);refine aa<|sT<|sQ<|ai<|bp Z<|sB Z<|sG<|sM Z<|bY Z (aV (z:=1) Z Z Z Z J)<|sO<|gc .head Z Z Z Z am<|ap<|al<|sT<|sG<|sP (dM Z Z)<|sM Z<|ap<|aH (k+1,_) (by simp only;omega) (by simp only;omega) bW aQ
 ·exact aM<|aw<|az<|aq<|sT<|bp Z<|sB Z<|an<|ar [_] rfl Z ⟨hv,rfl⟩ Ent.drop
def Cj(I:FK.l9 σ.now+bs.length<=9223372036854775807)(J:σ.pend.length<=1099511627776)(K:bs.length<=1099511627776):dz G 293 [aY d,cX name,u] [aI d σ,dB u bs] λv m=>v=dU (σ.tell ⟨2,name,gD bs⟩).2/\m=[aI d (σ.tell ⟨2,name,gD bs⟩).1]:=by
 refine bz func293 Z λE fr T=>aE<|sS<|sB Z<|bp Z<|sM Z<|sM Z<|bQ Z (G9 I J K) aQ ?_
 rintro v m ⟨O,rfl⟩;exact ae<|sB Z<|an<|ar [_] rfl Z ⟨O,rfl⟩ aQ
def Bk(I:FK.l9 σ.now<=9223372036854775807)(J:σ.pend.length<=1099511627776):dz G 296 [aY d,cX name] [aI d σ] λv m=>v=dU (σ.tell ⟨3,name,⟨#[]⟩⟩).2/\m=[aI d (σ.tell ⟨3,name,⟨#[]⟩⟩).1]:=by
 refine bz func296 Z λE fr O=>ae<|sS<|sB Z<|bp Z<|bY Z (bI (cs:=(oh ⟨3,name,⟨#[]⟩⟩).toArray) Z Z Z Z Z)<|bQ Z (wB (o:=⟨3,name,⟨#[]⟩⟩) I J) aQ ?_
 rintro v m ⟨K,rfl⟩;exact ae<|sB Z<|an<|ar [_] rfl Z ⟨K,rfl⟩ aQ
def Le(h:l[i]?=some o)(j:Nat)(u:Value)(E:(oh o)[j]?=some u):(jB l)[0+i*3+j]?=some u:=by
 rw[Nat.zero_add];exact fe (k:=3) (λ_=>rfl) j h E
def Gn(h:l[k]?=some o):FK.jh (l.take k)+o.data.size<=FK.jh l:=by
 have E:l.take (k+1)=l.take k++[o]:=by rw[List.take_add_one,h];rfl
 have I:l=l.take (k+1)++l.drop (k+1):=(List.take_append_drop _ _).symm;have h3:∀a b:List FK.DOp,FK.jh (a++b)=FK.jh a+FK.jh b:=λa b=>by simp[FK.jh]
 have J:FK.jh [o]=o.data.size:=by simp[FK.jh]
 have K:FK.jh l=FK.jh (l.take k)+o.data.size+FK.jh (l.drop (k+1)):=by
  conv=>lhs;rw[I,E]
  rw[h3,h3,J]
 omega
def my(Y:FK.l9 σ.dur+FK.jh σ.pend<=9223372036854775807)(hp:σ.pend.length<=1099511627776):dz G 297 [aY d] [aI d σ] λv m=>v=dU σ.sync.2/\m=[aI d σ.sync.1]:=by
 have d6:FK.l9 σ.writes.1.dur+FK.jh σ.writes.1.pend<=9223372036854775807:=by
  have:σ.writes.1.dur=σ.dur/\σ.writes.1.pend=σ.pend:=by unfold FK.Dsk.writes;split;exact ec;split<;>exact ec
  rw[this.1,this.2];exact Y
 have d8:σ.writes.1.pend.length<=1099511627776:=by
  have:σ.writes.1.pend=σ.pend:=by unfold FK.Dsk.writes;split;rfl;split<;>rfl
  rw[this];exact hp
 have J:σ.sync=if σ.writes.2≠0 then σ.writes else({σ.writes.1 with dur:=σ.writes.1.pend.foldl FK.fx σ.writes.1.dur,pend:=[]},0):=rfl
 clear Y hp;refine bz func297 Z λE fr hE=>ae<|sS<|sB Z<|sQ<|bp Z<|bQ Z rG aQ ?_
 rintro v m ⟨hv,rfl⟩;refine ae ?_
 generalize σ.writes=ω at *
 obtain⟨⟨dur,now,pend,left,full,down⟩,e⟩:=ω;simp only at d6 d8 hv ⊢;refine sB Z<|sQ ?_
 by_cases HE:e=0
 ·subst HE;subst hv;refine sG<|bY Z (dF Z Z)<|sN<|ag Z<|aa<|sT<|sQ<|sQ<|df .head λq=>bC ?_
  obtain⟨md,I,pv,P⟩:=q;refine ao (l':=nh d ⟨md,I,pv,P⟩ ⟨dur,now,pend,left,full,down⟩ fr) aQ<|aN (HasVal.sel (v:=pv)) ?_
  rintro A c rfl f1 f2 f3 f4 -
  refine ao (l':=blk d 56 (iU ⟨md,I,.slice A pend.length c,P⟩ ⟨dur,now,pend,left,full,down⟩)::bX md P dur::bX I P now::fN P::row 205 3 (.slice A pend.length c) pend.length (jB pend)::fr) aQ<|sG<|cE 2 Z Z<|aL Z Z Z Z<|sP (bh Z Z)<|sM Z<|sN<|ai<|aO (X:=Nat×List (Nat×ByteArray)) (λx=>[(16,aA x.1),(15,aA pend.length),(14,.slice A pend.length c),(0,aY d)]) (λx=>bX md x.2 ((pend.take x.1).foldl FK.fx dur)::bX I x.2 now::fN x.2::row 205 3 (.slice A pend.length c) pend.length (jB pend)::blk d 56 (iU ⟨md,I,.slice A pend.length c,P⟩ ⟨dur,now,pend,left,full,down⟩)::fr) (λx=>x.1<=pend.length) (λx=>pend.length-x.1) (0,P) (Nat.zero_le _) bW (by show Ent _ (bX md P dur::bX I P now::fN P::_::_::fr);exact aG) ?_
  rintro⟨k,K⟩ hk;replace hk:k<=pend.length:=hk;refine ao (l':=bX md K ((pend.take k).foldl FK.fx dur)::bX I K now::fN K::row 205 3 (.slice A pend.length c) pend.length (jB pend)::blk d 56 (iU ⟨md,I,.slice A pend.length c,P⟩ ⟨dur,now,pend,left,full,down⟩)::fr) aQ<|sS<|sP (bq Z Z Z)<|sN<|sQ<|aC Z (λO=>?_) λO=>?_
  ·have T:k<pend.length:=by have:(k:Int)<(pend.length:Int):=O;omega
   obtain⟨o,ho⟩:∃o,pend[k]?=some o:=⟨pend[k],by simp[T]⟩;obtain⟨g,rfl⟩:∃g,A=some ⟨g,0,none⟩:=by
    cases A with
    |none=>have h0:pend.length=0:=(f1 rfl).1;omega
    |some ad=>obtain⟨g,rfl⟩:=f2 ad rfl;exact⟨g,rfl⟩
   have f9:=Gn ho;have d9:=FK.tZ (pend.take k) dur;have f7:(pend.take (k+1)).foldl FK.fx dur=FK.fx ((pend.take k).foldl FK.fx dur) o:=by rw[List.take_add_one,ho,List.foldl_append];rfl
   refine aa<|sT<|sQ<|ai<|sS<|sP (aV (z:=3) Z Z Z Z T)<|bF (bR (vs:=oh o) Z) (ne gP λj u hj=>Le ho j u hj)<|sO (cO (z:=.agg #[aA 0,.string .empty,.string .empty]) Z λb5=>sO<|bk (vs:=oh o) Z (m:=3) Z Z Z Z eG (by show 0+3<=3;omega) ?_)
   refine aB b5 (oh o).toArray Z<|sN<|sZ Z<|ea Z Z<|dy 0 Z Z Z<|bN Z (au Z) (ah Z)<|bN Z (bR (vs:=oh o) Z) (bl Z)<|dI 5 Z<|dP Z (yg (mb:=md) (P:=K) (fs:=(pend.take k).foldl FK.fx dur) (o:=o) (λ_ w hw=>by have:=FK.pK hw;omega)) (bo bJ dm) ?_
   rintro v m ⟨rfl,P2,d7,rfl⟩;refine aE<|dK [false,false] ak<|dE<|al<|sT<|sG<|sP (dM Z Z)<|sM Z<|ap<|aH (k+1,P2) T (by show pend.length-(k+1)<pend.length-k;omega) bW (by rw[f7];exact(gfE3.trans (l8 d7)).trans (by show Ent (bX I P2 now::_::_::_::_::_::fr) _;exact aG))
  ·have f8:k=pend.length:=by have:¬(k:Int)<(pend.length:Int):=O;omega
   rw[f8,List.take_length];refine aM<|aw<|az<|aq<|sT<|sS<|cE 2 Z Z<|bD Z Z Z Z fW<|sN<|sS<|sB Z<|an ?_
   have ht:σ.sync=(⟨pend.foldl FK.fx dur,now,[],left,full,down⟩,0):=by rw[J,if_neg di]
   rw[ht];refine aB d (iU ⟨md,I,cB,K⟩ ⟨pend.foldl FK.fx dur,now,[],left,full,down⟩) Z<|ar [aI d ⟨pend.foldl FK.fx dur,now,[],left,full,down⟩] rfl Z ec<|Ent.trans ?_<|cU ⟨md,I,cB,K⟩ ⟨pend.foldl FK.fx dur,now,[],left,full,down⟩
   refine(Ent.row0 (e:=205) (size:=3)).trans ?_;show Ent _ (blk d 56 (iU ⟨md,I,cB,K⟩ ⟨pend.foldl FK.fx dur,now,[],left,full,down⟩)::bX md K (pend.foldl FK.fx dur)::bX I K now::fN K::row 205 3 cB 0 []::fr);exact aG
 ·replace hv:=hv.trans (if_neg HE);subst hv;refine sG<|bY Z (fk Z Z)<|sN<|aK Z<|bp Z<|sB Z<|an<|aD ?_
  have ht:σ.sync=(⟨dur,now,pend,left,full,down⟩,e):=by rw[J,if_pos HE]
  rw[ht];exact ar [_] rfl Z ⟨(if_neg HE).symm,rfl⟩ aQ
end
end Go.Y
namespace Go.Proofs
open Go.Shelf Tryz
def cL{α:Type _}{a b:α}(h:a=b:=by kernel_rfl):some a=some b:=congrArg some h
def qB:Go.Shelf.Ren:=⟨fun|171=>137|243=>182|246=>214|283=>243|284=>244|285=>245|286=>246|129=>191|317=>265|318=>266|319=>267|320=>188|337=>215|338=>216|n=>n,fun|3=>3|9=>9|2=>2|4=>4|171=>364|0=>0|53=>36|37=>87|5=>5|173=>366|212=>384|51=>237|20=>20|213=>385|46=>240|232=>368|233=>369|n=>n,fun|17=>5|18=>3|19=>4|n=>n⟩
def vZ:Go.Proofs.LaysM.n171 prog qB:={
 mixed:=by kernel_rfl
 f129:=func191.trans cL
 f171:=func137.trans cL
 f243:=func182.trans cL
 f246:=func214.trans cL
 f283:=func243.trans cL
 f284:=func244.trans cL
 f285:=func245.trans cL
 f286:=func246.trans cL
 f317:=func265.trans cL
 f318:=func266.trans cL
 f319:=func267.trans cL
 f320:=func188.trans cL
 f337:=func215.trans cL
 f338:=func216.trans cL
 t0:=underlying0
 a0:=isAgg0
 z0:=sizeOf0
 v0:=zeroValue0
 t2:=underlying2
 a2:=isAgg2
 z2:=sizeOf2
 v2:=zeroValue2
 t3:=underlying3
 a3:=isAgg3
 z3:=sizeOf3
 v3:=zeroValue3
 t4:=underlying4
 a4:=isAgg4
 z4:=sizeOf4
 v4:=zeroValue4
 t5:=underlying5
 a5:=isAgg5
 z5:=sizeOf5
 v5:=zeroValue5
 t9:=underlying9
 a9:=isAgg9
 z9:=sizeOf9
 v9:=zeroValue9
 t20:=underlying20
 a20:=isAgg20
 z20:=sizeOf20
 v20:=zeroValue20
 t37:=underlying87
 a37:=isAgg87
 z37:=sizeOf87
 v37:=zeroValue87
 t46:=underlying240
 a46:=isAgg240
 z46:=sizeOf240
 v46:=zeroValue240
 t51:=underlying237
 a51:=isAgg237
 z51:=sizeOf237
 v51:=zeroValue237
 t53:=underlying36
 a53:=isAgg36
 z53:=sizeOf36
 v53:=zeroValue36
 t171:=underlying364
 a171:=isAgg364
 z171:=sizeOf364
 v171:=zeroValue364
 t173:=underlying366
 a173:=isAgg366
 z173:=sizeOf366
 v173:=zeroValue366
 t212:=underlying384
 a212:=isAgg384
 z212:=sizeOf384
 v212:=zeroValue384
 t213:=underlying385
 a213:=isAgg385
 z213:=sizeOf385
 t232:=underlying368
 a232:=isAgg368
 z232:=sizeOf368
 v232:=zeroValue368
 t233:=underlying369
 a233:=isAgg369
 z233:=sizeOf369
 v233:=zeroValue369
 g17:=by kernel_rfl
 g18:=by kernel_rfl
 g19:=by kernel_rfl
 i0:=by kernel_rfl
 i2:=by kernel_rfl
 i3:=by kernel_rfl
 i4:=by kernel_rfl
 i5:=by kernel_rfl
 i9:=by kernel_rfl
 i20:=by kernel_rfl
 i37:=by kernel_rfl
 i46:=by kernel_rfl
 i51:=by kernel_rfl
 i53:=by kernel_rfl
 i171:=by kernel_rfl
 i173:=by kernel_rfl
 i212:=by kernel_rfl
 i232:=by kernel_rfl
 i233:=by kernel_rfl
 m17:=by kernel_rfl
 m18:=by kernel_rfl
 m19:=by kernel_rfl}
open Go.RowKit Go.Sort Go.Lib in
theorem qy (n:Int) (h0:-9223372036854775808<=n) (h1:n<=9223372036854775807) (w:World) (htab:Lib.TabIs prog w "internal/strconv.uint64pow10" .u64 Lib.pow10Tab) :
 Calls prog 137 #[.int .i64 n] w λe w'=>e=.returned (.string ⟨(Lib.itoa n).toArray⟩)/\∃k os,w'=grow (w.drewN k) os:=Any.strconv_Itoa vZ n h0 h1 w htab
def qC:Go.Shelf.Ren:=⟨fun|172=>84|244=>133|245=>134|247=>176|279=>177|280=>178|281=>179|282=>180|287=>211|316=>212|171=>137|205=>213|321=>241|322=>242|243=>182|246=>214|283=>243|284=>244|285=>245|286=>246|129=>191|317=>265|318=>266|319=>267|320=>188|337=>215|338=>216|n=>n,fun|9=>9|3=>3|75=>62|76=>168|4=>4|5=>5|167=>288|37=>87|0=>0|85=>289|2=>2|168=>291|53=>36|175=>136|46=>240|210=>333|127=>360|145=>363|143=>361|21=>21|171=>364|173=>366|212=>384|51=>237|20=>20|213=>385|232=>368|233=>369|80=>392|n=>n,fun|15=>1|16=>2|17=>5|18=>3|19=>4|n=>n⟩
def wa:Go.Proofs.LaysC.n172 prog qC:={
 mixed:=by kernel_rfl
 f129:=func191.trans cL
 f171:=func137.trans cL
 f172:=func84.trans cL
 f205:=func213.trans cL
 f243:=func182.trans cL
 f244:=func133.trans cL
 f245:=func134.trans cL
 f246:=func214.trans cL
 f247:=func176.trans cL
 f279:=func177.trans cL
 f280:=func178.trans cL
 f281:=func179.trans cL
 f282:=func180.trans cL
 f283:=func243.trans cL
 f284:=func244.trans cL
 f285:=func245.trans cL
 f286:=func246.trans cL
 f287:=func211.trans cL
 f316:=func212.trans cL
 f317:=func265.trans cL
 f318:=func266.trans cL
 f319:=func267.trans cL
 f320:=func188.trans cL
 f321:=func241.trans cL
 f322:=func242.trans cL
 f337:=func215.trans cL
 f338:=func216.trans cL
 t0:=underlying0
 a0:=isAgg0
 z0:=sizeOf0
 v0:=zeroValue0
 t2:=underlying2
 a2:=isAgg2
 z2:=sizeOf2
 v2:=zeroValue2
 t3:=underlying3
 a3:=isAgg3
 z3:=sizeOf3
 v3:=zeroValue3
 t4:=underlying4
 a4:=isAgg4
 z4:=sizeOf4
 v4:=zeroValue4
 t5:=underlying5
 a5:=isAgg5
 z5:=sizeOf5
 v5:=zeroValue5
 t9:=underlying9
 a9:=isAgg9
 z9:=sizeOf9
 v9:=zeroValue9
 t20:=underlying20
 a20:=isAgg20
 z20:=sizeOf20
 v20:=zeroValue20
 t21:=underlying21
 a21:=isAgg21
 z21:=sizeOf21
 v21:=zeroValue21
 t37:=underlying87
 a37:=isAgg87
 z37:=sizeOf87
 v37:=zeroValue87
 t46:=underlying240
 a46:=isAgg240
 z46:=sizeOf240
 v46:=zeroValue240
 t51:=underlying237
 a51:=isAgg237
 z51:=sizeOf237
 v51:=zeroValue237
 t53:=underlying36
 a53:=isAgg36
 z53:=sizeOf36
 v53:=zeroValue36
 t75:=underlying62
 a75:=isAgg62
 z75:=sizeOf62
 v75:=zeroValue62
 t76:=underlying168
 a76:=isAgg168
 z76:=sizeOf168
 v76:=zeroValue168
 t85:=underlying289
 a85:=isAgg289
 z85:=sizeOf289
 v85:=zeroValue289
 t127:=underlying360
 a127:=isAgg360
 z127:=sizeOf360
 v127:=zeroValue360
 t143:=underlying361
 a143:=isAgg361
 z143:=sizeOf361
 v143:=zeroValue361
 t145:=underlying363
 a145:=isAgg363
 z145:=sizeOf363
 v145:=zeroValue363
 t167:=underlying288
 a167:=isAgg288
 z167:=sizeOf288
 v167:=zeroValue288
 t168:=underlying291
 a168:=isAgg291
 z168:=sizeOf291
 v168:=zeroValue291
 t171:=underlying364
 a171:=isAgg364
 z171:=sizeOf364
 v171:=zeroValue364
 t173:=underlying366
 a173:=isAgg366
 z173:=sizeOf366
 v173:=zeroValue366
 t175:=underlying136
 a175:=isAgg136
 z175:=sizeOf136
 v175:=zeroValue136
 t210:=underlying333
 a210:=isAgg333
 z210:=sizeOf333
 v210:=zeroValue333
 t212:=underlying384
 a212:=isAgg384
 z212:=sizeOf384
 v212:=zeroValue384
 t213:=underlying385
 a213:=isAgg385
 z213:=sizeOf385
 t232:=underlying368
 a232:=isAgg368
 z232:=sizeOf368
 v232:=zeroValue368
 t233:=underlying369
 a233:=isAgg369
 z233:=sizeOf369
 v233:=zeroValue369
 g15:=by kernel_rfl
 g16:=by kernel_rfl
 g17:=by kernel_rfl
 g18:=by kernel_rfl
 g19:=by kernel_rfl
 t80:=underlying392
 a80:=isAgg392
 z80:=sizeOf392
 v80:=zeroValue392
 i0:=by kernel_rfl
 i2:=by kernel_rfl
 i3:=by kernel_rfl
 i4:=by kernel_rfl
 i5:=by kernel_rfl
 i9:=by kernel_rfl
 i20:=by kernel_rfl
 i21:=by kernel_rfl
 i37:=by kernel_rfl
 i46:=by kernel_rfl
 i51:=by kernel_rfl
 i53:=by kernel_rfl
 i75:=by kernel_rfl
 i76:=by kernel_rfl
 i80:=by kernel_rfl
 i85:=by kernel_rfl
 i127:=by kernel_rfl
 i143:=by kernel_rfl
 i145:=by kernel_rfl
 i167:=by kernel_rfl
 i168:=by kernel_rfl
 i171:=by kernel_rfl
 i173:=by kernel_rfl
 i175:=by kernel_rfl
 i210:=by kernel_rfl
 i212:=by kernel_rfl
 i232:=by kernel_rfl
 i233:=by kernel_rfl
 m15:=by kernel_rfl
 m16:=by kernel_rfl
 m17:=by kernel_rfl
 m18:=by kernel_rfl
 m19:=by kernel_rfl
 c0:=by kernel_rfl
 c2:=by kernel_rfl
 c3:=by kernel_rfl
 c4:=by kernel_rfl
 c5:=by kernel_rfl
 c9:=by kernel_rfl
 c20:=by kernel_rfl
 c21:=by kernel_rfl
 c37:=by kernel_rfl
 c46:=by kernel_rfl
 c51:=by kernel_rfl
 c53:=by kernel_rfl
 c75:=by kernel_rfl
 c76:=by kernel_rfl
 c80:=by kernel_rfl
 c85:=by kernel_rfl
 c127:=by kernel_rfl
 c143:=by kernel_rfl
 c145:=by kernel_rfl
 c167:=by kernel_rfl
 c168:=by kernel_rfl
 c171:=by kernel_rfl
 c173:=by kernel_rfl
 c175:=by kernel_rfl
 c210:=by kernel_rfl
 c212:=by kernel_rfl
 c213:=by kernel_rfl
 c232:=by kernel_rfl
 c233:=by kernel_rfl}
open Go.RowKit in
theorem nr (s:ByteArray) (hl:s.size<=18) (h:Lib.atoi s.data.toList=none) (ev:Value) (w:World) (hv:w.cell? ⟨1,0,none⟩=some ev) (hev:ev=.nilIface\/∃te pe,ev=.iface te pe) :
 Calls prog 84 #[.string s] w λe w'=>∃N,e=.returned (.tuple #[.int .i64 0,.iface 291 (.pointer (some ⟨N,0,none⟩))])/\w.heap.size<=N/\w'.heap[N]?=some (.cells #[.string ⟨#[65,116,111,105]⟩,.string s,ev] 333 (0,0))/\Below w.heap.size w w':=Any.strconv_Atoi_err wa s hl h ev w hv hev
end Go.Proofs
namespace FK
structure Jn where
 n:Nat
 torn:Bool
 broken:Int
def wl(n:Nat):ByteArray:=⟨(Go.Lib.decDigits n).toArray⟩
def cm(n:Nat):ByteArray:=⟨#[108,111,103]⟩++wl n
def mu(n:Nat):ByteArray:=⟨#[98,97,115,101]⟩++wl n
def Jn.add(J:Jn)(σ:Dsk)(s:ByteArray):Jn×Dsk×Int:=
 if J.broken≠0 then(J,σ,J.broken) else if (σ.tell ⟨2,cm J.n,s⟩).2≠0 then({J with broken:=(σ.tell ⟨2,cm J.n,s⟩).2},(σ.tell ⟨2,cm J.n,s⟩).1,(σ.tell ⟨2,cm J.n,s⟩).2)
 else({J with broken:=(σ.tell ⟨2,cm J.n,s⟩).1.sync.2},(σ.tell ⟨2,cm J.n,s⟩).1.sync.1,(σ.tell ⟨2,cm J.n,s⟩).1.sync.2)
end FK
variable{J:FK.Jn}
namespace Go.Y
open Go.Proofs Tryz
open Go Go.RowKit Go.SL
def mq(e:Int):(dU e).oneCell'=true:=by
 unfold dU
 split<;>rfl
def yf{P:Program}{t:TypeId}(E:ev ts x=some (.iface t v)):Ev P ts (.nilCheck x) (.iface t v) Any:=by
 intro a w _ _ _ _ _ k _;simp[execOp,k.eval E]
theorem Lq(p:Addr)(w:World):(Go.method (prog.types.size+Made.depth) 52 (.pointer (some p)) "Append").run prog w=.ok (293,.pointer (some p)) w:=by kernel_rfl
def zj(p:Addr)(w:World):(Go.method (prog.types.size+Made.depth) 52 (.pointer (some p)) "Sync").run prog w=.ok (297,.pointer (some p)) w:=by kernel_rfl
def Ir(p:Addr)(w:World):(Go.method (prog.types.size+Made.depth) 52 (.pointer (some p)) "Names").run prog w=.ok (294,.pointer (some p)) w:=by kernel_rfl
def Hw(p:Addr)(w:World):(Go.method (prog.types.size+Made.depth) 52 (.pointer (some p)) "Read").run prog w=.ok (295,.pointer (some p)) w:=by kernel_rfl
def Lp(p:Addr)(w:World):(Go.method (prog.types.size+Made.depth) 52 (.pointer (some p)) "Remove").run prog w=.ok (296,.pointer (some p)) w:=by kernel_rfl
abbrev o5(d:Nat)(J:FK.Jn):Array Value:=#[.iface 52 (aY d),aA J.n,.bool J.torn,dU J.broken]
abbrev aS(j d:Nat)(J:FK.Jn):HP:=blk j 164 (o5 d J)
def GK(K:n<1000000):dS 137 [aA n] [] λv m=>v=cX (FK.wl n)/\m=[]:=
 (fg (G:=Good) (φ:=λ_=>True) λ_ w E hw _=>(qy n am am w (E.pow w hw)).mono λ_ _ ⟨I,k,os,J⟩=>⟨by rw[I,Lib.itoa_nonneg];rfl,by rw[J];exact Lib.below_grow _ _ (cx _) k os⟩).does
def Ka(n:Nat)(E:n<1000000):(FK.wl n).size<=21:=by
 have h:=Lib.itoa_length_le (n:Int) am am;rw[Lib.itoa_nonneg]at h;have e:(FK.wl n).size=(Lib.decDigits n).length:=by
  show(Lib.decDigits n).toArray.size=_;simp
 omega
def jd{kind:ByteArray}(I:n<1000000)(hk:kind.size<=1000):dS 87 [cX kind,aA n] [] λv m=>v=cX (kind++FK.wl n)/\m=[]:=by
 have K:=Ka n I;refine bz func87 Z λE fr J=>aW<|sS<|sB Z<|bp Z<|sM Z<|bV Z (GK I) aQ<|aW<|sP (xi Z Z am)<|sB Z<|an<|ar [] rfl Z ⟨rfl,rfl⟩ aQ
def oM(bs:List UInt8)(h:bs.length<=1099511627776):(FK.frame bs).length<=bs.length+14:=by
 have:=gC (n:=bs.length) am;unfold FK.frame FK.jA;simp;omega
structure Roomy(σ:FK.Dsk):Prop where
 now:FK.l9 σ.now<=4611686018427387904
 dur:FK.l9 σ.dur+FK.jh σ.pend<=4611686018427387904
 pend:σ.pend.length<=1000000000000
def CK(σ:FK.Dsk)(o:FK.DOp):((σ.tell o).1.dur=σ.dur)/\((σ.tell o).1.pend=σ.pend\/(σ.tell o).1.pend=σ.pend++[o])/\((σ.tell o).1.now=σ.now\/(σ.tell o).1.now=FK.fx σ.now o):=by
 have hw:σ.writes.1.now=σ.now/\σ.writes.1.dur=σ.dur/\σ.writes.1.pend=σ.pend:=by
  unfold FK.Dsk.writes;split
  ·exact⟨rfl,rfl,rfl⟩
  ·split<;>exact⟨rfl,rfl,rfl⟩
 unfold FK.Dsk.tell
 split
 ·exact⟨hw.2.1,.inr (by show σ.writes.1.pend++[o]=_;rw[hw.2.2]),.inl hw.1⟩
 ·split
  ·exact⟨hw.2.1,.inl hw.2.2,.inl hw.1⟩
  ·split
   ·exact⟨hw.2.1,.inl hw.2.2,.inl hw.1⟩
   ·exact⟨hw.2.1,.inr (by show σ.writes.1.pend++[o]=_;rw[hw.2.2]),.inr (by show FK.fx σ.writes.1.now o=_;rw[hw.1])⟩
def AC{p:HP}(c:Nat)(hn:J.n<1000000)(hp:Reads p A bs)(hA:A=none->bs=[])(hl:bs.length<=1000000000000)(hr:Roomy σ):dS 122 [aY j,.slice A bs.length c] [aS j d J,aI d σ,p] λv m=>v=dU (J.add σ (gD (FK.frame bs))).2.2/\m=[aS j d (J.add σ (gD (FK.frame bs))).1,aI d (J.add σ (gD (FK.frame bs))).2.1,p]:=by
 have f9:=oM bs am;have h1:=hr.now;have h2:=hr.dur;have h3:=hr.pend;refine bz func122 Z λE fr hE=>cF<|sS<|sB Z<|sQ<|sQ ?_
 by_cases T:J.broken=0
 ·have I:J.add σ (gD (FK.frame bs))=if (σ.tell ⟨2,FK.cm J.n,(gD (FK.frame bs))⟩).2≠0 then({J with broken:=(σ.tell ⟨2,FK.cm J.n,(gD (FK.frame bs))⟩).2},(σ.tell ⟨2,FK.cm J.n,(gD (FK.frame bs))⟩).1,(σ.tell ⟨2,FK.cm J.n,(gD (FK.frame bs))⟩).2) else({J with broken:=(σ.tell ⟨2,FK.cm J.n,(gD (FK.frame bs))⟩).1.sync.2},(σ.tell ⟨2,FK.cm J.n,(gD (FK.frame bs))⟩).1.sync.1,(σ.tell ⟨2,FK.cm J.n,(gD (FK.frame bs))⟩).1.sync.2):=by unfold FK.Jn.add;rw[if_neg (by rw[T];simp)]
  refine aB j #[.iface 52 (aY d),aA J.n,.bool J.torn,.nilIface] (by unfold o5 dU;rw[if_pos T])<|sG<|cE 3 Z Z<|aL Z Z Z Z<|sP (lE Z Z)<|sN<|aK Z<|sZ Z<|ea Z Z<|cC Z Z<|dy 0 Z Z Z<|bN Z (au Z) (ah Z)<|cC Z Z<|dy 1 Z Z Z<|bN Z (au Z) (ah Z)<|dx 10 Z (bg Z)<|dx 12 Z (yf Z)<|cC Z Z<|dI 9 Z<|dP Z (jd (kind:=⟨#[108,111,103]⟩) hn fh) aQ ?_
  rintro v m ⟨rfl,rfl⟩;refine aW<|dK [false,true] (aj (ah Z) ak)<|dI 11 Z<|dP Z (BS c hp hA am) gfE2 ?_
  rintro v m rfl;refine aE<|dK [true] (aj (ah Z) ak)<|dI 14 Z<|gw Z Z Z (Lq ⟨d,0,none⟩) Z hE (Cj (name:=FK.cm J.n) am am am) (bo gP .head) ?_
  rintro v m ⟨rfl,rfl⟩;refine ae ?_;obtain⟨ω,hω⟩:∃ω,ω=σ.tell ⟨2,FK.cm J.n,(gD (FK.frame bs))⟩:=⟨_,rfl⟩;have K:=CK σ ⟨2,FK.cm J.n,(gD (FK.frame bs))⟩;rw[<-hω]at K I ⊢;obtain⟨O,e1⟩:=ω;have d8:(gD (FK.frame bs)).size=(FK.frame bs).length:=pU _;obtain⟨d7,d6,-⟩:=K;have d9:FK.jh (σ.pend++[⟨2,FK.cm J.n,(gD (FK.frame bs))⟩])=FK.jh σ.pend+(FK.frame bs).length:=by simp[FK.jh,d8]
  have f7:FK.l9 O.dur+FK.jh O.pend<=9223372036854775807:=by
   rw[d7];rcases d6 with h|h<;>rw[h]
   ·omega
   ·rw[d9];omega
  have f8:O.pend.length<=1099511627776:=by
   rcases d6 with h|h<;>rw[h]
   ·omega
   ·rw[List.length_append];simp;omega
  refine dK [true] (aj (ah Z) ak)<|dx 15 Z (cI Z)<|bB Z (bd 3 Z)<|dI 17 Z<|cq Z Z Z Z (mq _) (by show 3<4;omega)<|dK [false] ak<|dE<|sT<|sQ<|sQ ?_
  by_cases Y:e1=0
  ·refine aB j #[.iface 52 (aY d),aA J.n,.bool J.torn,.nilIface] (by show(#[_,_,_,dU e1]:Array Value)=_;unfold dU;rw[if_pos Y]) ?_;have ht:J.add σ (gD (FK.frame bs))=({J with broken:=O.sync.2},O.sync.1,O.sync.2):=by rw[I,if_neg (λh=>h Y)]
   refine sG<|cE 3 Z Z<|aL Z Z Z Z<|sP (lE Z Z)<|sN<|aK Z<|sG<|sM Z<|cE 0 Z Z<|aL Z Z Z Z<|sO<|gw Z Z Z (zj ⟨d,0,none⟩) Z hE (my f7 f8) gfE1 ?_
   rintro v m ⟨rfl,rfl⟩;refine ae<|cZ Z<|bm 3 Z<|bD Z Z Z (mq _) (by show 3<4;omega)<|sN<|sS<|cE 3 Z Z<|aL Z Z Z Z<|sB Z<|an ?_
   rw[ht];exact ar [aS j d {J with broken:=O.sync.2},aI d O.sync.1,p] rfl Z ec aQ
  ·refine aB j #[.iface 52 (aY d),aA J.n,.bool J.torn,.iface 28 (aA e1)] (by show(#[_,_,_,dU e1]:Array Value)=_;unfold dU;rw[if_neg Y]) ?_;have ht:J.add σ (gD (FK.frame bs))=({J with broken:=e1},O,e1):=by rw[I,if_pos Y]
   refine sG<|cE 3 Z Z<|aL Z Z Z Z<|sP (eu Z Z)<|sN<|ag Z<|aa<|sT<|sS<|cE 3 Z Z<|aL Z Z Z Z<|sB Z<|an ?_
   rw[ht];refine ar [aS j d {J with broken:=e1},aI d O,p] rfl Z ⟨(if_neg Y).symm,rfl⟩ ?_;show Ent _ (blk j 164 #[_,_,_,dU e1]::aI d O::p::fr);unfold dU;rw[if_neg Y];exact aQ
 ·have I:J.add σ (gD (FK.frame bs))=(J,σ,J.broken):=by unfold FK.Jn.add;rw[if_pos T]
  rw[I];refine aB j #[.iface 52 (aY d),aA J.n,.bool J.torn,.iface 28 (aA J.broken)] (by unfold o5 dU;rw[if_neg T])<|sG<|cE 3 Z Z<|aL Z Z Z Z<|sP (eu Z Z)<|sN<|ag Z<|aa<|sT<|sQ<|sS<|cE 3 Z Z<|aL Z Z Z Z<|sP (eu Z Z)<|ap<|sT<|ag Z<|aa<|sT<|sS<|cE 3 Z Z<|aL Z Z Z Z<|sB Z<|an<|ar [aS j d J,aI d σ,p] rfl Z ⟨(if_neg T).symm,rfl⟩ ?_
  show Ent _ (blk j 164 #[_,_,_,dU J.broken]::aI d σ::p::fr);unfold dU;rw[if_neg T];exact aQ
end Go.Y
namespace FK
def Al{len:Nat}:∀(l:List Int) (p:Int),-1<=p->EdgesOk len p l->∀x∈l,0<=x/\x<len
 | [],_,_,_=>by intro x E;simp at E
 |y::l,p,hp,h=>by
  intro x E;obtain⟨I,J,h3⟩:=h;rcases List.mem_cons.1 E with rfl|E
  ·omega
  ·exact Al l y am h3 x E
def Fit.after{f:Flow}(h:Fit f):∀nd∈f.NO,∀x∈nd.after,0<=x/\x<(f.NO.length:Int):=λnd hnd x E=>by
 obtain⟨i,hi⟩:=List.getElem?_of_mem hnd;exact Al _ _ am (h.NO i nd (eK hi) hi).2 x E
def Fit.node(h:Fit f){nd:Node}(hnd:nd∈f.NO):fY nd:=by
 obtain⟨i,hi⟩:=List.getElem?_of_mem hnd;exact(h.NO i nd (eK hi) hi).1
def FO{nd:Node}(h:fY nd)(k:Int)(seed:Nat):0<=gE nd.base nd.cap nd.NS k seed/\gE nd.base nd.cap nd.NS k seed<=2097152:=by
 obtain⟨_,_,_,_,⟨E,I⟩,⟨J,K⟩,O,T⟩:=h;have Y:0<=(seed:Int)%(nd.NS+1)/\(seed:Int)%(nd.NS+1)<nd.NS+1:=⟨Int.emod_nonneg _ am,Int.emod_lt_of_pos _ am⟩;unfold gE;have hp:0<=nd.base*2 ^ (k.toNat-1):=Int.mul_nonneg am (Int.pow_nonneg am)
 split
 ·omega
 ·split
  ·have:min nd.cap (nd.base*2 ^ (k.toNat-1))<=nd.cap:=Int.min_le_left _ _
   have:0<=min nd.cap (nd.base*2 ^ (k.toNat-1)):=am;omega
  ·omega
end FK
namespace Go.Y
open Go.Proofs Tryz
open Go Go.RowKit Go.SL
section
variable{t:Nat}{s:FK.Sp}{P:FK.Pl}
def Gh(E I ji k seed:Int):gG E I ji k seed=FK.gE E I ji k seed:=rfl
def GT(h:FK.Fit f):∀n∈f.NO,(i64 n.NR/\i64 n.close/\i64 n.beat/\i64 n.base/\i64 n.cap/\i64 n.NS)/\∀x∈n.after,i64 x:=λn E=>by
 obtain⟨K,O,⟨T,Y⟩,⟨c1,c2⟩,⟨d1,d2⟩,⟨e1,e2⟩,f1,f2⟩:=h.node E;have J:=h.head.2.2;refine⟨⟨?_,?_,?_,?_,?_,?_⟩,λx I=>?_⟩
 all_goals first|(unfold i64;omega)|(have:=h.after n E x I;unfold i64;omega)
def Ag(h:FK.Ok S)(K:S.getR id=some R)(hs:R.NN[k]?=some s)(I:S.sets+1<9223372036854775807)(J:S.ends<9223372036854775807):dS 199 [aY e,jj ⟨id,(k:Int),wh⟩] [aP e p S] λv m=>v=.tuple #[]/\m=[aP e p (S.failed id k)]:=by
 obtain⟨nd,hn,hp⟩:=h.node K hs;have O:=h.run id R K;have hnd:=cg hn;have Y:=O.fl.node hnd;have d7:=O.fl.head.2.2;have hw:=FK.FO Y s.NM S.seed;have hq:=h.queueLe;have ht:=h.tmsLe;obtain⟨a1,a2,⟨b1,b2⟩,⟨c1,c2⟩,⟨d1,d2⟩,⟨e1,e2⟩,f1,f2⟩:=Y;refine(Ec (G:=Good) (wh:=wh) (λE w hE hw=>hE.tab w hw) K hs hn O.len d7 O.fl.after (GT O.fl) am am J h.now I h.seed d1 e1 e2 f1 f2 (by rw[Gh];omega)).mono ?_;rintro v m ⟨rfl,⟨h1,rfl⟩|⟨h1,left,T,ho,d6,rfl⟩⟩
 ·refine⟨_,⟨rfl,rfl⟩,?_⟩
  rw[FK.kY K hs hn,if_pos h1];exact aQ
 ·refine⟨_,⟨rfl,rfl⟩,?_⟩
  rw[FK.kY K hs hn,if_neg am,FK.LR h K ho d6];exact aQ
def EY(h:FK.Ok S){q:List FK.Pl}{nd:FK.Node}(hq:S.NP=⟨id,(k:Int),0⟩::q)(J:S.getR id=some R)(O:R.NN[k]?=some s)(K:R.fl.NO[k]?=some nd)(E:S.sets+1<9223372036854775807)(I:S.NK<9223372036854775807):dS 127 [aY e] [aP e p S] λv m=>v=.tuple #[gA id k (s.NM+1) (S.NK+1),.bool true]/\m=[aP e p (S.hand ⟨id,(k:Int),0⟩ q R s nd)]:=by
 have Y:=(h.run id R J).sp k s nd O K;have T:=h.tmsLe;obtain⟨a1,a2,⟨b1,b2⟩,⟨c1,c2⟩,_⟩:=(h.run id R J).fl.node (cg K);have h1:=Y.tr0;have h2:=Y.trb;exact Dt hq J O K h.now am am am E am I (λt T=>(h.tlow t T).2) h1 am
def sc(h:FK.Ok S)(J:(S.NQ.find? (·.1==t)).map (·.2)=some P)(E:S.ends<9223372036854775807):dS 151 [aY e,aU t] [aP e p S] λv m=>v=.tuple #[]/\m=[aP e p (S.complete t)]:=by
 obtain⟨id,k,R,s,n,rfl,K,O,hn,_⟩:=h.find J;have I:=h.run id R K;have hq:=h.queueLe;have T:=h.tmsLe;have Y:=I.fl.head.2.2;exact vX J K O I.len I.fl.after am am am E
def FA(h:FK.Ok S){nd:FK.Node}(K:(S.NQ.find? (·.1==t)).map (·.2)=some ⟨id,(k:Int),wh⟩)(I:S.getR id=some R)(J:R.fl.NO[k]?=some nd)(E:S.sets<9223372036854775807):dS 150 [aY e,aU t] [aP e p S] λv m=>v=.tuple #[]/\m=[aP e p (S.life ⟨id,(k:Int),wh⟩ nd)]:=by
 have O:=h.tmsLe;obtain⟨_,_,_,⟨T,Y⟩,_⟩:=(h.run id R I).fl.node (cg J);exact Hm K I J h.now am E am
def xq(h:FK.Ok S)(I:S.getR id=some R)(E:S.ends<9223372036854775807):dS 153 [aY e,aU id] [aP e p S] λv m=>v=.tuple #[]/\m=[aP e p (S.finish id 4)]:=by
 have J:=h.run id R I;have T:=h.queueLe;have K:=h.tmsLe;have O:=J.fl.head.2.2;have Y:=J.len;exact Cf I am am am E
def GU(h:FK.Ok S)(st:Int)(I:S.getR id=some R)(E:S.ends<9223372036854775807):dS 200 [aY e,aU id,aA st] [aP e p S] λv m=>v=.tuple #[]/\m=[aP e p (S.finish id st)]:=by
 have J:=h.run id R I;have T:=h.queueLe;have K:=h.tmsLe;have O:=J.fl.head.2.2;have Y:=J.len;exact n9 I am am am E
def K7(h:FK.Ok S):S.QueueOk:=λp K=>by
 obtain⟨id,k,s,rfl,O,Y⟩:=(h.NP p).1 K;obtain⟨R,I,J⟩:=FK.jX O;obtain⟨n,T,E⟩:=h.node I J;obtain⟨a1,a2,_⟩:=(h.run id R I).fl.node (cg T);have h3:=E.tr0;have h4:=E.trb;exact⟨by show(0:Int)<=(k:Int);omega,R,s,I,by rw[Int.toNat_natCast];exact J,h3,am⟩
def Jb(h:FK.Ok S):dS 118 [aY e] [aP e p S] λv m=>m=[aP e p S,row 95 4 v S.NP.length (qV S S.NP)]:=
 Ds (K7 h) (by have:=h.queueLe;omega)
def Jc(h:FK.Ok S)(E:S.getR id=some R):dS 116 [aY e,aU id] [aP e p S] λv m=>∃I J,v=.tuple #[.agg (cv id R.state I J).toArray,.bool true]/\m=[aP e p S,bL I (R.NN.map (·.state)),bL J (R.NN.map (·.NM))]:=by
 have K:=h.run id R E;have O:=K.fl.head.2.2;have T:=K.len;exact Br E am
def Fp(h:FK.Ok S)(K:(S.NQ.find? (·.1==t)).map (·.2)=some P)(I:S.sets+1<9223372036854775807)(J:S.ends<9223372036854775807):dS 152 [aY e,aU t] [aP e p S] λv m=>v=.tuple #[]/\m=[aP e p (S.fail t)]:=by
 obtain⟨id,k,R,s,n,rfl,O,T,hn,_⟩:=h.find K;rw[FK.tw K];refine bz func152 Z λE fr Y=>ae<|sG<|sM Z<|cE 2 Z Z<|bF (au (v:=.map (some p.tm)) Z) eN<|sM Z<|bF (hZ (m:=ep S) Z fK Z Z (Ic K)) oO<|bV Z (Ag h O T I J) aQ<|ae<|ap<|bt [_] rfl ⟨rfl,rfl⟩ aQ
end
end Go.Y
namespace FK
end FK
namespace Go.Y
open Go.Proofs Tryz
open Go Go.RowKit Go.SL
def EQ(h:FK.Ok S)(hn:n<18446744073709551616)(LE:S.sets<=4611686018427387904)(LT:S.ends<=4611686018427387904):dS 154 [aY e,aU n] [aP e p S] λv m=>v=.tuple #[]/\∃U,FK.Ticks (S.later n) S U/\m=[aP e p U]:=by
 have NW:=h.massLe;have N0:=h.now;obtain⟨up,t8⟩:∃up,up=S.later n:=⟨_,rfl⟩;have Fd:up=min (S.now+n) 4611686018427387904:=t8;rw[<-t8];obtain⟨q,hq⟩:∃q,q=(S.now+n)%18446744073709551616:=⟨_,rfl⟩;refine bz func154 Z λE fr hE=>ae<|sS<|cE 6 Z Z<|bF (au Z) eN<|bV Z x9 aQ<|ae<|sB Z<|bp Z<|bY Z (bH (r:=(q:Int)) Z Z (by rw[li];omega))<|sB Z<|sQ<|cu (X:=Nat) (λy=>[(5,cd y),(0,aY e)]) (λ_=>aP e p S::fr) (λy=>min y 4611686018427387904=up) ?_ ?_
 ·refine bp Z<|bY Z (bq Z Z Z)<|sN<|aC Z (λNT=>?_) λNT=>?_
  ·refine sG<|sA Z<|ap<|aT 4611686018427387904 am bW aQ
  ·refine aa<|aT q (by rw[Fd];omega) bW aQ
 intro y hy;refine bp Z<|sP (IC (r:=(up:Int)) Z Z am)<|sB Z<|ai<|aO (X:=FK.En) (λ_=>[(5,cd up),(0,aY e)]) (λT=>aP e p T::fr) (λT=>FK.Ok T/\T.now<=up/\T.sets+T.mass<=S.sets+S.mass/\T.ends+T.mass<=S.ends+S.mass/\∀U,FK.Ticks up T U->FK.Ticks up S U) (λT=>T.mass) S ⟨h,am,cx _,cx _,λ_ h=>h⟩ bW aQ ?_
 rintro T ⟨hT,mt,N2,N3,BT⟩;replace mt:T.now<=up:=mt;refine ai<|sQ ?_
 by_cases HD:∀y∈T.tms,up<y.2
 ·refine sG<|cE 6 Z Z<|bF (au Z) eN<|sM Z<|bQ Z (EX up mt am am (by have:=hT.tmsLe;omega)) aQ ?_
  rintro v m hP;obtain⟨rfl,rfl⟩:v=.tuple #[jj ⟨0,0,0⟩,cd 0,.bool false]/\m=[aP e p {T with now:=up}]:=by
   rcases hP with⟨x,d7,hm,t7,_,_⟩|⟨_,J,h2⟩
   ·have:=HD x hm.mem;omega
   ·exact⟨J,h2⟩
  refine ae<|sM Z<|bG Z Z<|bG Z Z<|bG Z Z<|sO (cO (z:=.agg #[cd 0,aA 0,aA 0]) Z λb6=>sO<|bk (vs:=ja ⟨0,0,0⟩) Z (m:=3) Z Z Z Z eG (by show 0+3<=3;omega) (sA Z<|sB Z<|ai<|bp Z<|sP (cA Z Z)<|sB Z<|aK Z<|an<|aJ<|aJ<|bM<|aJ<|bt [_] rfl ⟨rfl,_,BT _ (.done HD),rfl⟩ Ent.drop))
 ·refine sG<|cE 6 Z Z<|bF (au Z) eN<|sM Z<|bQ Z (EX up mt am am (by have:=hT.tmsLe;omega)) aQ ?_
  rintro v m hP;obtain⟨x,d7,hm,t7,rfl,rfl⟩:∃(x:FK.KD) (d7:List FK.KD),FK.IsMin T.tms x d7/\x.2<=up/\v=.tuple #[jj x.1,cd x.2,.bool true]/\m=[aP e p {T with now:=x.2,tms:=d7}]:=by
   rcases hP with h|⟨J,_⟩
   ·exact h
   ·exact absurd J HD
  refine ae<|sM Z<|bG Z Z<|bG Z Z<|bG Z Z<|sO (cO (z:=.agg #[cd 0,aA 0,aA 0]) Z λb6=>sO<|bk (vs:=ja x.1) Z (m:=3) Z Z Z Z eG (by show 0+3<=3;omega) ?_)
  refine sA Z<|sB Z<|ai<|sQ<|aB b6 (ja x.1).toArray Z ?_
  obtain⟨d9,NV,R,hR,f9⟩:=hT.pop hm;obtain⟨W,hW⟩:∃W:FK.En,W={T with now:=x.2,tms:=d7}:=⟨_,rfl⟩;have N4:W.mass=T.mass:=by rw[hW];rfl
  have N5:W.sets=T.sets:=by rw[hW]
  have N6:W.ends=T.ends:=by rw[hW]
  have I:W.getR x.1.run=some R:=by rw[hW];exact hR
  have In:∀y∈W.tms,y.1≠x.1:=by rw[hW];exact NV
  rw[<-hW]at d9 ⊢;have O:=d9.due_less I f9;have d8:=d9.due I f9 In;have Y:∀U,FK.Ticks up (W.due x.1) U->FK.Ticks up S U:=λU hU=>BT U (.step hm t7 (hW▸hU));have NX:=O.mass;have NY:=O.sets;have NZ:=O.ends;have d6:(W.due x.1).now<=up:=by rw[O.now,hW];exact t7
  refine sG<|bY Z (cA Z Z)<|sB Z<|ag Z<|sS<|bm 2 Z<|aL Z Z Z Z<|sP (bc Z Z Z)<|sB Z<|aC Z (λK=>?_) λK=>?_
  ·obtain⟨N1,f7⟩:x.1=⟨x.1.run,-1,0⟩/\W.due x.1=W.finish x.1.run 5:=by
    rcases FK.jP I f9 with h|⟨k,s,hs,⟨J,_,_⟩|⟨J,_,_⟩⟩
    ·exact h
    ·rw[J]at K;exact absurd (show(1:Int)=0 from K) fh
    ·rcases J with J|J
     ·rw[J]at K;exact absurd (show(1:Int)=0 from K) fh
     ·rw[J]at K;exact absurd (show(2:Int)=0 from K) fh
   refine sG<|sM Z<|bm 0 Z<|aL Z Z Z Z<|bV Z (GU d9 5 I am) gfE1<|ae<|ap<|al<|al<|aH (W.due x.1) ⟨d8,d6,am,am,Y⟩ am bW (by rw[f7];exact Ent.cons Ent.drop)
  ·obtain⟨k,s,hs,wf,f7⟩:∃(k:Nat) (s:FK.Sp),R.NN[k]?=some s/\x.1.node=(k:Int)/\((s.state=4/\W.due x.1=W.ready x.1.run k)\/(s.state=3/\W.due x.1=W.failed x.1.run k)):=by
    rcases FK.jP I f9 with⟨J,_⟩|⟨k,s,hs,⟨J,h2,h3⟩|⟨J,h2,h3⟩⟩
    ·rw[J]at K;exact absurd rfl K
    ·exact⟨k,s,hs,by rw[J],.inl ⟨h2,h3⟩⟩
    ·exact⟨k,s,hs,by rcases J with J|J<;>rw[J],.inr ⟨h2,h3⟩⟩
   obtain⟨⟨id,nd,wh⟩,at_⟩:=x;simp only at wf I f7 NX NY NZ d6 d8 Y;subst wf;refine sQ<|sZ Z<|ea Z Z<|dy 1 Z Z Z<|jW 3 Z (au Z) eN<|dx 4 Z (bd 0 Z)<|bN Z (au Z) (ah Z)<|bN Z (hZ (a:=id) (v:=aY (p.fb id)) Z fK Z Z (gR I)) eA<|bB Z (bd 1 Z)<|bN Z (au Z) (ah Z)<|xx Z (fd Z Z Z Z Z Z λNU=>dK [true,true,true,true] (aj (ah Z) (aj eA (aj (ah Z) (aj eN ak)))) (dI 10 Z<|dP Z (tq [4] (some ⟨NU,0,none⟩) 1 I hs) ((bo dm .head).trans (Ent.cons (i8 (xs:=[4]) (show 1<=9223372036854775807 by omega)))) ?_))
   rintro v m ⟨rfl,rfl⟩;refine ae<|dK [false,false,true,true] (aj (ah Z) (aj eN ak))<|dx 11 Z (aX Z)<|dE<|sT<|aC Z (λt6=>?_) λt6=>?_
   ·have h4:s.state=4:=by simpa using t6
    have f8:W.due ⟨id,(k:Int),wh⟩=W.ready id k:=by rcases f7 with h|h;exact h.2;omega
    refine sG<|sM Z<|bF (bR (vs:=ja ⟨id,(k:Int),wh⟩) Z) (bl Z)<|bV Z (vg (wh:=wh) I hs (by have:=d9.queueLe;omega)) aQ<|ae<|ap<|al<|al<|aH (W.due ⟨id,(k:Int),wh⟩) ⟨d8,d6,am,am,Y⟩ am bW (by rw[f8];exact Ent.cons Ent.drop)
   ·have h4:¬s.state=4:=by simpa using t6
    have f8:W.due ⟨id,(k:Int),wh⟩=W.failed id k:=by rcases f7 with h|h;omega;exact h.2
    refine sG<|sM Z<|bF (bR (vs:=ja ⟨id,(k:Int),wh⟩) Z) (bl Z)<|bV Z (Ag d9 (wh:=wh) I hs am am) aQ<|ae<|ap<|al<|al<|aH (W.due ⟨id,(k:Int),wh⟩) ⟨d8,d6,am,am,Y⟩ am bW (by rw[f8];exact Ent.cons Ent.drop)
end Go.Y
namespace FK
def cS(op n:Nat):List UInt8:=UInt8.ofNat op::dJ n
end FK
namespace Go.Y
open Go.Proofs Tryz
open Go Go.RowKit Go.SL
abbrev jE(f e:Nat)(jv:Value):HP:=blk f 110 #[aY e,jv]
abbrev dO(f e j:Nat):HP:=jE f e (aY j)
section
variable{Q:FK.En->Prop}{f:Nat}{jv:Value}
def xk(h:bs.length<=maxLen):Ent (blk b 5 (dj bs).toArray::r) (dB (dQ b bs.length bs.length) bs::r):=
 fB (cx _) h (by simp[dj]) (by rw[List.take_of_length_le (by simp[dj])])
def mY(K:A=none->bs.length=0/\c=0)(O:∀E,A=some E->∃g,E=⟨g,0,none⟩):Reads (dB (.slice A bs.length c) bs) A bs/\(A=none->bs=[]):=by
 refine⟨Reads.row λI=>?_,λh=>List.eq_nil_of_length_eq_zero (K h).1⟩;have T:=List.length_pos_iff.2 I;cases A with
 |none=>have:=(K rfl).1;omega
 |some E=>obtain⟨g,rfl⟩:=O E rfl;exact⟨g,rfl⟩
def wU{op:Nat}(_:op<256)(T:n<18446744073709551616)(Y:J.n<1000000)(hr:Roomy σ):dS 126 [aY f,aA op,aU n] [dO f e j,aS j d J,aI d σ] λv m=>v=dU (J.add σ (gD (FK.frame (FK.cS op n)))).2.2/\m=[dO f e j,aS j d (J.add σ (gD (FK.frame (FK.cS op n)))).1,aI d (J.add σ (gD (FK.frame (FK.cS op n)))).2.1]:=by
 have d6:(FK.cS op n).length<=11:=by
  have:=gC (n:=n) T;unfold FK.cS;simp;omega
 refine bz func126 Z λE fr hE=>cF<|sS<|sB Z<|sQ<|sZ Z<|ea Z Z<|dy 1 Z Z Z<|bN Z (au Z) (ah Z)<|cC Z Z<|bB Z (cD (r:=((UInt8.ofNat op).toNat:Int)) Z Z Z (jI op))<|dx 7 Z (bg Z)<|dI 6 Z (fd Z Z Z Z Z Z λO=>(dK [true] (aj (ah Z) ak) (dI 8 Z<|dP Z (rR (dQ O 1 1) [UInt8.ofNat op] n T di) (xk (bs:=[UInt8.ofNat op]) (by unfold maxLen;simp)) ?_)))
 rintro v m rfl;refine ae<|ao (l':=dB v (FK.cS op n)::dO f e j::aS j d J::aI d σ::fr) aQ<|aN .head ?_
 rintro A c rfl f1 f2 - - -
 obtain⟨I,K⟩:=mY f1 f2;refine dK [true] (aj (ah Z) ak)<|dI 9 Z<|dP Z (AC c Y I K am hr) (cM dm dm .head) ?_
 rintro v m ⟨hv,rfl⟩;refine cF<|dK [false] ak<|dx 10 Z (aX Z)<|dE<|sT<|an<|ar [dO f e j,aS j d (J.add σ (gD (FK.frame (FK.cS op n)))).1,aI d (J.add σ (gD (FK.frame (FK.cS op n)))).2.1] rfl Z ⟨hv,rfl⟩ (by show Ent (aS j d _::aI d _::_::dO f e j::fr) _;exact gfE3.trans (Ent.cons (Ent.cons (Ent.cons Ent.drop))))
def J6(I:dS 127 [aY e] [aP e p S] λv m=>(∃u,v=u)/\∃U,Q U/\m=[aP e p U]):dS 96 [aY f,aA 2,aU n] [jE f e jv,aP e p S] λv m=>v=.tuple #[]/\∃U,Q U/\m=[jE f e jv,aP e p U]:=by
 refine bz func96 Z λE fr O=>aE<|bp Z<|sN<|ai<|sS<|sP (bc Z Z Z)<|sB Z<|aK Z<|sG<|cE 0 Z Z<|aL Z Z Z Z<|bQ Z I gfE1 ?_
 rintro v m ⟨-,U,K,rfl⟩;exact ae<|ap<|al<|bt [jE f e jv,aP e p U] rfl ⟨rfl,U,K,rfl⟩ gfE1
def Au(I:dS 150 [aY e,aU n] [aP e p S] λv m=>(v=.tuple #[])/\∃U,Q U/\m=[aP e p U]):dS 96 [aY f,aA 3,aU n] [jE f e jv,aP e p S] λv m=>v=.tuple #[]/\∃U,Q U/\m=[jE f e jv,aP e p U]:=by
 refine bz func96 Z λE fr O=>aE<|bp Z<|sN<|ai<|sS<|sP (bc Z Z Z)<|sB Z<|ag Z<|sS<|sP (bc Z Z Z)<|sB Z<|aK Z<|sG<|cE 0 Z Z<|aL Z Z Z Z<|sM Z<|bQ Z I gfE1 ?_
 rintro v m ⟨-,U,K,rfl⟩;exact ae<|ap<|al<|bt [jE f e jv,aP e p U] rfl ⟨rfl,U,K,rfl⟩ gfE1
def As(I:dS 151 [aY e,aU n] [aP e p S] λv m=>(v=.tuple #[])/\∃U,Q U/\m=[aP e p U]):dS 96 [aY f,aA 4,aU n] [jE f e jv,aP e p S] λv m=>v=.tuple #[]/\∃U,Q U/\m=[jE f e jv,aP e p U]:=by
 refine bz func96 Z λE fr O=>aE<|bp Z<|sN<|ai<|sS<|sP (bc Z Z Z)<|sB Z<|ag Z<|sS<|sP (bc Z Z Z)<|sB Z<|ag Z<|sS<|sP (bc Z Z Z)<|sB Z<|aK Z<|sG<|cE 0 Z Z<|aL Z Z Z Z<|sM Z<|bQ Z I gfE1 ?_
 rintro v m ⟨-,U,K,rfl⟩;exact ae<|ap<|al<|bt [jE f e jv,aP e p U] rfl ⟨rfl,U,K,rfl⟩ gfE1
def Ar(I:dS 152 [aY e,aU n] [aP e p S] λv m=>(v=.tuple #[])/\∃U,Q U/\m=[aP e p U]):dS 96 [aY f,aA 5,aU n] [jE f e jv,aP e p S] λv m=>v=.tuple #[]/\∃U,Q U/\m=[jE f e jv,aP e p U]:=by
 refine bz func96 Z λE fr O=>aE<|bp Z<|sN<|ai<|sS<|sP (bc Z Z Z)<|sB Z<|ag Z<|sS<|sP (bc Z Z Z)<|sB Z<|ag Z<|sS<|sP (bc Z Z Z)<|sB Z<|ag Z<|sS<|sP (bc Z Z Z)<|sB Z<|aK Z<|sG<|cE 0 Z Z<|aL Z Z Z Z<|sM Z<|bQ Z I gfE1 ?_
 rintro v m ⟨-,U,K,rfl⟩;exact ae<|ap<|al<|bt [jE f e jv,aP e p U] rfl ⟨rfl,U,K,rfl⟩ gfE1
def Aq(I:dS 153 [aY e,aU n] [aP e p S] λv m=>(v=.tuple #[])/\∃U,Q U/\m=[aP e p U]):dS 96 [aY f,aA 6,aU n] [jE f e jv,aP e p S] λv m=>v=.tuple #[]/\∃U,Q U/\m=[jE f e jv,aP e p U]:=by
 refine bz func96 Z λE fr O=>aE<|bp Z<|sN<|ai<|sS<|sP (bc Z Z Z)<|sB Z<|ag Z<|sS<|sP (bc Z Z Z)<|sB Z<|ag Z<|sS<|sP (bc Z Z Z)<|sB Z<|ag Z<|sS<|sP (bc Z Z Z)<|sB Z<|ag Z<|sS<|sP (bc Z Z Z)<|sA Z<|ap<|sT<|aK Z<|sG<|cE 0 Z Z<|aL Z Z Z Z<|sM Z<|bQ Z I gfE1 ?_
 rintro v m ⟨-,U,K,rfl⟩;exact ae<|ap<|al<|bt [jE f e jv,aP e p U] rfl ⟨rfl,U,K,rfl⟩ gfE1
def Ap(I:dS 154 [aY e,aU n] [aP e p S] λv m=>(v=.tuple #[])/\∃U,Q U/\m=[aP e p U]):dS 96 [aY f,aA 7,aU n] [jE f e jv,aP e p S] λv m=>v=.tuple #[]/\∃U,Q U/\m=[jE f e jv,aP e p U]:=by
 refine bz func96 Z λE fr O=>aE<|bp Z<|sN<|ai<|sS<|sP (bc Z Z Z)<|sB Z<|ag Z<|sS<|sP (bc Z Z Z)<|sB Z<|ag Z<|sS<|sP (bc Z Z Z)<|sB Z<|ag Z<|sS<|sP (bc Z Z Z)<|sB Z<|ag Z<|sS<|sP (bc Z Z Z)<|sA Z<|ap<|sT<|ag Z<|sS<|sP (bc Z Z Z)<|sB Z<|aK Z<|sG<|cE 0 Z Z<|aL Z Z Z Z<|sM Z<|bQ Z I gfE1 ?_
 rintro v m ⟨-,U,K,rfl⟩;exact ae<|ap<|al<|bt [jE f e jv,aP e p U] rfl ⟨rfl,U,K,rfl⟩ gfE1
def Ao(I:dS 155 [aY e,aU n] [aP e p S] λv m=>(v=.tuple #[])/\∃U,Q U/\m=[aP e p U]):dS 96 [aY f,aA 8,aU n] [jE f e jv,aP e p S] λv m=>v=.tuple #[]/\∃U,Q U/\m=[jE f e jv,aP e p U]:=by
 refine bz func96 Z λE fr O=>aE<|bp Z<|sN<|ai<|sS<|sP (bc Z Z Z)<|sB Z<|ag Z<|sS<|sP (bc Z Z Z)<|sB Z<|ag Z<|sS<|sP (bc Z Z Z)<|sB Z<|ag Z<|sS<|sP (bc Z Z Z)<|sB Z<|ag Z<|sS<|sP (bc Z Z Z)<|sA Z<|ap<|sT<|ag Z<|sS<|sP (bc Z Z Z)<|sB Z<|ag Z<|sS<|sP (bc Z Z Z)<|sB Z<|aK Z<|sG<|cE 0 Z Z<|aL Z Z Z Z<|sM Z<|bQ Z I gfE1 ?_
 rintro v m ⟨-,U,K,rfl⟩;exact ae<|ap<|al<|bt [jE f e jv,aP e p U] rfl ⟨rfl,U,K,rfl⟩ gfE1
def CallPost(f e j d:Nat)(p:EA)(S:FK.En)(J:FK.Jn)(σ:FK.Dsk)(op n:Nat)(Q:FK.En->Prop)(v:Value)(m:List HP):Prop:=
 v=dU (J.add σ (gD (FK.frame (FK.cS op n)))).2.2/\∃U,((J.add σ (gD (FK.frame (FK.cS op n)))).2.2=0->Q U)/\((J.add σ (gD (FK.frame (FK.cS op n)))).2.2≠0->U=S)/\m=[dO f e j,aP e p U,aS j d (J.add σ (gD (FK.frame (FK.cS op n)))).1,aI d (J.add σ (gD (FK.frame (FK.cS op n)))).2.1]
theorem lc{op:Nat}(O:op<256)(Y:n<18446744073709551616)(hJ:J.n<1000000)(hr:Roomy σ)
(hD:dS 96 [aY f,aA op,aU n] [dO f e j,aP e p S] λv m=>v=.tuple #[]/\∃U,Q U/\m=[dO f e j,aP e p U]):dS 130 [aY f,aA op,aU n] [dO f e j,aP e p S,aS j d J,aI d σ] (CallPost f e j d p S J σ op n Q):=by
 refine bz func130 Z λE fr hE=>bT<|sS<|sB Z<|bp Z<|sM Z<|sM Z<|bQ Z (wU (e:=e) (j:=j) O Y hJ hr) (Ent.cons (bo bJ bJ)) ?_
 rintro v m ⟨I,rfl⟩;refine cF ?_
 generalize T:J.add σ (gD (FK.frame (FK.cS op n)))=ω at I ⊢
 refine sB Z<|sQ<|sQ ?_
 by_cases K:ω.2.2=0
 ·replace I:=I.trans (if_pos K);subst I;refine sG<|bY Z (lE Z Z)<|sN<|aK Z<|sG<|sM Z<|sM Z<|sM Z<|bQ Z hD (Ent.cons gfE2) ?_
  rintro v m ⟨rfl,U,hU,rfl⟩;refine aE<|sN<|bp Z<|sB Z<|an<|ar [dO f e j,aP e p U,aS j d ω.1,aI d ω.2.1] rfl Z (by unfold CallPost;rw[T];exact⟨(if_pos K).symm,U,λ_=>hU,λh=>absurd K h,rfl⟩) aQ
 ·replace I:=I.trans (if_neg K);subst I;refine sG<|bY Z (eu Z Z)<|sN<|ag Z<|aa<|sT<|bp Z<|sB Z<|an<|ar [dO f e j,aP e p S,aS j d ω.1,aI d ω.2.1] rfl Z (by unfold CallPost;rw[T];exact⟨(if_neg K).symm,S,λh=>absurd h K,λ_=>rfl,rfl⟩)<|Ent.cons gfE2
end
def GO(O:0<k)(T:k<=1099511627776):dz G 171 [cB,aA k] [] λv m=>m=[dB v []]:=by
 refine bz func171 Z λE fr Y=>aW<|sS<|sB Z<|sQ<|bp Z<|sP (bq (r:=false) Z Z di)<|sN<|ag Z<|aa<|sT<|sQ<|bp Z<|bY Z (Ft Z Z)<|bY Z (bh Z Z)<|sP (dd (r:=0) Z Z fh)<|sP (dd (r:=(k:Int)) Z Z ib)<|sB Z<|bp Z<|sP (dX (r:=true) Z Z (by simp;omega))<|sN<|aK Z<|sG<|sM Z<|bY Z (Ft Z Z)<|sP (KB (v':=cB) (ez (z:=1) (a:=0) (b:=0) Z Z Z Z ⟨_,rfl⟩ (cx _) (cx _)) Z)<|sM Z<|sO (Nd Z Z Z kj Z Z Z O gk am λJ I K=>bY Z (bh Z Z)<|sP (KB (v':=dQ J 0 I) (ez (z:=1) (a:=0) (b:=0) Z Z Z Z ⟨_,rfl⟩ (cx _) (Nat.zero_le _)) (by simp only[Nat.sub_zero];split<;>rfl))<|sB Z<|bp Z<|sB Z<|an<|ar [_] rfl Z Z aQ)
def jr(a b:List UInt8)(k:Nat):List UInt8:=if k=0 then[] else if k=1 then a else a++b
def Cd{g:Nat}{A1:Option Addr}{bs1:List UInt8}{p1 p2:HP}(c1 c2:Nat)(d6:Reads p1 A1 bs1)(d7:A1=none->bs1=[])(d8:Reads p2 A bs)(d9:A=none->bs=[])(h0:0<bs1.length+bs.length)(hl:bs1.length+bs.length<=1099511627776) :
 dz G 123 [dQ g 2 2] [blk g 87 #[.slice A1 bs1.length c1,.slice A bs.length c2],p1,p2] λv m=>m=[dB v (bs1++bs),p1,p2]:=by
 refine bz func123 Z λE fr hE=>cF<|sS<|sB Z<|sS<|sB Z<|sQ<|bp Z<|sP (bh Z Z)<|sM Z<|sN<|ai<|aO (X:=Nat) (λk=>[(11,aA k),(10,aA (2:Nat)),(9,dQ g 2 2),(3,aA (jr bs1 bs k).length),(0,dQ g 2 2)]) (λ_=>blk g 87 #[.slice A1 bs1.length c1,.slice A bs.length c2]::p1::p2::fr) (λk=>k<=2) (λk=>2-k) 0 (Nat.zero_le _) bW aQ ?_
 intro k hk;have f8:(jr bs1 bs k).length<=bs1.length+bs.length:=by unfold jr;split;simp;split;omega;simp
 refine sS<|sP (bq Z Z Z)<|sN<|sQ<|aC Z (λK=>?_) λK=>?_
 ·have J:k<2:=by have:(k:Int)<((2:Nat):Int):=K;omega
  refine aa<|sT<|sQ<|ai<|sQ ?_
  by_cases HK:k=0
  ·subst HK;refine sG<|sP (aV (z:=1) Z Z Z Z J)<|aL Z Z Z Z<|sB Z<|bp Z<|bY Z (bh Z Z)<|sP (bH (r:=((jr bs1 bs 1).length:Int)) Z Z (by simp only[jr];simp;rw[iP am]))<|sB Z<|bp Z<|sP (bq (r:=false) Z Z di)<|ap<|sT<|ag Z<|aa<|al<|sT<|sG<|sP (bH (r:=((1:Nat):Int)) Z Z fh)<|sM Z<|ap<|aH 1 am am bW aQ
  ·obtain rfl:k=1:=am;refine sG<|sP (aV (z:=1) Z Z Z Z J)<|aL Z Z Z Z<|sB Z<|bp Z<|bY Z (bh Z Z)<|sP (bH (r:=((jr bs1 bs 2).length:Int)) Z Z (by simp only[jr];simp;rw[iP am]))<|sB Z<|bp Z<|sP (bq (r:=false) Z Z di)<|ap<|sT<|ag Z<|aa<|al<|sT<|sG<|sP (bH (r:=((2:Nat):Int)) Z Z fh)<|sM Z<|ap<|aH 2 am am bW aQ
 ·obtain rfl:k=2:=by have:¬(k:Int)<((2:Nat):Int):=K;omega
  have h2:jr bs1 bs 2=bs1++bs:=rfl;refine aM<|aw<|az<|aq<|sT<|bp Z<|bQ Z (GO (k:=(jr bs1 bs 2).length) (by rw[h2,List.length_append];exact h0) am) aQ ?_
  rintro v m rfl;refine ae<|sB Z<|sQ<|bp Z<|sP (bh Z Z)<|sM Z<|sN<|ai<|aO (X:=Nat×Value) (λx=>[(27,aA x.1),(26,aA (2:Nat)),(25,dQ g 2 2),(6,x.2)]) (λx=>dB x.2 (jr bs1 bs x.1)::blk g 87 #[.slice A1 bs1.length c1,.slice A bs.length c2]::p1::p2::fr) (λx=>x.1<=2) (λx=>2-x.1) (0,v) (Nat.zero_le _) bW aQ ?_
  rintro⟨k,u⟩ hk;replace hk:k<=2:=hk;refine sS<|sP (bq Z Z Z)<|sN<|sQ<|aC Z (λO=>?_) λO=>?_
  ·have J:k<2:=by have:(k:Int)<((2:Nat):Int):=O;omega
   refine aa<|sT<|sQ<|ai<|sQ ?_
   by_cases HM:k=0
   ·subst HM;refine sG<|sP (aV (z:=1) Z Z Z Z J)<|aL Z Z Z Z<|sB Z<|sG<|sM Z<|sM Z<|dL rfl (ce rfl rfl kj rfl am rfl rfl (HasVal.sel (v:=u)) (news:=dj bs1) (by rw[l7];omega) (λh=>by rw[d7 h];rfl) (Reads.src d6 dm) (by intro u hu;obtain⟨x,_,rfl⟩:=List.mem_map.1 hu;rfl) (by unfold maxLen;simp[jr];omega) (by simp[jr];omega) λT f7=>sA Z<|ap<|al<|sT<|sG<|sP (bH (r:=((1:Nat):Int)) Z Z Z)<|sM Z<|ap<|aH (1,T) (by show 1<=2;omega) (by show 2-1<2-0;omega) bW ?_)
    show Ent (row 5 1 T (0+bs1.length) ([]++dj bs1)::_) (row 5 1 T bs1.length (dj bs1)::_);rw[Nat.zero_add,List.nil_append];exact aQ
   ·obtain rfl:k=1:=am;refine sG<|sP (aV (z:=1) Z Z Z Z J)<|aL Z Z Z Z<|sB Z<|sG<|sM Z<|sM Z<|dL rfl (ce rfl rfl kj rfl am rfl rfl (HasVal.sel (v:=u)) (news:=dj bs) (by rw[l7];omega) (λh=>by rw[d9 h];rfl) (Reads.src d8 gP) (by intro u hu;obtain⟨x,_,rfl⟩:=List.mem_map.1 hu;rfl) (by unfold maxLen;simp[jr];omega) (by simp[jr];omega) λT f7=>sA Z<|ap<|al<|sT<|sG<|sP (bH (r:=((2:Nat):Int)) Z Z Z)<|sM Z<|ap<|aH (2,T) (by show 2<=2;omega) (by show 2-2<2-1;omega) bW ?_)
    show Ent (row 5 1 T (bs1.length+bs.length) (dj bs1++dj bs)::_) (row 5 1 T (bs1++bs).length (dj (bs1++bs))::_);rw[List.length_append,j8];exact aQ
  ·obtain rfl:k=2:=by have:¬(k:Int)<((2:Nat):Int):=O;omega
   exact aM<|aw<|az<|aq<|sT<|bp Z<|sB Z<|an<|ar [dB u (bs1++bs),p1,p2] rfl Z Z<|Ent.cons Ent.drop
abbrev ch(f e j d:Nat)(p:EA)(S:FK.En)(J:FK.Jn)(σ:FK.Dsk):List HP:=[dO f e j,aP e p S,aS j d J,aI d σ]
section
variable{f t:Nat}{P:FK.Pl}
def pw{op:Nat}(I:S.NQ.any (·.1==t)=false):dS 128 [aY f,aA op,aU t] (ch f e j d p S J σ) λv m=>v=dU 7/\m=ch f e j d p S J σ:=by
 refine bz func128 Z λE fr K=>bT<|sS<|sB Z<|sQ<|sS<|cE 0 Z Z<|aL Z Z Z Z<|sM Z<|bV Z (uK t) gfE1<|ae ?_
 rw[I];exact sP (cA Z Z)<|sN<|aK Z<|sS<|sP (em Z Z Z)<|sB Z<|an<|aD<|ar (ch f e j d p S J σ) Z Z ec gfE1
def pu{op:Nat}{Q:FK.En->Prop}(I:S.NQ.any (·.1==t)=true)(K:dS 130 [aY f,aA op,aU t] (ch f e j d p S J σ) (CallPost f e j d p S J σ op t Q)):dS 128 [aY f,aA op,aU t] (ch f e j d p S J σ) (CallPost f e j d p S J σ op t Q):=by
 refine bz func128 Z λE fr T=>bT<|sS<|sB Z<|sQ<|sS<|cE 0 Z Z<|aL Z Z Z Z<|sM Z<|bV Z (uK t) gfE1<|ae ?_
 rw[I];refine sP (cA Z Z)<|sN<|ag Z<|aa<|sT<|bp Z<|sM Z<|sM Z<|bQ Z K gfE1 ?_
 rintro v m O;exact sB Z<|an<|ar m Z Z O aQ
def uF(h:(S.NQ.find? (·.1==t)).map (·.2)=some P):S.NQ.any (·.1==t)=true:=by
 cases hf:S.NQ.find? (·.1==t)with
 |none=>rw[hf]at h;cases h
 |some x=>exact List.any_eq_true.2 ⟨x,List.mem_of_find?_eq_some hf,List.find?_some (p:=λx:Nat×FK.Pl=>x.1==t) hf⟩
def sI(I:S.NQ.any (·.1==t)=false):dS 70 [aY f,aU t] (ch f e j d p S J σ) λv m=>v=dU 7/\m=ch f e j d p S J σ:=by
 refine bz func70 Z λE fr K=>bT<|sS<|sB Z<|bp Z<|sM Z<|bV Z (pw (op:=4) I) aQ<|bT<|sB Z<|an<|ar (ch f e j d p S J σ) Z Z ⟨rfl,rfl⟩ aQ
def sH(h:FK.Ok S)(T:t<18446744073709551616)(Y:J.n<1000000)(hr:Roomy σ)(O:(S.NQ.find? (·.1==t)).map (·.2)=some P)(I:S.ends<9223372036854775807):dS 70 [aY f,aU t] (ch f e j d p S J σ) (CallPost f e j d p S J σ 4 t λU=>U=S.complete t):=by
 refine bz func70 Z λE fr hE=>bT<|sS<|sB Z<|bp Z<|sM Z<|bQ Z (pu (op:=4) (Q:=λU=>U=S.complete t) (uF O) (lc (op:=4) am T Y hr (As ((sc h O I).mono λv m K=>⟨m,⟨K.1,_,rfl,K.2⟩,aQ⟩)))) aQ ?_
 rintro v m K;exact sB Z<|an<|ar m Z Z K aQ
def B4(I:S.NQ.any (·.1==t)=false):dS 71 [aY f,aU t] (ch f e j d p S J σ) λv m=>v=dU 7/\m=ch f e j d p S J σ:=by
 refine bz func71 Z λE fr K=>bT<|sS<|sB Z<|bp Z<|sM Z<|bV Z (pw (op:=5) I) aQ<|bT<|sB Z<|an<|ar (ch f e j d p S J σ) Z Z ⟨rfl,rfl⟩ aQ
def B3(h:FK.Ok S)(Y:t<18446744073709551616)(hJ:J.n<1000000)(hr:Roomy σ)(T:(S.NQ.find? (·.1==t)).map (·.2)=some P)(I:S.sets+1<9223372036854775807)(K:S.ends<9223372036854775807):dS 71 [aY f,aU t] (ch f e j d p S J σ) (CallPost f e j d p S J σ 5 t λU=>U=S.fail t):=by
 refine bz func71 Z λE fr hE=>bT<|sS<|sB Z<|bp Z<|sM Z<|bQ Z (pu (op:=5) (Q:=λU=>U=S.fail t) (uF T) (lc (op:=5) am Y hJ hr (Ar ((Fp h T I K).mono λv m O=>⟨m,⟨O.1,_,rfl,O.2⟩,aQ⟩)))) aQ ?_
 rintro v m O;exact sB Z<|an<|ar m Z Z O aQ
def D6(h:FK.Ok S)(O:n<18446744073709551616)(T:J.n<1000000)(Y:Roomy σ)(I:S.sets<=4611686018427387904)(K:S.ends<=4611686018427387904):dS 73 [aY f,aU n] (ch f e j d p S J σ) (CallPost f e j d p S J σ 7 n λU=>FK.Ticks (S.later n) S U):=by
 refine bz func73 Z λE fr hE=>bT<|sS<|sB Z<|bp Z<|sM Z<|bQ Z (lc (op:=7) am O T Y (Ap (EQ h O I K))) aQ ?_
 rintro v m hv;exact sB Z<|an<|ar m Z Z hv aQ
def BW(I:S.NP=[]):dS 68 [aY f] (ch f e j d p S J σ) λv m=>v=.tuple #[gA 0 0 0 0,.bool false,.nilIface]/\m=ch f e j d p S J σ:=by
 refine bz func68 Z λE fr O=>bT<|sS<|sO (cO (z:=.agg #[cd 0,aA 0,aA 0,cd 0]) Z λK=>(sA Z (sB Z (sQ (sS (sM Z (cZ Z (bm 0 Z (aL Z Z Z Z (bV Z AA gfE2 (ae ?_)))))))))))
 rw[show decide (0<S.NP.length)=false by rw[I];rfl];refine sP (cA Z Z)<|sN<|aK Z<|sS<|sP (bI (ps:=[]) (vs:=[]) (cs:=(ci 0 0 0 0).toArray) Z Z Z Z Z)<|sO<|bk Z (m:=4) (vs:=ci 0 0 0 0) Z Z Z Z eG (by show 0+4<=4;omega) ?_
 exact aB K (ci 0 0 0 0).toArray Z<|sA Z<|sB Z<|an<|aD<|fo (ch f e j d p S J σ) Z (bU (vs:=ci 0 0 0 0) Z Z Z Z (bl Z)) (bS Z) (bS Z) ec<|Ent.drop.trans gfE1
def qd(f e j d:Nat)(p:EA)(S:FK.En)(J:FK.Jn)(σ:FK.Dsk)(id k:Nat)(q:List FK.Pl)(R:FK.Rn)(s:FK.Sp)(nd:FK.Node)(v:Value)(m:List HP):Prop:=
 ((J.add σ (gD (FK.frame (FK.cS 2 0)))).2.2=0/\v=.tuple #[gA id k (s.NM+1) (S.NK+1),.bool true,.nilIface]/\m=ch f e j d p (S.hand ⟨id,(k:Int),0⟩ q R s nd) (J.add σ (gD (FK.frame (FK.cS 2 0)))).1 (J.add σ (gD (FK.frame (FK.cS 2 0)))).2.1)\/
 ((J.add σ (gD (FK.frame (FK.cS 2 0)))).2.2≠0/\v=.tuple #[gA 0 0 0 0,.bool false,dU (J.add σ (gD (FK.frame (FK.cS 2 0)))).2.2]/\m=ch f e j d p S (J.add σ (gD (FK.frame (FK.cS 2 0)))).1 (J.add σ (gD (FK.frame (FK.cS 2 0)))).2.1)
def BV(h:FK.Ok S)(hJ:J.n<1000000)(hr:Roomy σ){q:List FK.Pl}{s:FK.Sp}{nd:FK.Node}(Y:S.NP=⟨id,(k:Int),0⟩::q)(hR:S.getR id=some R)(hs:R.NN[k]?=some s)(hn:R.fl.NO[k]?=some nd)(I:S.sets+1<9223372036854775807)(O:S.NK<9223372036854775807):dS 68 [aY f] (ch f e j d p S J σ) (qd f e j d p S J σ id k q R s nd):=by
 refine bz func68 Z λE fr hE=>bT<|sS<|sO (cO (z:=.agg #[cd 0,aA 0,aA 0,cd 0]) Z λb2=>(sA Z (sB Z (sQ (sS (sM Z (cZ Z (bm 0 Z (aL Z Z Z Z (bV Z AA gfE2 (ae ?_)))))))))))
 rw[show decide (0<S.NP.length)=true by rw[Y];rfl];refine sP (cA Z Z)<|sN<|ag Z<|aa<|sT<|sQ<|bp Z<|bQ Z (wU (e:=e) (j:=j) (op:=2) (n:=0) am am hJ hr) (cM dm dm dm) ?_
 rintro v m ⟨K,rfl⟩;refine cF ?_
 generalize hω:J.add σ (gD (FK.frame (FK.cS 2 0)))=ω at K ⊢
 refine sB Z<|sQ ?_
 by_cases T:ω.2.2=0
 ·replace K:=K.trans (if_pos T);subst K;refine sG<|bY Z (dF Z Z)<|sN<|ag Z<|aa<|sT<|sS<|cE 0 Z Z<|aL Z Z Z Z<|bV Z (EY h Y hR hs hn I O) gfE3<|ae<|sM Z<|bG Z Z<|bG Z Z<|sO (cO (z:=.agg #[cd 0,aA 0,aA 0,cd 0]) Z λb6=>sO<|bk Z (m:=4) (vs:=ci id k (s.NM+1) (S.NK+1)) Z Z Z Z eG (by show 0+4<=4;omega) ?_)
  refine aB b6 (ci id k (s.NM+1) (S.NK+1)).toArray Z<|sB Z<|sS<|bF (bR (vs:=ci id k (s.NM+1) (S.NK+1)) Z) (bl Z)<|sM Z<|sO<|bk Z (m:=4) (vs:=ci id k (s.NM+1) (S.NK+1)) Z Z Z Z eG (by show 0+4<=4;omega) ?_
  refine aB b2 (ci id k (s.NM+1) (S.NK+1)).toArray Z<|sA Z<|sB Z<|an<|fo (ch f e j d p (S.hand ⟨id,(k:Int),0⟩ q R s nd) ω.1 ω.2.1) Z (bU (vs:=ci id k (s.NM+1) (S.NK+1)) Z Z Z Z (bl Z)) (bS Z) (bS Z) (by unfold qd;rw[hω];exact .inl ⟨T,rfl,rfl⟩)<|aG
 ·replace K:=K.trans (if_neg T);subst K;refine sG<|bY Z (fk Z Z)<|sN<|aK Z<|sS<|sP (bI (ps:=[]) (vs:=[]) (cs:=(ci 0 0 0 0).toArray) Z Z Z Z Z)<|sM Z<|sO<|bk Z (m:=4) (vs:=ci 0 0 0 0) Z Z Z Z eG (by show 0+4<=4;omega) ?_
  refine aB b2 (ci 0 0 0 0).toArray Z<|sA Z<|sB Z<|an<|aD<|fo (ch f e j d p S ω.1 ω.2.1) Z (bU (vs:=ci 0 0 0 0) Z Z Z Z (bl Z)) (bS Z) (bS Z) (by unfold qd;rw[hω];exact .inr ⟨T,by unfold dU;rw[if_neg T],rfl⟩)<|aG
def BU(h:FK.Ok S):dS 60 [aY f] (ch f e j d p S J σ) λv m=>m=row 95 4 v S.NP.length (qV S S.NP)::ch f e j d p S J σ:=by
 refine bz func60 Z λE fr I=>bT<|sS<|sB Z<|sS<|cE 0 Z Z<|aL Z Z Z Z<|bQ Z (Jb h) gfE1 ?_
 rintro v m rfl;refine aE<|sB Z<|an<|ar (row 95 4 v S.NP.length (qV S S.NP)::ch f e j d p S J σ) Z Z Z<|aG
def yP(I:S.getR id=none):dS 56 [aY f,aU id] (ch f e j d p S J σ) λv m=>v=.tuple #[.agg (cv 0 0 cB cB).toArray,dU 6]/\m=ch f e j d p S J σ:=by
 refine bz func56 Z λE fr T=>bT<|sS<|sO (cO (z:=.agg #[cd 0,aA 0,cB,cB]) Z λK=>(sB Z (sS (sM Z (cZ Z (bm 0 Z (aL Z Z Z Z (sM Z (bV Z (Bs id I) gfE2 (ae<|sM Z<|bG Z Z<|bG Z Z<|sO (cO (z:=.agg #[cd 0,aA 0,cB,cB]) Z λO=>sO<|bk Z (m:=4) (vs:=cv 0 0 cB cB) Z Z Z Z eG (by show 0+4<=4;omega) ?_)))))))))))
 refine aB O (cv 0 0 cB cB).toArray Z<|sB Z<|sQ<|bp Z<|sP (cA Z Z)<|sN<|aK Z<|sS<|bF (bR (vs:=cv 0 0 cB cB) Z) (bl Z)<|sP (em Z Z Z)<|sO<|bk Z (m:=4) (vs:=cv 0 0 cB cB) Z Z Z Z eG (by show 0+4<=4;omega) ?_
 refine aB K (cv 0 0 cB cB).toArray Z<|sB Z<|an<|aD<|de (ch f e j d p S J σ) Z (bU (vs:=cv 0 0 cB cB) Z Z Z Z (bl Z)) (bS Z) ec<|aG
def yO(h:FK.Ok S)(hR:S.getR id=some R):dS 56 [aY f,aU id] (ch f e j d p S J σ) λv m=>∃I K O T,v=.tuple #[.agg (cv id R.state (.slice I R.NN.length K) (.slice O R.NN.length T)).toArray,.nilIface]/\m=bL (.slice I R.NN.length K) (R.NN.map (·.state))::bL (.slice O R.NN.length T) (R.NN.map (·.NM))::ch f e j d p S J σ:=by
 have d7:∀g:FK.Sp->Int,(R.NN.map g).length=R.NN.length:=λg=>List.length_map _;refine bz func56 Z λE fr hE=>bT<|sS<|sO (cO (z:=.agg #[cd 0,aA 0,cB,cB]) Z λb4=>(sB Z (sS (sM Z (cZ Z (bm 0 Z (aL Z Z Z Z (sM Z (bQ Z (Jc h hR) gfE2 ?_)))))))))
 rintro v m ⟨v2,v3,rfl,rfl⟩;refine cF<|aN (HasVal.sel (v:=v2)) ?_
 rintro I K Y - - - - -
 refine aN (HasVal.sel (v:=v3)) ?_;rintro O T d6 - - - - -
 rw[d7]at Y d6;subst Y;subst d6;refine sM Z<|bG Z Z<|bG Z Z<|sO (cO (z:=.agg #[cd 0,aA 0,cB,cB]) Z λb6=>sO<|bk Z (m:=4) (vs:=cv id R.state (.slice I R.NN.length K) (.slice O R.NN.length T)) Z Z Z Z eG (by show 0+4<=4;omega) ?_)
 refine aB b6 (cv id R.state (.slice I R.NN.length K) (.slice O R.NN.length T)).toArray Z<|sB Z<|sQ<|bp Z<|sP (cA Z Z)<|sN<|ag Z<|aa<|sT<|sS<|bF (bR (vs:=cv id R.state (.slice I R.NN.length K) (.slice O R.NN.length T)) Z) (bl Z)<|sO<|bk Z (m:=4) (vs:=cv id R.state (.slice I R.NN.length K) (.slice O R.NN.length T)) Z Z Z Z eG (by show 0+4<=4;omega) ?_
 refine aB b4 (cv id R.state (.slice I R.NN.length K) (.slice O R.NN.length T)).toArray Z<|sB Z<|an<|de (bL (.slice I R.NN.length K) (R.NN.map (·.state))::bL (.slice O R.NN.length T) (R.NN.map (·.NM))::ch f e j d p S J σ) Z (bU (vs:=cv id R.state (.slice I R.NN.length K) (.slice O R.NN.length T)) Z Z Z Z (bl Z)) (bS Z) ⟨I,K,O,T,rfl,rfl⟩<|aG
end
open Go.Proofs Tryz Go.RowKit Go.SL Go.Extern
def LY(e:Addr)(t J:Nat)(o:Value):dS 165 [.iface 207 (.pointer (some e)),.iface 209 (eg t 0),rv 209 J 150,rt 207] [blk J 209 #[eg t 0],blk t 207 #[o]] λv m=>v=.bool true/\m=[blk t 207 #[.pointer (some e)]]:=by
 refine bz func165 Z λE fr Y=>aE<|sS<|sO (cP Z Z λK=>(sB Z (ai (aO (X:=Unit) (λ_=>[(0,.iface 207 (.pointer (some e))),(1,.iface 209 (eg t 0)),(3,rt 207),(6,eg K 0)]) (λ_=>blk K 273 #[hnd 209,eg J 0,cd 150]::blk J 209 #[eg t 0]::blk t 207 #[o]::fr) (λ_=>True) (λ_=>0) () trivial bW aQ ?_))))
 rintro _ _;refine ai<|sQ<|bp Z<|sP (jH Z λw _=>KI _ w)<|sM Z<|sP (fR Z Z (l6 _) λw _=>Ci w)<|sN<|aK Z<|sS<|bF (bR (vs:=[hnd 209,eg J 0,cd 150]) Z) (bl Z)<|bF (jH (args:=[rv 209 J 150]) Z λw h=>NC J t w h) (ah Z)<|sM Z<|sO (zi (v:=λb=>rv 207 b 150) Z Z (λw=>IL e w) λI=>sO<|wT (args:=[rv 207 t 406,rv 207 I 150]) Z (b:=t) (j:=0) (tb:=207) (cs:=#[o]) (u:=.tuple #[]) (v:=.pointer (some e)) (φ:=cw ⟨I,0,none⟩ (.pointer (some e))) Z (ah (b:=I) Z) (λw O T=>setF t I e o w O T) (sN<|sS<|sB Z<|an<|aD<|aJ<|bM<|aJ<|ar [blk t 207 #[.pointer (some e)]] rfl Z ⟨rfl,rfl⟩<|Ent.cons<|Ent.drop.trans<|Ent.drop.trans Ent.drop))
def LX(e:Int)(t J:Nat)(o:Value):dS 165 [.iface 28 (aA e),.iface 212 (eg t 0),rv 212 J 150,rt 28] [blk J 212 #[eg t 0],blk t 28 #[o]] λv m=>v=.bool true/\m=[blk t 28 #[aA e]]:=by
 refine bz func165 Z λE fr Y=>aE<|sS<|sO (cP Z Z λK=>(sB Z (ai (aO (X:=Unit) (λ_=>[(0,.iface 28 (aA e)),(1,.iface 212 (eg t 0)),(3,rt 28),(6,eg K 0)]) (λ_=>blk K 273 #[hnd 212,eg J 0,cd 150]::blk J 212 #[eg t 0]::blk t 28 #[o]::fr) (λ_=>True) (λ_=>0) () trivial bW aQ ?_))))
 rintro _ _;refine ai<|sQ<|bp Z<|sP (jH Z λw _=>sW _ w)<|sM Z<|sP (fR Z Z (l6 _) λw _=>Ch w)<|sN<|aK Z<|sS<|bF (bR (vs:=[hnd 212,eg J 0,cd 150]) Z) (bl Z)<|bF (jH (args:=[rv 212 J 150]) Z λw h=>NB J t w h) (ah Z)<|sM Z<|sO (zi (v:=λb=>rv 28 b 130) Z Z (λw=>IK e w) λI=>sO<|wT (args:=[rv 28 t 386,rv 28 I 130]) Z (b:=t) (j:=0) (tb:=28) (cs:=#[o]) (u:=.tuple #[]) (v:=aA e) (φ:=cw ⟨I,0,none⟩ (aA e)) Z (ah (b:=I) Z) (λw O T=>setN t I e o w O T) (sN<|sS<|sB Z<|an<|aD<|aJ<|bM<|aJ<|ar [blk t 28 #[aA e]] rfl Z ⟨rfl,rfl⟩<|Ent.cons<|Ent.drop.trans<|Ent.drop.trans Ent.drop))
def Hn(x:Int)(t I:Nat)(o:Value):dS 165 [.iface 28 (aA x),.iface 209 (eg t 0),rv 209 I 150,rt 207] [blk I 209 #[eg t 0],blk t 207 #[o]] λv m=>v=.bool false/\m=[blk t 207 #[o]]:=by
 refine bz func165 Z λE fr K=>aE<|sS<|sO (cP Z Z λJ=>(sB Z (ai (aO (X:=Unit) (λ_=>[(0,.iface 28 (aA x)),(1,.iface 209 (eg t 0)),(3,rt 207),(6,eg J 0)]) (λ_=>blk J 273 #[hnd 209,eg I 0,cd 150]::blk I 209 #[eg t 0]::blk t 207 #[o]::fr) (λ_=>True) (λ_=>0) () trivial bW aQ ?_))))
 rintro _ _;refine ai<|sQ<|bp Z<|sP (jH Z λw _=>sW _ w)<|sM Z<|sP (fR Z Z (l6 _) λw _=>yZ w)<|sN<|ag Z<|aa<|sT<|sQ<|bp Z<|sP (oN (z:=.nilIface) Z Z eS eS)<|sM Z<|bG Z Z<|bG Z Z<|sA Z<|sB Z<|bp Z<|sM Z<|aR Z<|aR Z<|aR Z<|sP (aF Z Z Z)<|sN<|ag Z<|aa<|sT<|bp Z<|sN<|ai<|sS<|sP (oN (z:=.nilIface) Z Z eS eS)<|bG Z Z<|bG Z Z<|sN<|ag Z<|sS<|sP (oN (z:=.nilIface) Z Z eS eS)<|bG Z Z<|bG Z Z<|sN<|ag Z<|sS<|sB Z<|sS<|sA Z<|sN<|an<|aJ<|aJ<|bM<|aJ<|ar [blk t 207 #[o]] rfl Z ⟨rfl,rfl⟩<|Ent.drop.trans Ent.drop
def Kr(e:Addr)(t:Nat)(o:Value):dS 113 [.iface 207 (.pointer (some e)),.iface 209 (eg t 0)] [blk t 207 #[o]] λv m=>v=.bool true/\m=[blk t 207 #[.pointer (some e)]]:=by
 refine bz func113 Z λE fr J=>ae<|sS<|sB Z<|sQ<|bp Z<|sP (eu Z Z)<|sN<|ag Z<|aa<|sT<|sQ<|bp Z<|sP (eu Z Z)<|sN<|ag Z<|aa<|sT<|bp Z<|sO (zi (v:=λb=>rv 209 b 150) Z Z (λw=>wu t w) λI=>sO (cO (z:=.agg #[.pointer none,.pointer none,cd 0]) Z λK=>sO<|bk Z (m:=3) (vs:=[hnd 209,eg I 0,cd 150]) Z Z Z Z eG (by simp[Value.cells]) ?_))
 refine sN<|sS<|bF (bR (vs:=[hnd 209,eg I 0,cd 150]) Z) (bl Z)<|sP (jH Z λw _=>Ib I w)<|sB Z<|sQ<|bp Z<|sP (fR Z Z (wi _) λw _=>Iu w)<|sP (cy Z Z Z)<|sM Z<|fM (bR (vs:=[hnd 209,eg I 0,cd 150]) Z) (bl Z)<|fM (jH (args:=[rv 209 I 150]) (φ:=cw ⟨I,0,none⟩ (eg t 0)) Z λw h=>Fg I t w h) (ah Z)<|sP (aF Z Z Z)<|sN<|ag Z<|aa<|sT<|bp Z<|sP (fR Z Z (Hx _) λw _=>IE w)<|sB Z<|sQ<|bp Z<|sP (fR Z Z (wi _) λw _=>Mi w)<|sP (cy Z Z Z)<|sM Z<|cN Z<|fM (au Z) (λw hw=>J.err w hw.is)<|bO (fR Z Z (nY _) λw _=>rY w)<|bO (cA Z Z)<|sP (aF Z Z Z)<|sN<|ag Z<|aa<|sT<|bp Z<|sM Z<|bF (bR (vs:=[hnd 209,eg I 0,cd 150]) Z) (bl Z)<|sM Z<|bV Z (LY e t I o) (bo bJ bJ)<|ae<|sB Z<|an<|ar [blk t 207 #[.pointer (some e)]] rfl Z ⟨rfl,rfl⟩<|Ent.cons Ent.drop
def Ks(e:Int)(t:Nat)(o:Value):dS 113 [.iface 28 (aA e),.iface 212 (eg t 0)] [blk t 28 #[o]] λv m=>v=.bool true/\m=[blk t 28 #[aA e]]:=by
 refine bz func113 Z λE fr J=>ae<|sS<|sB Z<|sQ<|bp Z<|sP (eu Z Z)<|sN<|ag Z<|aa<|sT<|sQ<|bp Z<|sP (eu Z Z)<|sN<|ag Z<|aa<|sT<|bp Z<|sO (zi (v:=λb=>rv 212 b 150) Z Z (λw=>FP t w) λI=>sO (cO (z:=.agg #[.pointer none,.pointer none,cd 0]) Z λK=>sO<|bk Z (m:=3) (vs:=[hnd 212,eg I 0,cd 150]) Z Z Z Z eG (by simp[Value.cells]) ?_))
 refine sN<|sS<|bF (bR (vs:=[hnd 212,eg I 0,cd 150]) Z) (bl Z)<|sP (jH Z λw _=>MM I w)<|sB Z<|sQ<|bp Z<|sP (fR Z Z (wi _) λw _=>Nk w)<|sP (cy Z Z Z)<|sM Z<|fM (bR (vs:=[hnd 212,eg I 0,cd 150]) Z) (bl Z)<|fM (jH (args:=[rv 212 I 150]) (φ:=cw ⟨I,0,none⟩ (eg t 0)) Z λw h=>Lu I t w h) (ah Z)<|sP (aF Z Z Z)<|sN<|ag Z<|aa<|sT<|bp Z<|sP (fR Z Z (Hx _) λw _=>NE w)<|sB Z<|sQ<|bp Z<|sP (fR Z Z (wi _) λw _=>kindN w)<|sP (cy Z Z Z)<|sM Z<|cN Z<|fM (au Z) (λw hw=>J.err w hw.is)<|bO (fR Z Z (nY _) λw _=>BG w)<|bO (cA Z Z)<|sP (aF Z Z Z)<|sN<|ag Z<|aa<|sT<|bp Z<|sM Z<|bF (bR (vs:=[hnd 212,eg I 0,cd 150]) Z) (bl Z)<|sM Z<|bV Z (LX e t I o) (bo bJ bJ)<|ae<|sB Z<|an<|ar [blk t 28 #[aA e]] rfl Z ⟨rfl,rfl⟩<|Ent.cons Ent.drop
def L8(x:Int)(t:Nat)(o:Value):dS 113 [.iface 28 (aA x),.iface 209 (eg t 0)] [blk t 207 #[o]] λv m=>v=.bool false/\m=[blk t 207 #[o]]:=by
 refine bz func113 Z λE fr J=>ae<|sS<|sB Z<|sQ<|bp Z<|sP (eu Z Z)<|sN<|ag Z<|aa<|sT<|sQ<|bp Z<|sP (eu Z Z)<|sN<|ag Z<|aa<|sT<|bp Z<|sO (zi (v:=λb=>rv 209 b 150) Z Z (λw=>wu t w) λI=>sO (cO (z:=.agg #[.pointer none,.pointer none,cd 0]) Z λK=>sO<|bk Z (m:=3) (vs:=[hnd 209,eg I 0,cd 150]) Z Z Z Z eG (by simp[Value.cells]) ?_))
 refine sN<|sS<|bF (bR (vs:=[hnd 209,eg I 0,cd 150]) Z) (bl Z)<|sP (jH Z λw _=>Ib I w)<|sB Z<|sQ<|bp Z<|sP (fR Z Z (wi _) λw _=>Iu w)<|sP (cy Z Z Z)<|sM Z<|fM (bR (vs:=[hnd 209,eg I 0,cd 150]) Z) (bl Z)<|fM (jH (args:=[rv 209 I 150]) (φ:=cw ⟨I,0,none⟩ (eg t 0)) Z λw h=>Fg I t w h) (ah Z)<|sP (aF Z Z Z)<|sN<|ag Z<|aa<|sT<|bp Z<|sP (fR Z Z (Hx _) λw _=>IE w)<|sB Z<|sQ<|bp Z<|sP (fR Z Z (wi _) λw _=>Mi w)<|sP (cy Z Z Z)<|sM Z<|cN Z<|fM (au Z) (λw hw=>J.err w hw.is)<|bO (fR Z Z (nY _) λw _=>rY w)<|bO (cA Z Z)<|sP (aF Z Z Z)<|sN<|ag Z<|aa<|sT<|bp Z<|sM Z<|bF (bR (vs:=[hnd 209,eg I 0,cd 150]) Z) (bl Z)<|sM Z<|bV Z (Hn x t I o) (bo bJ bJ)<|ae<|sB Z<|an<|ar [blk t 207 #[o]] rfl Z ⟨rfl,rfl⟩<|Ent.cons Ent.drop
def AM(b:Nat)(e a:Value):dz G 321 [eg b 0] [blk b 211 #[e,a]] λv m=>v=.iface 28 e/\m=[blk b 211 #[e,a]]:=by
 refine bz func321 Z λE fr I=>ae<|sS<|sB Z<|sS<|cE 0 Z Z<|aL Z Z Z Z<|sP (em Z Z Z)<|sB Z<|an<|ar [_] rfl Z ⟨rfl,rfl⟩ aQ
def BF(e:Int):dS 139 [.iface 28 (aA e),.iface 28 (aA e),.bool true] [] λv m=>v=.bool true/\m=[]:=by
 refine bz func139 Z λE fr I=>aW<|sS<|sB Z<|ai<|aO (X:=Unit) (λ_=>[(0,.iface 28 (aA e)),(1,.iface 28 (aA e)),(2,.bool true)]) (λ_=>fr) (λ_=>True) (λ_=>0) () trivial bW aQ ?_
 rintro _ _;exact ai<|sQ<|bp Z<|sM Z<|cN Z<|cN Z<|bO (uB (r:=true) Z Z Z Z Z Z di)<|sP (aF Z Z Z)<|sN<|aK Z<|sS<|sB Z<|an<|aD<|aJ<|bM<|aJ<|ar [] rfl Z ec aQ
def BE(b:Nat)(e:Int)(a:Value):dS 139 [.iface 207 (eg b 0),.iface 28 (aA e),.bool true] [blk b 211 #[aA e,a]] λv m=>v=.bool true/\m=[blk b 211 #[aA e,a]]:=by
 refine bz func139 Z λE fr J=>ae<|sS<|sB Z<|ai<|aO (X:=Bool) (λx=>[(0,bif x then .iface 28 (aA e) else .iface 207 (eg b 0)),(1,.iface 28 (aA e)),(2,.bool true)]) (λ_=>blk b 211 #[aA e,a]::fr) (λ_=>True) (λx=>bif x then 0 else 1) false trivial bW aQ ?_
 rintro x _;refine ai<|sQ<|sQ ?_
 by_cases I:x=true
 ·subst I;exact sG<|sM Z<|sM Z<|cN Z<|cN Z<|bO (uB (r:=true) Z Z Z Z Z Z di)<|sP (aF Z Z Z)<|sN<|aK Z<|sS<|sB Z<|an<|aD<|aJ<|bM<|aJ<|ar [_] rfl Z ec aQ
 ·obtain rfl:x=false:=by simpa using I
  refine sG<|sM Z<|sM Z<|cN Z<|cN Z<|bO (GY Z Z Z Z)<|sP (aF Z Z Z)<|sN<|ag Z<|aa<|sT<|sQ<|bp Z<|sP (oN (z:=.nilIface) Z Z eS eS)<|sM Z<|bG Z Z<|bG Z Z<|sA Z<|sB Z<|bp Z<|sM Z<|aR Z<|aR Z<|aR Z<|sP (aF Z Z Z)<|sN<|ag Z<|aa<|sT<|bp Z<|sN<|ai<|sS<|sP (Nz Z Z eS)<|bG Z Z<|bG Z Z<|sN<|aK Z<|sS<|sB Z<|bp Z<|sO<|gw Z Z Z (Lo _) Z J (AM b (aA e) a) aQ ?_
  rintro v m ⟨rfl,rfl⟩;refine ae<|sB Z<|bp Z<|sP (eu Z Z)<|sN<|ag Z<|aa<|al<|al<|aH true trivial di bW aQ
def uu(e:Int):dS 88 [.iface 28 (aA e),.iface 28 (aA e)] [] λv m=>v=.bool true/\m=[]:=by
 refine bz func88 Z λE fr I=>aW<|sS<|sB Z<|sQ<|bp Z<|sP (eu Z Z)<|sM Z<|cN Z<|bO (eu Z Z)<|sP (aF Z Z Z)<|sN<|ag Z<|aa<|sT<|bp Z<|sP (jH Z λw _=>sW _ w)<|sP (fR Z Z (rS _) λw _=>se w)<|sB Z<|bp Z<|sM Z<|sM Z<|bV Z (BF e) aQ<|aW<|sB Z<|an<|ar [] rfl Z ⟨rfl,rfl⟩ aQ
def JG(b:Nat)(e:Int)(a:Value):dS 88 [.iface 207 (eg b 0),.iface 28 (aA e)] [blk b 211 #[aA e,a]] λv m=>v=.bool true/\m=[blk b 211 #[aA e,a]]:=by
 refine bz func88 Z λE fr I=>ae<|sS<|sB Z<|sQ<|bp Z<|sP (eu Z Z)<|sM Z<|cN Z<|bO (eu Z Z)<|sP (aF Z Z Z)<|sN<|ag Z<|aa<|sT<|bp Z<|sP (jH Z λw _=>sW _ w)<|sP (fR Z Z (rS _) λw _=>se w)<|sB Z<|bp Z<|sM Z<|sM Z<|bV Z (BE b e a) aQ<|ae<|sB Z<|an<|ar [_] rfl Z ⟨rfl,rfl⟩ aQ
def ub:dS 53 [.nilIface] [] λv m=>v=.tuple #[aA 0,aA (-1)]/\m=[]:=by
 refine bz func53 Z λE fr I=>aW<|sS<|sA Z<|sB Z<|sS<|sO (cO (z:=.pointer none) Z λJ=>(sN (sS (sO (cO (z:=aA 0) Z λK=>(sN (sQ (ai (sQ (sG<|bY Z (lE Z Z)<|sB Z<|aK Z<|sS<|sA Z<|sB Z<|an<|aJ<|aD<|dr [] rfl Z Z ⟨rfl,rfl⟩<|Ent.drop.trans Ent.drop))))))))))
def pt(e:Int):dS 53 [.iface 28 (aA e)] [] λv m=>v=.tuple #[aA e,aA (-1)]/\m=[]:=by
 refine bz func53 Z λE fr K=>aW<|sS<|sA Z<|sB Z<|sS<|sO (cO (z:=.pointer none) Z λI=>(sN (sS (sO (cO (z:=aA 0) Z λJ=>(sN (sQ (ai (sQ (sG<|bY Z (eu Z Z)<|sB Z<|ag Z<|bp Z<|sP (em Z Z Z) (bV Z (L8 e I (.pointer none)) gfE1 (ae<|sM Z<|aR Z<|aR Z<|aR Z<|aR Z<|aR Z<|aR Z<|aR Z<|sP (aF Z Z Z)<|sB Z<|ag Z<|bp Z<|sP (em Z Z Z) (bV Z (Ks e J (aA 0)) gfE1 (ae<|sM Z<|cN Z<|fM (au Z) (ah Z)<|bO (em Z Z Z) (iS Z Z Z<|dP Z (uu e) aQ ?_)))))))))))))))
 rintro v m ⟨rfl,rfl⟩;exact aW<|sP (aF Z Z Z)<|sB Z<|aK Z<|sS<|aL Z Z Z Z<|sA Z<|sB Z<|an<|aJ<|aD<|dr [] rfl Z Z ec<|Ent.drop.trans Ent.drop
def CD(b:Nat)(e a:Int):dS 53 [.iface 207 (eg b 0)] [blk b 211 #[aA e,aA a]] λv m=>v=.tuple #[aA e,aA a]/\m=[blk b 211 #[aA e,aA a]]:=by
 refine bz func53 Z λE fr J=>ae<|sS<|sA Z<|sB Z<|sS<|sO (cO (z:=.pointer none) Z λI=>(sN (sS (sO (cO (z:=aA 0) Z λK=>(sN (sQ (ai (sQ (sG<|bY Z (eu Z Z)<|sB Z<|ag Z<|bp Z<|sP (em Z Z Z) (bV Z (Kr ⟨b,0,none⟩ I (.pointer none)) gfE1 (ae<|sM Z<|cN Z<|fM (au Z) (ah Z)<|bO (cI Z)<|bO (bd 0 Z)<|fM (au Z) (ah Z)<|bO (em Z Z Z) (iS Z Z Z<|dP Z (JG b e (aA a)) gfE2 ?_)))))))))))))
 rintro v m ⟨rfl,rfl⟩;refine ae<|sP (aF Z Z Z)<|sB Z<|aK Z<|sQ<|sZ Z<|jW 0 Z (au Z) (ah Z)<|dy 0 Z Z Z<|bN Z (au Z) (ah Z)<|bN Z (au Z) (ah Z)<|dy 1 Z Z Z<|bN Z (au Z) (ah Z)<|bB Z (aX Z)<|bB Z (aX Z)<|dE<|sT<|an<|aJ<|aD<|dr [_] rfl Z Z ec<|Ent.cons<|Ent.drop.trans Ent.drop
end Go.Y
namespace FK
structure Quiet(σ:Dsk):Prop where
 down:σ.down=false
 left:σ.left=-1
 full:σ.full=-1
 pend:σ.pend=[]
def Dsk.logs(σ:Dsk)(n:Nat)(s:ByteArray):Dsk:={σ with now:=fx σ.now ⟨2,cm n,s⟩,dur:=fx σ.dur ⟨2,cm n,s⟩}
def Dsk.rested(σ:Dsk):Dsk:={σ with left:=-1,full:=-1}
def Dsk.spent(σ:Dsk):Dsk:={σ with left:=-3,full:=-3}
def Quiet.logs{σ:Dsk}(h:Quiet σ)(n:Nat)(s:ByteArray):Quiet (σ.logs n s):=⟨h.down,h.left,h.full,h.pend⟩
def Quiet.rested{σ:Dsk}(h:Quiet σ):σ.rested=σ:=by
 obtain⟨a,b,c,d,e,f⟩:=σ;obtain⟨I,E,h3,J⟩:=h;subst E;subst h3
 rfl
def Quiet.add{σ:Dsk}(h:Quiet σ){J:Jn}(E:J.broken=0)(s:ByteArray):J.add σ s=(J,(σ.logs J.n s).spent,0):=by
 obtain⟨a,b,c,d,e,f⟩:=σ;obtain⟨I,K,h3,O⟩:=h;obtain⟨n,t,T⟩:=J;subst I;subst K;subst h3;subst O;subst E;have e1:Go.IntKind.i64.wrap (-2)=-2:=by decide
 have e2:Go.IntKind.i64.wrap (-3)=-3:=by decide
 simp[Jn.add,Dsk.tell,Dsk.writes,Dsk.sync,e1,e2,Dsk.logs,Dsk.spent]
end FK
namespace Go.Y
open Go.Proofs Tryz
open Go Go.RowKit Go.SL
abbrev db(h d:Nat)(fp:Option Addr):HP:=blk h 59 #[aY d,.pointer fp]
abbrev ct(l E I J:Int):List Value:=[aA l,aA E,aA I,aA J]
abbrev mf(l E I J:Int):Value:=.agg (ct l E I J).toArray
abbrev jC:Value:=mf (-1) (-1) 0 0
section
variable{fp:Option Addr}
def oC:dz G 8 [] [] λv m=>v=jC/\m=[]:=by
 refine bz func8 Z λE fr J=>aW<|sS<|sO (cO (z:=.agg #[aA 0,aA 0,aA 0,aA 0]) Z λI=>(sN (sS (sP (bI (ps:=[(0,.const (aA (-1))),(1,.const (aA (-1)))]) (vs:=[aA (-1),aA (-1)]) (cs:=(ct (-1) (-1) 0 0).toArray) Z Z Z Z Z) (sO<|bk Z (m:=4) (vs:=ct (-1) (-1) 0 0) Z Z Z Z eG (by show 0+4<=4;omega) ?_)))))
 exact aB I (ct (-1) (-1) 0 0).toArray Z<|sN<|an<|pz [] rfl (bU (vs:=ct (-1) (-1) 0 0) Z Z Z Z (bl Z)) ec Ent.drop
def eM(l I J K:Int):dz G 14 [aY h,mf l I J K] [db h d fp,aI d σ] λv m=>v=.tuple #[]/\m=[db h d fp,aI d {σ with left:=l,full:=I}]:=by
 refine bz func14 Z λE fr O=>aE<|df bJ λq=>bC<|ao (l':=nh d q σ (db h d fp::fr)) aQ<|sS<|sO (cP Z Z λT=>(sN (sZ Z (ea Z Z (bB Z (cI Z) (bB Z (bd 0 Z) (bN Z (au Z) (ah Z) (cC Z Z (bB Z (cI Z) (bB Z (bd 0 Z) (bN Z (au Z) (ah Z) (bB Z (bd 0 Z) (bN Z (au Z) (ah Z) (bB Z (bd 1 Z) (bN Z (au Z) (ah Z) (bB Z (cI Z) (bB Z (bd 3 Z) (dI 14 Z<|cq Z Z Z Z Z fW (dK [true,false,false,false] (aj (ah Z) ak)<|dx 15 Z (cI Z)<|bB Z (bd 4 Z) (dI 17 Z<|cq Z Z Z Z Z fW ?_))))))))))))))))))))
 refine dK [false] ak<|dE<|aB d (iU q {σ with left:=l,full:=I}) Z<|bt [db h d fp,aI d {σ with left:=l,full:=I}] rfl ec<|Ent.trans ?_ ((cU (d:=d) q {σ with left:=l,full:=I} (r:=db h d fp::fr)).trans gfE1)
 exact aG
def fE(l I J K:Int)(O:σ.down=false):dz G 16 [aY h,mf l I J K] [db h d fp,aI d σ] λv m=>v=.tuple #[]/\m=[db h d fp,aI d σ.rested]:=by
 obtain⟨dur,now,pend,left,full,down⟩:=σ;subst O;refine bz func16 Z λE fr T=>aE<|df bJ λq=>bC<|ao (l':=nh d q ⟨dur,now,pend,left,full,false⟩ (db h d fp::fr)) aQ<|sS<|sO (cP Z Z λY=>(sN (sQ (sS (sM Z (cZ Z (bm 0 Z (aL Z Z Z Z (cZ Z (bm 5 Z (aL Z Z Z Z (sN (ag Z (aa (sT (sZ Z<|ea Z Z<|dy 0 Z Z Z<|bN Z (au Z) (ah Z)<|cC Z Z<|dy 0 Z Z Z<|bN Z (au Z) (ah Z)<|dy 3 Z Z Z (dI 10 Z<|cq Z Z Z Z Z fW (dK [false,false] ak<|dx 11 Z (cI Z)<|bB Z (bd 4 Z) (dI 13 Z<|cq Z Z Z Z Z fW ?_)))))))))))))))))))
 refine dK [] ak<|dE<|aB d (iU q ⟨dur,now,pend,-1,-1,false⟩) Z<|bt [db h d fp,aI d ⟨dur,now,pend,-1,-1,false⟩] rfl ec<|Ent.trans ?_ ((cU (d:=d) q ⟨dur,now,pend,-1,-1,false⟩ (r:=db h d fp::fr)).trans gfE1)
 exact aG
def jR:dS 17 [.nilIface] [] λv m=>v=aA 0/\m=[]:=by
 refine bz func17 Z λE fr I=>aW<|sS<|sB Z<|bp Z<|bV Z ub aQ<|aW<|sM Z<|bG Z Z<|bG Z Z<|sA Z<|sB Z<|bp Z<|sB Z<|an<|ar [] rfl Z ⟨rfl,rfl⟩ aQ
def yB(n:Int):dS 17 [.iface 28 (aA n)] [] λv m=>v=aA n/\m=[]:=by
 refine bz func17 Z λE fr I=>aW<|sS<|sB Z<|bp Z<|bV Z (pt n) aQ<|aW<|sM Z<|bG Z Z<|bG Z Z<|sA Z<|sB Z<|bp Z<|sB Z<|an<|ar [] rfl Z ⟨rfl,rfl⟩ aQ
def ip(n:Int):dS 17 [dU n] [] λv m=>v=aA n/\m=[]:=by
 unfold dU
 split
 ·subst n
  exact jR
 ·exact yB n
def CE(n:Int):dS 53 [dU n] [] λv m=>v=.tuple #[aA n,aA (-1)]/\m=[]:=by
 unfold dU
 split
 ·subst n
  exact ub
 ·exact pt n
def lC{α:Type}{x:α}:∀{l:List α} {j:Nat},l[j]?=some x->l.Perm (x::l.eraseIdx j)
 | [],_,h=>by simp at h
 |y::l,0,h=>by simp at h;subst h;exact List.Perm.refl _
 |y::l,j+1,h=>by
  have:=lC (l:=l) (j:=j) (by simpa using h);rw[List.eraseIdx_cons_succ];exact(List.Perm.cons y this).trans (List.Perm.swap x y _)
def Names.perm{M':List (ByteArray×Nat)}(h:M.Perm M'):∀{fs:FK.ph},Names P M fs->∃E,Names P M' E/\E.Perm fs:=by
 induction h with
 |nil=>exact λh=>⟨_,h,List.Perm.refl _⟩
 |cons x _ ih=>
  intro fs h;cases h with
  |cons a t=>
   obtain⟨E,I,J⟩:=ih t;exact⟨_,.cons a I,List.Perm.cons _ J⟩
 |swap x y l=>
  intro fs h;cases h with
  |cons a t=>
   cases t with
   |cons b t=>exact⟨_,.cons b (.cons a t),List.Perm.swap _ _ _⟩
 |trans _ _ K O=>
  intro fs h;obtain⟨f1,I,J⟩:=K h;obtain⟨T,h3,Y⟩:=O I;exact⟨T,h3,Y.trans J⟩
def Names.keys{P:List (Nat×ByteArray)}:∀{M:List (ByteArray×Nat)} {fs:FK.ph},Names P M fs->M.map (·.1)=fs.map (·.1)
 |_,_,.nil=>rfl
 |_,_,.cons _ t=>by simp only[List.map_cons,t.keys]
theorem JD{m:List (ByteArray×V)}{a:ByteArray}(h:a∉m.map (·.1))(v:V):FK.jF m a v=m++[(a,v)]:=by
 refine FK.w9 ?_ v;unfold FK.fG;have:m.find? (·.1==a)=none:=by
  rw[List.find?_eq_none];intro x E I;have:=(MapKept.bytes_beq _ _).1 I;exact h (by rw[<-this];exact List.mem_map_of_mem (f:=(·.1)) E)
 rw[this]
 rfl
def EO{md:Nat}{nv Y:Value}{l:Int}{dn:Bool}{dur:FK.ph}(hn:(dur.map (·.1)).Nodup):dz G 13 [aY d] [blk d 56 #[.map (some md),nv,Y,aA l,aA wh,.bool dn],bX md P dur,fN P] λv m=>v=.tuple #[]/\∃I,I.Perm dur/\m=[aI d ⟨dur,I,[],l,wh,false⟩]:=by
 refine bz func13 Z λE fr hE=>cF<|df bJ λM=>bC<|ao (l':=HP.pure (Names P M dur)::dh cX md (fi M)::blk d 56 #[.map (some md),nv,Y,aA l,aA wh,.bool dn]::fN P::fr) aQ<|eW .head λhN=>?_
 have f8:(M.map (·.1)).Nodup:=by rw[hN.keys];exact hn
 refine bp Z<|sO (jQ cX Z λK=>(cZ Z (bm 1 Z (bD Z Z Z Z fW ?_))))
 refine aB d #[.map (some md),.map (some K),Y,aA l,aA wh,.bool dn] rfl<|sN<|sQ<|sS<|cE 0 Z Z<|aL Z Z Z Z<|sO (ol (b:=md) (m:=fi M) Z Z Z dm λit=>(sN (ai (aO (X:=List (ByteArray×Nat)×Option (ByteArray×Value)×List (ByteArray×Nat)) (λ_=>[(12,eg it 0),(0,aY d)]) (λx=>eh cX it md (fi M) (fi x.1) x.2.1::dh cX K (fi x.2.2)::blk d 56 #[.map (some md),.map (some K),Y,aA l,aA wh,.bool dn]::fN P::fr) (λx=>M.Perm (x.2.2++x.1)) (λx=>x.1.length) (M,none,[]) (List.Perm.refl _) bW (by show Ent _ (eh cX it md (fi M) (fi M) none::dh cX K []::blk d 56 #[.map (some md),.map (some K),Y,aA l,aA wh,.bool dn]::fN P::fr);exact aG) ?_))))
 rintro⟨left,f7,done⟩ J;replace J:M.Perm (done++left):=J;refine ao (l':=eh cX it md (fi M) (fi left) f7::dh cX K (fi done)::blk d 56 #[.map (some md),.map (some K),Y,aA l,aA wh,.bool dn]::fN P::fr) aQ<|sQ ?_
 by_cases HL:left=[]
 ·subst HL;refine sG<|sO<|lp Z Z .head (λ_=>?_) (λj q T=>by simp at T)
  refine bG Z Z<|sN<|sQ<|ag Z<|aM<|aw<|az<|aq<|sT<|sQ ?_
  rw[List.append_nil]at J;obtain⟨I,d8,d9⟩:=Names.perm J hN;refine sG<|cE 2 Z Z<|bD Z Z Z Z fW<|sN<|sG<|cE 5 Z Z<|bD Z Z Z Z fW ?_
  refine ap<|aB d (iU ⟨md,K,cB,P⟩ ⟨dur,I,[],l,wh,false⟩) Z<|bt [aI d ⟨dur,I,[],l,wh,false⟩] rfl ⟨rfl,I,d9,rfl⟩<|Ent.trans ?_<|cU ⟨md,K,cB,P⟩ ⟨dur,I,[],l,wh,false⟩
  refine(Ent.sel (p:=eh cX it md (fi M) (fi []) none) bJ).trans (Ent.ranged.trans ((dH hN).trans ((Ent.sel (p:=dh cX K (fi done)) dm).trans ((dH d8).trans ((Ent.row0 (e:=205) (size:=3)).trans ?_)))));show Ent _ (blk d 56 (iU ⟨md,K,cB,P⟩ ⟨dur,I,[],l,wh,false⟩)::bX md P dur::bX K P I::fN P::row 205 3 cB 0 []::fr);exact aG
 ·refine sG<|sO<|lp Z Z .head (λh=>absurd (List.map_eq_nil_iff.1 h) HL) λj q T=>?_
  obtain⟨x,hx,rfl⟩:∃x,left[j]?=some x/\(x.1,aY x.2)=q:=by
   rw[List.getElem?_map]at T;cases hl:left[j]? with
   |none=>rw[hl]at T;cases T
   |some x=>rw[hl]at T;injection T with T;exact⟨x,rfl,T⟩
  have f9:=(gfGet.1 hx).1;have mt:=lC hx;have d6:M.Perm ((done++[x])++left.eraseIdx j):=by
   rw[List.append_assoc];exact J.trans<|List.Perm.append_left done mt
  have d7:x.1∉done.map (·.1):=by
   have:=(d6.map (·.1)).nodup_iff.1 f8;rw[List.map_append,List.map_append,List.append_assoc,List.nodup_append]at this;intro hm;exact this.2.2 _ hm _ di Z
  rw[<-iz];refine bG Z Z<|sN<|sQ<|aK Z<|aa<|sT<|ai<|sS<|bF (nQ (p:=(x.1,aY x.2)) Z) (mL .head)<|bG Z Z<|bG Z Z<|sA Z<|sB Z<|sG<|sM Z<|cZ Z<|bm 1 Z<|aL Z Z Z Z<|sM Z<|sM Z<|sO<|xJ (a:=x.1) (v:=aY x.2) Z Z lm Z Z Z bJ ?_
  rw[zH,JD d7];refine ap<|al<|aH (left.eraseIdx j,some (x.1,aY x.2),done++[x]) d6 (by show(left.eraseIdx j).length<left.length;rw[List.length_eraseIdx_of_lt f9];omega) bW (by show Ent _ (eh cX it md (fi M) (fi (left.eraseIdx j)) (some (x.1,aY x.2))::dh cX K (fi (done++[x]))::blk d 56 #[.map (some md),.map (some K),Y,aA l,aA wh,.bool dn]::fN P::fr);exact aG)
def yD:dz G 6 [] [] λv m=>∃h d,v=aY h/\m=[db h d none,aI d ⟨[],[],[],-1,-1,false⟩]:=by
 refine bz func6 Z λE fr hE=>aW<|sS<|sB Z<|sS<|sO (jQ cX Z λK=>(sP (bI (ps:=[(0,.tmp 2),(3,.const (aA (-1))),(4,.const (aA (-1)))]) (vs:=[.map (some K),aA (-1),aA (-1)]) (cs:=#[.map (some K),.map none,cB,aA (-1),aA (-1),.bool false]) Z Z Z Z Z) (sO (cP Z Z λI=>(sP (bI (ps:=[(0,.tmp 4)]) (vs:=[aY I]) (cs:=#[aY I,.pointer none]) Z Z Z Z Z) (sO (cP Z Z λT=>(sB Z (sS (sM Z (cZ Z (bm 0 Z<|aL Z Z Z Z (bQ Z (EO (md:=K) (P:=[]) (dur:=[]) di) ((bo bJ bJ).trans (Ent.cons ((dH (M:=[]) .nil).trans (Ent.cons (Ent.all (m:=[])))))) ?_)))))))))))))
 rintro v m ⟨rfl,J,O,rfl⟩;refine ae<|sN<|bp Z<|sB Z<|an ?_
 have Y:J=[]:=List.Perm.eq_nil O;subst Y;exact ar [db T I none,aI I ⟨[],[],[],-1,-1,false⟩] rfl Z ⟨T,I,rfl,rfl⟩ gfE1
end
end Go.Y
