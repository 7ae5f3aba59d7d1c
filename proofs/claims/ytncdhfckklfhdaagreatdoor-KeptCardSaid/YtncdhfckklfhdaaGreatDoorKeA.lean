/- Short names. -/
set_option linter.defProp false
variable{a i id j k n s:Nat}{st x:Int}{α:Type}{un:List Nat}
section
variable{p:Prop}{α:Type _}
def am(h:p:=by omega):p:=h
def di(h:p:=by simp):p:=h
def fh(h:p:=by decide):p:=h
def fW(h:p:=by first|decide|simp|(simp;omega)):p:=h
def gfGet{l:List α}{a:α}:l[i]?=some a<->∃h:i<l.length,l[i]=a:=List.getElem?_eq_some_iff
def cg{l:List α}{a:α}(h:l[i]?=some a):a∈l:=List.mem_of_getElem? h
def cx(n:Nat):n<=n:=Nat.le_refl n
def qF[d:Decidable p](h:¬p):decide p=false:=decide_eq_false h
def xC[d:Decidable p](h:p):decide p=true:=decide_eq_true h
end
namespace FK
structure Node where
 NR:Int
 close:Int
 beat:Int
 base:Int
 cap:Int
 NS:Int
 after:List Int
 deriving Inhabited
structure Flow where
 deadline:Int
 NO:List Node
 deriving Inhabited
def aft(l:List Node)(i:Nat):List Nat:=match l[i]? with|some n=>n.after.map Int.toNat|none=>[]
inductive Ac(l:List Node):Nat->Prop where
 |mk (i:Nat) (h:∀k,k∈aft l i->Ac l k):Ac l i
def rz:∀t w,w.testBit t=true->(∀j,j<t->w.testBit j=false)->
 ∀j,(w&&&(w-1)).testBit j=(w.testBit j&&decide (j≠t)):=by
 intro t
 induction t with
 |zero=>
  intro w E _ j;have T:w%2=1:=by simpa[Nat.testBit_zero]using E
  rw[Nat.testBit_and];cases j with
  |zero=>simp[Nat.testBit_zero];omega
  |succ j=>
   rw[Nat.testBit_succ,Nat.testBit_succ,show(w-1)/2=w/2 by omega];simp
 |succ t K=>
  intro w E J j;have Y:w%2=0:=by
   have:=J 0 am;simp[Nat.testBit_zero]at this;omega
  have hp:0<w:=by
   rcases Nat.eq_zero_or_pos w with h|h
   ·subst h;simp at E
   ·exact h
  rw[Nat.testBit_succ]at E;have I:=K (w/2) E (λj O=>by have:=J (j+1) am;rwa [Nat.testBit_succ]at this);rw[Nat.testBit_and];cases j with
  |zero=>simp[Nat.testBit_zero];omega
  |succ j=>
   have:=I j;rw[Nat.testBit_and]at this;rw[Nat.testBit_succ,Nat.testBit_succ,show(w-1)/2=w/2-1 by omega,this];simp
def mask:List Nat->Nat
 | []=>0
 |k::l=>(1<<<k)|||mask l
def ni(k j:Nat):(1<<<k).testBit j=decide (j=k):=by
 rw[Nat.one_shiftLeft,Nat.testBit_two_pow];simp[eq_comm]
theorem qk(l:List Nat)(j:Nat):(mask l).testBit j=decide (j∈l):=by
 induction l with
 |nil=>simp[mask]
 |cons k l E=>rw[mask,Nat.testBit_or,E,ni];simp
def Bz(a b:List Nat):mask (a++b)=mask a|||mask b:=by
 induction a with
 |nil=>simp[mask]
 |cons k a E=>simp[mask,E,Nat.or_assoc]
theorem sK(a b:Nat):a&&&b=0<->∀j,¬(a.testBit j=true/\b.testBit j=true):=by
 constructor
 ·intro h j
  have:=congrArg (λx=>x.testBit j) h;simp[Nat.testBit_and]at this;intro ⟨E,I⟩;simp[E,I]at this
 ·intro h
  apply Nat.eq_of_testBit_eq;intro j;have:=h j;rw[Nat.testBit_and,Nat.zero_testBit];cases E:a.testBit j<;>cases I:b.testBit j<;>simp_all
def o9(l:List Nat)(left:Nat):mask l&&&left=0<->∀k∈l,left.testBit k=false:=by
 rw[sK];constructor
 ·intro h k hk
  have:=h k;rw[qk]at this;simp[hk]at this;exact this
 ·intro h j ⟨E,I⟩
  rw[qk]at E;have:=h j (by simpa using E);rw[this]at I;cases I
structure Ordering(l:List Node)(left:Nat)(told:List Nat):Prop where
 bits:∀i,left.testBit i=true<->i<l.length/\i∉told
 lt:∀i∈told,i<l.length
 nodup:told.Nodup
 behind:∀a i b,told=a++i::b->∀k∈aft l i,k<l.length->k∈a
def Ordering.start(l:List Node):Ordering l (2 ^ l.length-1) [] where
 bits:=by intro i;simp[Nat.testBit_two_pow_sub_one]
 lt:=by simp
 nodup:=by simp
 behind:=by intro a i b h;simp at h
def Ordering.tell{l:List Node}{left:Nat}(h:Ordering l left un)(hi:left.testBit i=true)
(Y:∀k∈aft l i,left.testBit k=false){left':Nat}(hl:∀j,left'.testBit j=(left.testBit j&&decide (j≠i))):Ordering l left' (un++[i]) where
 bits:=by
  intro j;rw[hl j];have:=h.bits j;simp;constructor
  ·rintro⟨I,J⟩;exact⟨(this.1 I).1,(this.1 I).2,J⟩
  ·rintro⟨I,J,h3⟩;exact⟨this.2 ⟨I,J⟩,h3⟩
 lt:=by
  intro j T;simp at T;rcases T with T|rfl
  ·exact h.lt j T
  ·exact((h.bits j).1 hi).1
 nodup:=by
  rw[List.nodup_append];refine⟨h.nodup,by simp,?_⟩;intro a ha b K;simp at K;subst K;rintro rfl;exact((h.bits _).1 hi).2 ha
 behind:=by
  intro a j b E k hk O;rcases List.eq_nil_or_concat b with rfl|⟨b',x,rfl⟩
  ·have:=List.append_inj' E di
   obtain⟨I,J⟩:=this;simp at J;subst J;subst I;have:=Y k hk;have K:=h.bits k;rw[this]at K;simp[O]at K;exact K
  ·rw[List.concat_eq_append,<-List.cons_append,<-List.append_assoc]at E
   have:=(List.append_inj' E di).1;exact h.behind a j b' this k hk O
def Ordering.ac{l:List Node}{left:Nat}(h:Ordering l left un)(O:∀i,∀k∈aft l i,k<l.length):∀i∈un,Ac l i:=by
 have key:∀n,∀a b,un=a++b->a.length=n->∀i∈a,Ac l i:=by
  intro n
  induction n using Nat.strongRecOn with
  |_ n T=>
   intro a b E I i hi;obtain⟨J,K,rfl⟩:=List.append_of_mem hi;refine .mk i λk hk=>?_;have:=h.behind J i (K++b) (by rw[E];simp) k hk (O i k hk);exact T J.length (by rw[<-I];simp) J (i::K++b) (by rw[E];simp) rfl k this
 intro i hi;exact key _ un [] di rfl i hi
def Ordering.stuck{l:List Node}{left:Nat}(h:Ordering l left un)(I:∀i,∀k∈aft l i,k<l.length)
(J:∀i,left.testBit i=true->∃k∈aft l i,left.testBit k=true)(i:Nat):left.testBit i=true<->i<l.length/\¬Ac l i:=by
 have key:∀i,Ac l i->left.testBit i=false:=by
  intro i hi
  induction hi with
  |mk i _ ih=>
   cases hb:left.testBit i with
   |false=>rfl
   |true=>
    obtain⟨k,hk,E⟩:=J i hb;rw[ih k hk]at E;cases E
 constructor
 ·intro hb
  refine⟨((h.bits i).1 hb).1,λK=>?_⟩;rw[key i K]at hb;cases hb
 ·intro ⟨T,Y⟩
  refine(h.bits i).2 ⟨T,λO=>Y (h.ac I i O)⟩
structure Gone(l:List Node)(g:List Bool):Prop where
 len:g.length=l.length
 sound:∀i,g[i]?=some true->Ac l i
def Whole(l:List Node)(g:List Bool):Prop:=∀i,i<l.length->Ac l i->g[i]?=some true
def Gone.start(l:List Node):Gone l (List.replicate l.length false) where
 len:=by simp
 sound:=by intro i h;simp[List.getElem?_replicate]at h
def More(g g':List Bool):Prop:=∀i:Nat,g[i]?=some true->g'[i]?=some true
def More.refl(g:List Bool):More g g:=λ_ h=>h
def More.trans{a b c:List Bool}(h:More a b)(k:More b c):More a c:=λi x=>k i (h i x)
def DI:∀{g g':List Bool},g.length=g'.length->More g g'->g.count true<=g'.count true/\((∃i:Nat,g[i]?=some false/\g'[i]?=some true)->g.count true<g'.count true):=by
 intro g
 induction g with
 |nil=>intro g' I _;exact⟨by simp,λ⟨i,h,_⟩=>by simp at h⟩
 |cons b g ih=>
  intro g' I O;cases g' with
  |nil=>simp at I
  |cons K g'=>
   have J:More g g':=λi h=>by have:=O (i+1) (by simpa using h);simpa using this
   obtain⟨h1,Y⟩:=ih (by simpa using I) J;have h0:b=true->K=true:=λT=>by have:=O 0 (by simp[T]);simpa using this
   have hc:∀x:Bool,(if x==true then 1 else 0)=(if x=true then 1 else 0):=by intro x;cases x<;>rfl
   simp only[List.count_cons];refine⟨by cases b<;>cases K<;>simp at h0 ⊢<;>omega,?_⟩;rintro⟨i,hi,E⟩;cases i with
   |zero=>simp at hi E;subst hi E;simp;omega
   |succ i=>
    simp at hi E;have:=Y ⟨i,hi,E⟩;cases b<;>cases K<;>simp_all<;>omega
structure Sweep(l:List Node)(g g':List Bool)(i:Nat):Prop where
 gone:Gone l g'
 more:More g g'
 asked:∀j,j<i->(∀k∈aft l j,g[k]?=some true)->g'[j]?=some true
section
variable{l:List Node}{g g':List Bool}
def Sweep.start(h:Gone l g):Sweep l g g 0:=⟨h,.refl g,λ_ h=>by omega⟩
def Sweep.next(h:Sweep l g g' i)(hi:i<l.length){b:Bool}
(hb:b=true<->∀k∈aft l i,g'[k]?=some true)(hv:∀k∈aft l i,k<l.length){v:Bool}(K:v=(g'.getD i false||b)):Sweep l g (g'.set i v) (i+1):=by
 have O:=h.gone.len;have I:More g' (g'.set i v):=by
  intro j E;rw[List.getElem?_set]
  split
  ·rename_i T;subst T
   rw[if_pos am,K,List.getD,E];simp
  ·exact E
 refine⟨⟨by simp[O],?_⟩,h.more.trans I,?_⟩
 ·intro j E
  rw[List.getElem?_set]at E
  split at E
  ·rename_i T;subst T
   rw[if_pos am]at E;simp[K]at E;rcases E with E|E
   ·exact h.gone.sound i (by
     rcases hx:g'[i]? with _|x
     ·simp[hx]at E
     ·simp[hx]at E;rw[E])
   ·exact .mk i λk hk=>h.gone.sound k (hb.1 E k hk)
  ·exact h.gone.sound j E
 ·intro j E J
  rcases Nat.lt_or_ge j i with Y|d6
  ·exact I j (h.asked j Y J)
  ·obtain rfl:j=i:=am
   have:b=true:=hb.2 λk hk=>h.more k (J k hk);rw[List.getElem?_set,if_pos rfl,if_pos am,K,this];simp
def Far(l:List Node)(g:List Bool)(r:Nat):Prop:=Whole l g\/r<=g.count true
def Ca(O:∀i,∀k∈aft l i,k<l.length)(hl:g.length=l.length):Whole l g\/∃i,i<l.length/\g[i]?=some false/\∀k∈aft l i,g[k]?=some true:=by
 by_cases hw:Whole l g
 ·exact .inl hw
 ·right
  have key:∀i,Ac l i->i<l.length->g[i]?=some true\/∃i,i<l.length/\g[i]?=some false/\∀k∈aft l i,g[k]?=some true:=by
   intro i hi
   induction hi with
   |mk i _ Y=>
    intro I
    by_cases E:∀k∈aft l i,g[k]?=some true
    ·rcases hx:g[i]? with _|x
     ·rw[List.getElem?_eq_none_iff]at hx;omega
     ·cases x with
      |true=>exact .inl rfl
      |false=>exact .inr ⟨i,I,hx,E⟩
    ·have⟨k,hk⟩:∃k,k∈aft l i/\¬g[k]?=some true:=by
      apply Classical.byContradiction;intro K;exact E λk hk=>Classical.byContradiction λJ=>K ⟨k,hk,J⟩
     rcases Y k hk.1 (O i k hk.1)with h|h
     ·exact absurd h hk.2
     ·exact .inr h
  apply Classical.byContradiction;intro K;exact hw λi I T=>(key i T I).resolve_right K
def Far.next(K:∀i,∀k∈aft l i,k<l.length){r:Nat}(J:Gone l g)(h:Far l g r)(s:Sweep l g g' l.length):Far l g' (r+1):=by
 rcases h with h|h
 ·exact .inl λi hi I=>s.more i (h i hi I)
 ·rcases Ca K J.len with hw|⟨i,hi,O,E⟩
  ·exact .inl λi hi I=>s.more i (hw i hi I)
  ·have:=(DI (by rw[J.len,s.gone.len]) s.more).2 ⟨i,O,s.asked i hi E⟩
   exact .inr am
def Far.end_(E:Gone l g)(h:Far l g l.length):Whole l g:=by
 rcases h with h|h
 ·exact h
 ·intro i hi _
  have I:=E.len;have hc:g.count true=g.length:=by have:=List.count_le_length (a:=true) (l:=g);omega
  have:=List.count_eq_length.1 hc g[i] (List.getElem_mem am);rw[List.getElem?_eq_getElem am,<-this]
theorem Gone.iff(E:Gone l g)(h:Whole l g)(i:Nat)(hi:i<l.length):g[i]?=some true<->Ac l i:=⟨E.sound i,h i hi⟩
end
def span(n low:Int):Prop:=low<=n/\n<=1048576
instance (n low:Int):Decidable (span n low):=inferInstanceAs (Decidable (_/\_))
def fY(n:Node):Prop:=1<=n.NR/\n.NR<=5/\span n.close 1/\span n.beat 0/\span n.base 1/\span n.cap n.base/\span n.NS 0
def EdgesOk(len:Nat):Int->List Int->Prop
 |_,[]=>True
 |p,k::r=>p<k/\k<len/\EdgesOk len k r
def iY(f:Flow):Prop:=span f.deadline 1/\1<=f.NO.length/\f.NO.length<=12
def OkTo(f:Flow)(i:Nat):Prop:=∀j n,j<i->f.NO[j]?=some n->fY n/\EdgesOk f.NO.length (-1) n.after
inductive Checked(f:Flow):Int->Int->Prop where
 |head (h:¬iY f):Checked f 2 (-1)
 |bound (i:Nat) (n:Node) (h:iY f) (ho:OkTo f i) (hn:f.NO[i]?=some n) (hb:¬fY n):Checked f 2 i
 |edge (i:Nat) (n:Node) (h:iY f) (ho:OkTo f i) (hn:f.NO[i]?=some n) (hb:fY n) (he:¬EdgesOk f.NO.length (-1) n.after):Checked f 3 i
 |cycle (i:Nat) (h:iY f) (ho:OkTo f f.NO.length) (hi:i<f.NO.length) (hn:¬Ac f.NO i) (hl:∀j,j<i->Ac f.NO j):Checked f 4 i
 |ok (h:iY f) (ho:OkTo f f.NO.length) (ha:∀i,i<f.NO.length->Ac f.NO i):Checked f 0 (-1)
def eK{l:List α}{x:α}(h:l[i]?=some x):i<l.length:=(gfGet.1 h).1
def lP{f:Flow}{n m:Node}(hi:OkTo f i)(E:OkTo f j)(I:f.NO[i]?=some n)(J:f.NO[j]?=some m)
(K:¬(fY n/\EdgesOk f.NO.length (-1) n.after))(O:¬(fY m/\EdgesOk f.NO.length (-1) m.after)):i=j:=by
 rcases Nat.lt_trichotomy i j with h|h|h
 ·exact absurd (E i n h I) K
 ·exact h
 ·exact absurd (hi j m h J) O
def Checked.unique{f:Flow}{e a a':Int}(h:Checked f e a)(T:Checked f st a'):e=st/\a=a':=by
 cases h with
 |head h=>cases T<;>first|exact⟨rfl,rfl⟩|contradiction
 |bound i n h O K hb=>
  have Y:¬(fY n/\EdgesOk f.NO.length (-1) n.after):=λx=>hb x.1;cases T with
  |head T=>contradiction
  |bound j m _ E I J=>obtain rfl:=lP O E K I Y (λx=>J x.1);exact⟨rfl,rfl⟩
  |edge j m _ E I J he=>
   obtain rfl:=lP O E K I Y (λx=>he x.2);rw[K]at I;cases I;contradiction
  |cycle j _ E=>exact absurd (E i n (eK K) K) Y
  |ok _ E=>exact absurd (E i n (eK K) K) Y
 |edge i n h O K hb he=>
  have Y:¬(fY n/\EdgesOk f.NO.length (-1) n.after):=λx=>he x.2;cases T with
  |head T=>contradiction
  |bound j m _ E I J=>
   obtain rfl:=lP O E K I Y (λx=>J x.1);rw[K]at I;cases I;contradiction
  |edge j m _ E I J d7=>obtain rfl:=lP O E K I Y (λx=>d7 x.2);exact⟨rfl,rfl⟩
  |cycle j _ E=>exact absurd (E i n (eK K) K) Y
  |ok _ E=>exact absurd (E i n (eK K) K) Y
 |cycle i h O hi K hl=>
  cases T with
  |head T=>contradiction
  |bound j m _ E I J=>exact absurd (O j m (eK I) I).1 J
  |edge j m _ E I J he=>exact absurd (O j m (eK I) I).2 he
  |cycle j _ _ hj d6 d8=>
   rcases Nat.lt_trichotomy i j with h|h|h
   ·exact absurd (d8 i h) K
   ·subst h;exact⟨rfl,rfl⟩
   ·exact absurd (hl j h) d6
  |ok _ _ ha=>exact absurd (ha i hi) K
 |ok h O ha=>
  cases T with
  |head T=>contradiction
  |bound j m _ E I J=>exact absurd (O j m (eK I) I).1 J
  |edge j m _ E I J he=>exact absurd (O j m (eK I) I).2 he
  |cycle j _ _ hj d6 _=>exact absurd (ha j hj) d6
  |ok=>exact⟨rfl,rfl⟩
open Classical in
noncomputable def chk (f:Flow):Int×Int:=if h:∃p:Int×Int,Checked f p.1 p.2 then choose h else(0,0)
def Checked.chk{f:Flow}{e a:Int}(h:Checked f e a):chk f=(e,a):=by
 have E:∃p:Int×Int,Checked f p.1 p.2:=⟨(e,a),h⟩;unfold FK.chk;rw[dif_pos E];have hc:=Classical.choose_spec E;have⟨h1,h2⟩:=hc.unique h;exact Prod.ext h1 h2
def IH{l:List Node}{n:Node}(h:l[i]?=some n):aft l i=n.after.map Int.toNat:=by simp[aft,h]
theorem EdgesOk.bounds{len:Nat}:∀{p:Int} {l:List Int},EdgesOk len p l->∀k∈l,p<k/\k<len:=by
 intro p l
 induction l generalizing p with
 |nil=>intro _ k hk;simp at hk
 |cons a l J=>
  intro ⟨E,I,h3⟩ k hk;simp at hk;rcases hk with rfl|hk
  ·exact⟨E,I⟩
  ·have:=J h3 k hk;omega
def OkTo.aft_lt{f:Flow}(h:OkTo f f.NO.length)(i:Nat):∀k∈aft f.NO i,k<f.NO.length:=by
 intro k hk;unfold aft at hk
 split at hk
 ·rename_i n E
  simp at hk;obtain⟨x,I,rfl⟩:=hk;have:=(h i n (eK E) E).2.bounds x I;omega
 ·simp at hk
def EdgesOk.length_le{len:Nat}:∀{p:Int} {l:List Int},EdgesOk len p l->-1<=p->l.length+(p+1).toNat<=len\/l=[]:=by
 intro p l
 induction l generalizing p with
 |nil=>intro _ _;exact .inr rfl
 |cons a l E=>
  intro ⟨I,J,h3⟩ K;left;rcases E h3 am with h|h
  ·simp;omega
  ·subst h;simp;omega
def Mh{p:Nat->Prop}(h:p n):∃m,m<=n/\p m/\∀j,j<m->¬p j:=by
 induction n using Nat.strongRecOn with
 |_ n O=>
  by_cases J:∃j,j<n/\p j
  ·obtain⟨j,E,I⟩:=J
   obtain⟨m,T,K,h3⟩:=O j E I;exact⟨m,am,K,h3⟩
  ·exact⟨n,cx _,h,λj E I=>J ⟨j,E,I⟩⟩
def wb(f:Flow):∃e a,Checked f e a:=by
 by_cases K:iY f
 ·by_cases ho:OkTo f f.NO.length
  ·by_cases ha:∃i,i<f.NO.length/\¬Ac f.NO i
   ·obtain⟨i,hi⟩:=ha
    obtain⟨m,h1,T,h3⟩:=Mh (p:=λi=>i<f.NO.length/\¬Ac f.NO i) hi;exact⟨_,_,.cycle m K ho T.1 T.2 λj I=>Classical.byContradiction λJ=>h3 j I ⟨am,J⟩⟩
   ·exact⟨_,_,.ok K ho λi hi=>Classical.byContradiction λJ=>ha ⟨i,hi,J⟩⟩
  ·have Y:∃i:Nat,∃n,f.NO[i]?=some n/\¬(fY n/\EdgesOk f.NO.length (-1) n.after):=by
    apply Classical.byContradiction;intro J;exact ho λj n _ I=>Classical.byContradiction λE=>J ⟨j,n,I,E⟩
   obtain⟨i,hi⟩:=Y;obtain⟨m,_,⟨n,h1,T⟩,h3⟩:=Mh (p:=λi:Nat=>∃n,f.NO[i]?=some n/\¬(fY n/\EdgesOk f.NO.length (-1) n.after)) hi;have O:OkTo f m:=λj x I Y=>Classical.byContradiction λE=>h3 j I ⟨x,Y,E⟩
   by_cases E:fY n
   ·exact⟨_,_,.edge m n K O h1 E λhe=>T ⟨E,he⟩⟩
   ·exact⟨_,_,.bound m n K O h1 E⟩
 ·exact⟨_,_,.head K⟩
def Ce(f:Flow):Checked f (chk f).1 (chk f).2:=by
 obtain⟨e,a,h⟩:=wb f;rw[h.chk];exact h
structure Fit(f:Flow):Prop where
 head:iY f
 NO:OkTo f f.NO.length
 ac:∀i,i<f.NO.length->Ac f.NO i
def qa{f:Flow}(h:(chk f).1=0):Fit f:=by
 have hc:=Ce f;rw[h]at hc
 generalize (chk f).2=a at hc
 generalize J:(0:Int)=e at hc
 cases hc with
 |ok h E I=>exact⟨h,E,I⟩
 |_=>omega
def dJ(n:Nat):List UInt8:=if n<128 then[UInt8.ofNat n] else UInt8.ofNat (n%128+128)::dJ (n/128)
termination_by n
def js(n:Node):List UInt8:=
 dJ n.NR.toNat++dJ n.close.toNat++dJ n.beat.toNat++dJ n.base.toNat++dJ n.cap.toNat++dJ n.NS.toNat++dJ n.after.length++n.after.flatMap λk=>dJ k.toNat
def mP(f:Flow):List UInt8:=dJ f.deadline.toNat++dJ f.NO.length++f.NO.flatMap js
def rd(b:List UInt8)(p:Nat):Except Nat (Nat×Nat):=
 match b[p]? with
 |none=>.error p
 |some c=>if c.toNat<128 then .ok (c.toNat,p+1) else
  match b[p+1]? with
  |none=>.error p
  |some d=>if d.toNat<128 then(if d.toNat=0 then .error p else .ok (c.toNat%128+d.toNat*128,p+2)) else
   match b[p+2]? with
   |none=>.error p
   |some e=>if e.toNat<128 then(if e.toNat=0 then .error p else .ok (c.toNat%128+d.toNat%128*128+e.toNat*16384,p+3)) else .error p
abbrev Rd(α:Type):=Nat->Except Nat (α×Nat)
def lG{α:Type}(r:Rd α):Nat->List α->Rd (List α)
 |0,l,p=>.ok (l,p)
 |n+1,l,p=>match r p with
  |.error e=>.error e
  |.ok (x,p')=>lG r n (l++[x]) p'
def gp(b:List UInt8):Rd Int:=λp=>match rd b p with
 |.error e=>.error e
 |.ok (n,p')=>.ok ((n:Int),p')
def gu{α:Type}(b:List UInt8)(r:Rd α):Rd (List α):=λp=>match rd b p with
 |.error e=>.error e
 |.ok (n,p')=>lG r n [] p'
def andThen{α β:Type}(r:Except Nat (α×Nat))(k:α->Rd β):Except Nat (β×Nat):=match r with
 |.error e=>.error e
 |.ok (x,p)=>k x p
def ig(b:List UInt8):Rd Node:=λp=>
 andThen (gp b p) λI p=>andThen (gp b p) λE p=>andThen (gp b p) λbeat p=>andThen (gp b p) λbase p=>
 andThen (gp b p) λcap p=>andThen (gp b p) λJ p=>andThen (gu b (gp b) p) λafter p=>.ok (⟨I,E,beat,base,cap,J,after⟩,p)
def jq(b:List UInt8):Rd Flow:=λp=>
 andThen (gp b p) λE p=>andThen (gu b (ig b) p) λI p=>.ok (⟨E,I⟩,p)
noncomputable def nl(b:List UInt8):Except (Int×Int) Flow:=match jq b 0 with
 |.error e=>.error (1,(e:Int))
 |.ok (f,p)=>if p<b.length then .error (1,(p:Int)) else if (chk f).1=0 then .ok f else .error (chk f)
def At(b:List UInt8)(p:Nat)(l:List UInt8):Prop:=∀i,i<l.length->b[p+i]?=l[i]?
def mO(h:n<128):dJ n=[UInt8.ofNat n]:=by rw[dJ,if_pos h]
theorem oy(h:¬n<128):dJ n=UInt8.ofNat (n%128+128)::dJ (n/128):=by rw[dJ,if_neg h]
theorem ef(h:n<2097152):(dJ n).length<=3:=by
 by_cases E:n<128
 ·rw[mO E];simp
 ·rw[oy E]
  by_cases I:n/128<128
  ·rw[mO I];simp
  ·rw[oy I,mO am];simp
def dec_fit{b:List UInt8}{f:Flow}(h:nl b=.ok f):Fit f:=by
 unfold nl at h
 split at h
 ·cases h
 ·split at h
  ·cases h
  ·split at h
   ·rename_i E;cases h;exact qa E
   ·cases h
structure Tm(K:Type) where
 key:K
 due:Nat
 seq:Nat
section
variable{b l now:Nat}
def kC(now due:Nat):Nat:=Nat.log2 (due ^^^ now)/6
def Co(l due:Nat):Nat:=due/64 ^ l%64
def tN(l:Nat):64 ^ l=2 ^ (6*l):=by rw[Nat.pow_mul]
theorem KE(a b k:Nat):(a ^^^ b)/2 ^ k=(a/2 ^ k) ^^^ (b/2 ^ k):=by
 rw[<-Nat.shiftRight_eq_div_pow,<-Nat.shiftRight_eq_div_pow,<-Nat.shiftRight_eq_div_pow,Nat.shiftRight_xor_distrib]
theorem yk(a b:Nat):a ^^^ b=0<->a=b:=by
 constructor
 ·intro h
  apply Nat.eq_of_testBit_eq;intro i;have:=congrArg (λx=>x.testBit i) h;simp[Nat.testBit_xor]at this;exact this
 ·rintro rfl;exact Nat.xor_self a
def xM{due:Nat}(I:1<=l):kC now due<l<->due/64 ^ l=now/64 ^ l:=by
 rw[tN,<-yk,<-KE];unfold kC;rw[Nat.div_lt_iff_lt_mul am,Nat.div_eq_zero_iff];have J:0<2 ^ (6*l):=Nat.two_pow_pos _
 by_cases E:due ^^^ now=0
 ·rw[E];simp;omega
 ·rw[Nat.log2_lt E,Nat.mul_comm l 6];omega
def lev_le{due:Nat}:kC now due<=l<->due/64 ^ (l+1)=now/64 ^ (l+1):=by
 rw[<-xM am];omega
def tV{due:Nat}(E:1<=l):l<=kC now due<->due/64 ^ l≠now/64 ^ l:=by
 have:=xM (now:=now) (due:=due) E;omega
def DK{due:Nat}(E:now<=2 ^ 62)(I:due<=2 ^ 62):kC now due<=10:=by
 rw[lev_le];have e:(64:Nat) ^ (10+1)=2 ^ 66:=by decide
 rw[e,Nat.div_eq_of_lt am,Nat.div_eq_of_lt am]
theorem Av(a l:Nat):a/64 ^ (l+1)=a/64 ^ l/64:=by rw[Nat.div_div_eq_div_mul,Nat.pow_succ]
theorem Ie(l due:Nat):Co l due<64:=Nat.mod_lt _ am
def nI{due:Nat}(h:kC now due<=l):due/64 ^ l=now/64 ^ (l+1)*64+Co l due:=by
 have E:=lev_le.1 h;rw[Av]at E;unfold Co;have:=Nat.div_add_mod (due/64 ^ l) 64;omega
def pD(h:a/k<b/k):a<b:=by
 rcases Nat.lt_or_ge a b with E|E
 ·exact E
 ·have:=Nat.div_le_div_right (c:=k) E;omega
def GA(I:now<=b)(h:kC now a<kC now b):a<b:=by
 have E:1<=kC now b:=am;have J:=(tV E).1 (cx _);have h3:=(xM E).1 h;have K:=Nat.div_le_div_right (c:=64 ^ kC now b) I;exact pD (k:=64 ^ kC now b) am
def DJ(E:kC now a<=l)(I:kC now b<=l)(h:Co l a<Co l b):a<b:=by
 have J:=nI E;have K:=nI I;exact pD (k:=64 ^ l) am
def cQ(now l s:Nat):Nat:=now/64 ^ (l+1)*64 ^ (l+1)+s*64 ^ l
def mT(now l s:Nat):cQ now l s=(now/64 ^ (l+1)*64+s)*64 ^ l:=by
 unfold cQ;rw[Nat.pow_succ,Nat.add_mul,Nat.mul_assoc,Nat.mul_comm 64]
theorem lM:cQ now l s/64 ^ l=now/64 ^ (l+1)*64+s:=by
 rw[mT,Nat.mul_div_cancel _ (Nat.pow_pos am)]
theorem iB(E:s<64):cQ now l s/64 ^ (l+1)=now/64 ^ (l+1):=by
 rw[Av,lM];omega
def zz{due:Nat}(h:kC now due<=l):cQ now l (Co l due)<=due:=by
 rw[mT,<-nI h];exact Nat.div_mul_le_self _ _
def CY{due:Nat}(h:kC now due=0):cQ now 0 (Co 0 due)=due:=by
 rw[mT,<-nI am];simp
def yC{due:Nat}(E:1<=l)(h:kC now due=l)(I:now<=due):now<cQ now l (Co l due):=by
 apply pD (k:=64 ^ l);rw[lM,<-nI am];have J:=(tV E).1 (Nat.le_of_eq h.symm);have:=Nat.div_le_div_right (c:=64 ^ l) I;omega
def w8{due:Nat}(I:i/64 ^ (kC now due+1)=now/64 ^ (kC now due+1))(J:1<=kC now due->i/64 ^ kC now due≠due/64 ^ kC now due):kC i due=kC now due:=by
 have h3:kC i due<=kC now due:=by rw[lev_le,I,<-lev_le];exact cx _
 rcases Nat.eq_zero_or_pos (kC now due)with h|h
 ·omega
 ·have:=(tV (now:=i) h).2 (λe=>J h e.symm)
  omega
def mZ{m:Nat}(h:a/64 ^ l=b/64 ^ l)(E:l<=m):a/64 ^ m=b/64 ^ m:=by
 obtain⟨k,rfl⟩:=Nat.le.dest E;rw[Nat.pow_add,<-Nat.div_div_eq_div_mul,<-Nat.div_div_eq_div_mul,h]
theorem rJ{due:Nat}(E:s<64)(h:l<kC now due\/kC now due=l/\Co l due≠s):kC (cQ now l s) due=kC now due:=by
 apply w8
 ·rcases h with h|h
  ·exact mZ (iB E) am
  ·rw[h.1];exact iB E
 ·intro I
  rcases h with h|⟨h,J⟩
  ·rw[mZ (iB E) (by omega:l+1<=kC now due)]
   exact λe=>(tV I).1 (cx _) e.symm
  ·rw[h,lM,nI (now:=now) (l:=l) am];omega
def B8{due:Nat}(E:1<=l)(h:kC now due=l):kC (cQ now l (Co l due)) due<l:=by
 rw[xM E,lM,<-nI am]
theorem IV{to due:Nat}(I:s<64)(J:now<=to)(E:to<cQ now l s)(h:l<kC now due\/kC now due=l/\s<=Co l due):kC to due=kC now due:=by
 have h3:to/64 ^ (l+1)=now/64 ^ (l+1):=by
  have a:=Nat.div_le_div_right (c:=64 ^ (l+1)) J;have b:=Nat.div_le_div_right (c:=64 ^ (l+1)) (Nat.le_of_lt E);rw[iB I]at b;omega
 apply w8
 ·exact mZ h3 am
 ·intro K
  rcases h with h|⟨h,O⟩
  ·rw[mZ h3 (by omega:l+1<=kC now due)]
   exact λe=>(tV K).1 (cx _) e.symm
  ·rw[h,nI (now:=now) (due:=due) (l:=l) am]
   have:to/64 ^ l<now/64 ^ (l+1)*64+s:=by
    rw[mT]at E;exact(Nat.div_lt_iff_lt_mul (Nat.pow_pos am)).2 E
   omega
end
structure Pl where
 run:Nat
 node:Int
 what:Int
instance:BEq Pl:=⟨λa b=>(a.run:Int)==(b.run:Int)&&(a.node==b.node&&(a.what==b.what&&true))⟩
def Pl.beq_iff(a b:Pl):(a==b)=true<->a=b:=by
 cases a;cases b;show((_:Int)==_&&(_==_&&(_==_&&true)))=true<->_;simp;intro _ _;omega
instance:LawfulBEq Pl where
 eq_of_beq:=λh=>(Pl.beq_iff _ _).1 h
 rfl:=(Pl.beq_iff _ _).2 rfl
instance:DecidableEq Pl:=λa b=>if h:(a==b)=true then isTrue ((Pl.beq_iff _ _).1 h) else isFalse λe=>h ((Pl.beq_iff _ _).2 e)
def gz{α:Type}(f:Nat->α)(i:Nat)(v:α):Nat->α:=λj=>if j=i then v else f j
def ed(f:Nat->α)(i:Nat)(v:α):gz f i v i=v:=by simp[gz]
theorem dv(f:Nat->α)(v:α)(h:j≠i):gz f i v j=f j:=by simp[gz,h]
structure Tmr where
 key:Pl
 due:Nat
 seq:Nat
 blk:Nat
 lvl:Nat
 slot:Nat
def Tmr.pos(t:Tmr):Nat:=64*t.lvl+t.slot
def Tmr.place(now:Nat)(t:Tmr):Tmr:={t with lvl:=kC now t.due,slot:=Co (kC now t.due) t.due}
structure WS where
 now:Nat
 seq:Nat
 us:Nat->Nat
 bs:Nat->List Nat
 tms:List Tmr
def clr(a s:Nat):Nat:=a&&&(18446744073709551616-(2 ^ s+1))
def WS.put(S:WS)(a:List Tmr)(t:Tmr)(b:List Tmr):WS:=
 {S with us:=gz S.us (t.place S.now).lvl (S.us (t.place S.now).lvl|||2 ^ (t.place S.now).slot),bs:=gz S.bs (t.place S.now).pos (S.bs (t.place S.now).pos++[t.blk]),tms:=a++t.place S.now::b}
def WS.drop(S:WS)(a:List Tmr)(t:Tmr)(b:List Tmr):WS:=
 {S with us:=if (S.bs t.pos).erase t.blk=[] then gz S.us t.lvl (clr (S.us t.lvl) t.slot) else S.us,bs:=gz S.bs t.pos ((S.bs t.pos).erase t.blk),tms:=a++b}
def WS.clear(S:WS)(l s:Nat):WS:={S with us:=gz S.us l (clr (S.us l) s),bs:=gz S.bs (64*l+s) []}
def tE(E:s<64)(I:a<18446744073709551616):(clr a s).testBit j=(a.testBit j&&!decide (j=s)):=by
 unfold clr;have J:(2:Nat) ^ s<2 ^ 64:=Nat.pow_lt_pow_right am E;rw[show(18446744073709551616:Nat)=2 ^ 64 by rfl,Nat.testBit_and,Nat.testBit_two_pow_sub_succ J,Nat.testBit_two_pow]
 by_cases K:j<64
 ·simp only[K,decide_true,Bool.true_and]
  by_cases h:s=j
  ·subst h;simp
  ·simp[h,Ne.symm h]
 ·have:a.testBit j=false:=Nat.testBit_lt_two_pow (Nat.lt_of_lt_of_le I (by rw[show(18446744073709551616:Nat)=2 ^ 64 by rfl];exact Nat.pow_le_pow_right am am))
  simp[this]
theorem clr_lt(E:a<18446744073709551616):clr a s<18446744073709551616:=Nat.lt_of_le_of_lt Nat.and_le_left E
def Na:(a|||2 ^ s).testBit j=(a.testBit j||decide (j=s)):=by
 rw[Nat.testBit_or,Nat.testBit_two_pow]
 congr 1
 simp[eq_comm]
theorem or_lt(E:s<64)(I:a<18446744073709551616):a|||2 ^ s<18446744073709551616:=by
 have J:(2:Nat) ^ s<2 ^ 64:=Nat.pow_lt_pow_right am E;exact Nat.or_lt_two_pow (n:=64) I J
def oV(un:List Nat)(i:Nat)(t:Tmr):Bool:=!(un.contains t.blk)&&t.pos==i
structure Inv(S:WS)(un:List Nat):Prop where
 nowle:S.now<=2 ^ 62
 keys:(S.tms.map Tmr.key).Nodup
 blks:(S.tms.map Tmr.blk).Nodup
 seqs:S.tms.Pairwise λa b=>a.seq<b.seq
 seqle:∀t∈S.tms,t.seq<=S.seq
 due:∀t∈S.tms,S.now<=t.due/\t.due<=2 ^ 62
 pl:∀t∈S.tms,t.blk∉un->t.lvl=kC S.now t.due/\t.slot=Co t.lvl t.due
 slot:∀i,i<704->S.bs i=(S.tms.filter (oV un i)).map Tmr.blk
 used:∀l s,l<11->s<64->(S.us l).testBit s=!(S.bs (64*l+s)).isEmpty
 uslt:∀l,l<11->S.us l<18446744073709551616
section
variable{t:Tmr}{S:WS}
def Inv.lvl(h:Inv S un)(E:t∈S.tms):kC S.now t.due<11:=by
 have:=DK h.nowle (h.due t E).2;omega
def Inv.lvl'(h:Inv S un)(E:t∈S.tms)(I:t.blk∉un):t.lvl<11/\t.slot<64:=by
 obtain⟨J,K⟩:=h.pl t E I;exact⟨J▸h.lvl E,K▸Ie _ _⟩
def Inv.pos{S:WS}{un:List Nat}(h:Inv S un){t:Tmr}(E:t∈S.tms)(I:t.blk∉un):t.pos<704:=by
 obtain⟨J,K⟩:=h.lvl' E I;unfold Tmr.pos;omega
def uk(h:Inv S un)(E:t∈S.tms):(t.place S.now).lvl<11/\(t.place S.now).slot<64/\(t.place S.now).pos<704:=by
 have I:=h.lvl E;have J:=Ie (kC S.now t.due) t.due;refine⟨I,J,?_⟩;show 64*kC S.now t.due+Co (kC S.now t.due) t.due<704;omega
def jN{β:Type}{f:α->β}{a b:List α}{t:α}(h:((a++t::b).map f).Nodup):(∀u∈a,f u≠f t)/\(∀u∈b,f u≠f t):=by
 rw[List.map_append,List.map_cons,List.nodup_append]at h;obtain⟨_,I,h3⟩:=h;refine⟨λu E e=>h3 (f u) (List.mem_map_of_mem E) (f t) di e,λu E e=>?_⟩;have:=(List.nodup_cons.1 I).1;exact this (e▸List.mem_map_of_mem E)
def ik{α β:Type}{f:α->β}:∀{l:List α},(l.map f).Nodup->∀{u t:α},u∈l->t∈l->f u=f t->u=t
 | [],_,_,_,h,_,_=>by cases h
 |x::l,hn,u,t,hu,ht,e=>by
  rw[List.map_cons,List.nodup_cons]at hn;rcases List.mem_cons.1 hu with rfl|hu
  ·rcases List.mem_cons.1 ht with rfl|ht
   ·rfl
   ·exact absurd (e▸List.mem_map_of_mem ht) hn.1
  ·rcases List.mem_cons.1 ht with E|ht
   ·exact absurd (E▸e▸List.mem_map_of_mem hu) hn.1
   ·exact ik hn.2 hu ht e
def Inv.put{S:WS}{a b:List Tmr}{t:Tmr}{rest:List Nat}(h:Inv S (t.blk::rest))(T:S.tms=a++t::b)(hr:t.blk∉rest)(d8:∀u∈S.tms,u.blk∉t.blk::rest->u.pos=(t.place S.now).pos->u.seq<t.seq):Inv (S.put a t b) rest:=by
 have d7:t∈S.tms:=by rw[T];simp
 obtain⟨k1,k2,k3⟩:=uk h d7;obtain⟨ha,hb⟩:=jN (f:=Tmr.blk) (t:=t) (by rw[<-T];exact h.blks);have J:∀i u,u.blk≠t.blk->oV rest i u=oV (t.blk::rest) i u:=λi u E=>by
  simp[oV,E]
 have mt:∀i,a.filter (oV rest i)=a.filter (oV (t.blk::rest) i):=λi=>List.filter_congr λu E=>J i u (ha u E);have t6:∀i,b.filter (oV rest i)=b.filter (oV (t.blk::rest) i):=λi=>List.filter_congr λu E=>J i u (hb u E);have t7:∀i,oV (t.blk::rest) i t=false:=λi=>by simp[oV]
 have t8:∀i,oV rest i (t.place S.now)=decide ((t.place S.now).pos=i):=λi=>by
  have:(t.place S.now).blk=t.blk:=rfl;simp[oV,this,hr]
  by_cases he:(t.place S.now).pos=i<;>simp[he]
 have wf:b.filter (oV (t.blk::rest) (t.place S.now).pos)=[]:=by
  rw[List.filter_eq_nil_iff];intro u E d6;simp only[oV,Bool.and_eq_true,Bool.not_eq_true',beq_iff_eq]at d6;have BT:u∈S.tms:=by rw[T];simp[E]
  have I:=d8 u BT (by simpa using d6.1) d6.2;have h2:=h.seqs;rw[T,List.pairwise_append]at h2;have:=(List.pairwise_cons.1 h2.2.1).1 u E;omega
 have Y:∀i,i<704->S.bs i=(a.filter (oV (t.blk::rest) i)++b.filter (oV (t.blk::rest) i)).map Tmr.blk:=λi hi=>by
  rw[h.slot i hi,T,List.filter_append,List.filter_cons,t7];rfl
 have d9:∀i,i<704->(S.put a t b).bs i=((a++t.place S.now::b).filter (oV rest i)).map Tmr.blk:=λi hi=>by
  rw[List.filter_append,List.filter_cons,t8,mt,t6];show gz S.bs _ _ i=_
  by_cases he:(t.place S.now).pos=i
  ·subst he
   rw[ed,Y _ hi,wf];simp[Tmr.place]
  ·rw[dv _ _ (Ne.symm he),Y i hi]
   simp[he]
 have K:∀u,u∈(S.put a t b).tms->(u∈S.tms/\u.blk≠t.blk)\/u=t.place S.now:=λu E=>by
  have f7:u∈a++t.place S.now::b:=E;rw[List.mem_append,List.mem_cons]at f7;rcases f7 with I|I|I
  ·exact .inl ⟨by rw[T];simp[I],ha u I⟩
  ·exact .inr I
  ·exact .inl ⟨by rw[T];simp[I],hb u I⟩
 refine⟨h.nowle,?_,?_,?_,?_,?_,?_,d9,?_,?_⟩
 ·have:=h.keys
  rw[T]at this;simpa[WS.put,Tmr.place]using this
 ·have:=h.blks
  rw[T]at this;simpa[WS.put,Tmr.place]using this
 ·have:=h.seqs
  rw[T]at this;show(a++t.place S.now::b).Pairwise _;rw[List.pairwise_append,List.pairwise_cons]at this ⊢;refine⟨this.1,⟨this.2.1.1,this.2.1.2⟩,λx hx y hy=>?_⟩;rcases List.mem_cons.1 hy with rfl|hy
  ·exact this.2.2 x hx t di
  ·exact this.2.2 x hx y (by simp[hy])
 ·intro u E
  rcases K u E with I|rfl
  ·exact h.seqle u I.1
  ·exact h.seqle t d7
 ·intro u E
  rcases K u E with I|rfl
  ·exact h.due u I.1
  ·exact h.due t d7
 ·intro u E f9
  rcases K u E with I|rfl
  ·exact h.pl u I.1 (by simp[I.2,f9])
  ·exact⟨rfl,rfl⟩
 ·intro l s hl hs
  show(gz S.us _ _ l).testBit s=!(gz S.bs _ _ (64*l+s)).isEmpty;have E:=h.used l s hl hs
  by_cases O:l=(t.place S.now).lvl
  ·subst O
   rw[ed,Na]
   by_cases f8:s=(t.place S.now).slot
   ·subst f8
    rw[show 64*(t.place S.now).lvl+(t.place S.now).slot=(t.place S.now).pos from rfl,ed];simp
   ·rw[dv _ _ (by unfold Tmr.pos;omega),E]
    simp[f8]
  ·rw[dv _ _ O,dv _ _ (by unfold Tmr.pos;omega),E]
 ·intro l hl
  show gz S.us _ _ l<_
  by_cases O:l=(t.place S.now).lvl
  ·subst O
   rw[ed];exact or_lt k2 (h.uslt _ hl)
  ·rw[dv _ _ O]
   exact h.uslt l hl
def Inv.drop{S:WS}{a b:List Tmr}{t:Tmr}(h:Inv S [])(hS:S.tms=a++t::b):Inv (S.drop a t b) []:=by
 have Y:t∈S.tms:=by rw[hS];simp
 obtain⟨k1,k2⟩:=h.lvl' Y di;have k3:=h.pos Y di;obtain⟨ha,hb⟩:=jN (f:=Tmr.blk) (t:=t) (by rw[<-hS];exact h.blks);have E:(a++b).Sublist S.tms:=by
  rw[hS];exact List.Sublist.append (List.Sublist.refl a) (List.sublist_cons_self t b)
 have d6:∀i,oV [] i t=decide (t.pos=i):=λi=>by
  simp[oV]
  by_cases I:t.pos=i<;>simp[I]
 have O:∀i,i<704->S.bs i=((a++t::b).filter (oV [] i)).map Tmr.blk:=λi hi=>by rw[h.slot i hi,hS]
 have d7:∀i,i<704->(S.drop a t b).bs i=((a++b).filter (oV [] i)).map Tmr.blk:=λi hi=>by
  show gz S.bs _ _ i=_
  by_cases I:t.pos=i
  ·subst I
   rw[ed,O _ hi,List.filter_append,List.filter_append,List.filter_cons,d6];simp only[decide_true,if_true,List.map_append,List.map_cons];rw[List.erase_append_right,List.erase_cons_head];intro hm;obtain⟨u,K,e⟩:=List.mem_map.1 hm;exact ha u (List.mem_filter.1 K).1 e
  ·rw[dv _ _ (Ne.symm I),O i hi,List.filter_append,List.filter_append,List.filter_cons,d6]
   simp[I]
 refine⟨h.nowle,h.keys.sublist (E.map _),h.blks.sublist (E.map _),h.seqs.sublist E,λu K=>h.seqle u (E.subset K),λu K=>h.due u (E.subset K),λu K=>h.pl u (E.subset K),d7,?_,?_⟩
 ·intro l s T hs
  show((if (S.bs t.pos).erase t.blk=[] then gz S.us t.lvl (clr (S.us t.lvl) t.slot) else S.us) l).testBit s=!(gz S.bs _ _ (64*l+s)).isEmpty;have K:=h.used l s T hs
  by_cases hp:64*l+s=t.pos
  ·have d8:l=t.lvl/\s=t.slot:=by unfold Tmr.pos at hp;omega
   obtain⟨rfl,rfl⟩:=d8;rw[hp,ed]
   split
   ·rename_i I
    rw[ed,tE k2 (h.uslt _ k1),I];simp
   ·rename_i I
    rw[K,hp];have d9:S.bs t.pos≠[]:=λh0=>by rw[h0]at I;simp at I
    rw[List.isEmpty_eq_false_iff.2 I,List.isEmpty_eq_false_iff.2 d9]
  ·rw[dv _ _ hp,<-K]
   split
   ·by_cases J:l=t.lvl
    ·subst J
     have:s≠t.slot:=λf7=>hp (by unfold Tmr.pos;omega);rw[ed,tE k2 (h.uslt _ k1)];simp[this]
    ·rw[dv _ _ J]
   ·rfl
 ·intro l T
  show(if (S.bs t.pos).erase t.blk=[] then gz S.us t.lvl (clr (S.us t.lvl) t.slot) else S.us) l<_
  split
  ·by_cases J:l=t.lvl
   ·subst J;rw[ed];exact clr_lt (h.uslt _ T)
   ·rw[dv _ _ J];exact h.uslt l T
  ·exact h.uslt l T
end
structure Fst(S:WS)(l s:Nat):Prop where
 hl:l<11
 hs:s<64
 has:S.bs (64*l+s)≠[]
 ahead:∀t∈S.tms,l<t.lvl\/t.lvl=l/\s<=t.slot
section
variable{S:WS}{l:Nat}{t:Tmr}
def Inv.mem_slot(h:Inv S un)(E:t∈S.tms)(I:t.blk∉un):t.blk∈S.bs t.pos:=by
 rw[h.slot _ (h.pos E I)];exact List.mem_map.2 ⟨t,List.mem_filter.2 ⟨E,by simp[oV,I]⟩,rfl⟩
def Inv.of_slot(h:Inv S un){b:Nat}(hi:i<704)(I:b∈S.bs i):∃t∈S.tms,t.blk=b/\t.pos=i/\t.blk∉un:=by
 rw[h.slot i hi]at I;obtain⟨t,J,e⟩:=List.mem_map.1 I;obtain⟨K,E⟩:=List.mem_filter.1 J;simp only[oV,Bool.and_eq_true,Bool.not_eq_true',beq_iff_eq]at E;exact⟨t,K,e,E.2,by simpa using E.1⟩
def jL(E:s<64)(I:t.slot<64)(h:t.pos=64*l+s):t.lvl=l/\t.slot=s:=by
 unfold Tmr.pos at h;omega
def Inv.fst(h:Inv S [])(Y:l<11)(hs:s<64)(hb:(S.us l).testBit s=true)(J:∀j,j<s->(S.us l).testBit j=false)(hno:∀k,k<l->S.us k=0):Fst S l s:=by
 refine⟨Y,hs,?_,?_⟩
 ·have:=h.used l s Y hs
  rw[hb]at this;intro O;rw[O]at this;simp at this
 ·intro t ht
  obtain⟨k1,k2⟩:=h.lvl' ht di;have K:=h.mem_slot ht di;have E:=h.used t.lvl t.slot k1 k2;have T:(S.bs (64*t.lvl+t.slot)).isEmpty=false:=by
   have:S.bs t.pos≠[]:=λO=>by rw[O]at K;simp at K
   simpa[Tmr.pos]using this
  rw[T]at E;rcases Nat.lt_trichotomy t.lvl l with I|I|I
  ·rw[hno _ I]at E;simp at E
  ·right
   refine⟨I,Nat.le_of_not_lt λh2=>?_⟩;rw[I,J _ h2]at E;simp at E
  ·exact .inl I
def Inv.none(h:Inv S [])(hno:∀k,k<11->S.us k=0):S.tms=[]:=by
 apply List.eq_nil_iff_forall_not_mem.2;intro t K;obtain⟨J,T⟩:=h.lvl' K di;have I:=h.mem_slot K di;have E:=h.used t.lvl t.slot J T;rw[hno _ J]at E;have:S.bs t.pos≠[]:=λO=>by rw[O]at I;simp at I
 simp[Tmr.pos]at E this;exact this E
def Fst.lt(h:Inv S [])(f:Fst S l s){u:Tmr}(K:t∈S.tms)(E:u∈S.tms)(I:t.pos=64*l+s)(J:u.pos≠64*l+s):t.due<u.due:=by
 obtain⟨k1,T⟩:=h.lvl' K di;obtain⟨Y,a2⟩:=jL f.hs T I;obtain⟨p1,p2⟩:=h.pl t K di;obtain⟨q1,q2⟩:=h.pl u E di;rcases f.ahead u E with O|⟨O,h2⟩
 ·exact GA (h.due u E).1 am
 ·have h3:s<u.slot:=by
   rcases Nat.lt_or_ge s u.slot with h3|h3
   ·exact h3
   ·exact absurd (by unfold Tmr.pos;omega) J
  rw[q2,O]at h3;rw[p2,Y]at a2;exact DJ (now:=S.now) (l:=l) am am am
def Fst.start(h:Inv S [])(f:Fst S l s)(K:t∈S.tms):cQ S.now l s<=t.due:=by
 obtain⟨b,hb⟩:=List.exists_mem_of_ne_nil _ f.has;have hi:64*l+s<704:=by have:=f.hl;have:=f.hs;omega
 obtain⟨v,O,_,E,_⟩:=h.of_slot hi hb;have d6:cQ S.now l s<=v.due:=by
  obtain⟨k1,T⟩:=h.lvl' O di;obtain⟨Y,I⟩:=jL f.hs T E;obtain⟨p1,p2⟩:=h.pl v O di;have:=zz (now:=S.now) (due:=v.due) (l:=l) am;rw[p2,Y]at I;rw[I]at this;exact this
 by_cases J:t.pos=64*l+s
 ·obtain⟨k1,T⟩:=h.lvl' K di
  obtain⟨Y,I⟩:=jL f.hs T J;obtain⟨p1,p2⟩:=h.pl t K di;have:=zz (now:=S.now) (due:=t.due) (l:=l) am;rw[p2,Y]at I;rw[I]at this;exact this
 ·exact Nat.le_of_lt (Nat.lt_of_le_of_lt d6 (f.lt h O K E J))
def Inv.to0(h:Inv S [])(f:Fst S 0 s):Inv {S with now:=max (cQ S.now 0 s) S.now} []/\(∀t∈S.tms,t.pos=s->t.due=max (cQ S.now 0 s) S.now):=by
 have T:∀t∈S.tms,t.pos=s->t.due=cQ S.now 0 s:=λt E hp=>by
  obtain⟨k1,J⟩:=h.lvl' E di;obtain⟨K,O⟩:=jL (l:=0) f.hs J am;obtain⟨p1,p2⟩:=h.pl t E di;have:=CY (now:=S.now) (due:=t.due) am;rw[p2,K]at O;rw[<-O];exact this.symm
 obtain⟨b,hb⟩:=List.exists_mem_of_ne_nil _ f.has;obtain⟨v,Y,_,d6,_⟩:=h.of_slot (by have:=f.hs;omega) hb;have d7:=T v Y am;have d8:=h.due v Y;have hm:max (cQ S.now 0 s) S.now=cQ S.now 0 s:=am;rw[hm];refine⟨⟨by show cQ S.now 0 s<=_;omega,h.keys,h.blks,h.seqs,h.seqle,λt E=>⟨f.start h E,(h.due t E).2⟩,λt E hu=>?_,h.slot,h.used,h.uslt⟩,T⟩;obtain⟨p1,p2⟩:=h.pl t E hu;refine⟨?_,p2⟩
 by_cases I:t.pos=s
 ·have e1:=T t E I
  obtain⟨k1,J⟩:=h.lvl' E di;obtain⟨K,O⟩:=jL (l:=0) f.hs J am;rw[<-e1];simp[kC,K]
 ·rw[rJ f.hs ?_,p1]
  rcases f.ahead t E with h1|⟨h1,h2⟩
  ·left;omega
  ·right
   refine⟨am,λe=>I ?_⟩;have e0:t.slot=s:=by rw[p2,h1];exact e
   unfold Tmr.pos;omega
def Inv.toL(h:Inv S [])(hl:1<=l)(f:Fst S l s):max (cQ S.now l s) S.now=cQ S.now l s/\Inv ({S with now:=cQ S.now l s}.clear l s) (S.bs (64*l+s)):=by
 have hi:64*l+s<704:=by have:=f.hl;have:=f.hs;omega
 obtain⟨b,hb⟩:=List.exists_mem_of_ne_nil _ f.has;obtain⟨v,T,_,d7,_⟩:=h.of_slot hi hb;have f8:S.now<cQ S.now l s:=by
  obtain⟨k1,k2⟩:=h.lvl' T di;obtain⟨a1,a2⟩:=jL f.hs k2 d7;obtain⟨p1,p2⟩:=h.pl v T di;have:=yC (now:=S.now) (due:=v.due) hl am (h.due v T).1;rw[p2,a1]at a2;rw[a2]at this;exact this
 have Y:∀t∈S.tms,t.blk∉S.bs (64*l+s)->t.pos≠64*l+s:=λt E hn J=>hn (J▸h.mem_slot E di);have d6:∀t∈S.tms,t.pos≠64*l+s->t.blk∉S.bs (64*l+s):=λt E J hb=>by
  obtain⟨u,O,e,d8,_⟩:=h.of_slot hi hb;have:u=t:=ik h.blks O E e;exact J (this▸d8)
 refine⟨am,?_⟩;refine⟨?_,h.keys,h.blks,h.seqs,h.seqle,λt E=>⟨f.start h E,(h.due t E).2⟩,λt E O=>?_,?_,?_,?_⟩
 ·show cQ S.now l s<=_
  exact Nat.le_trans (f.start h T) (h.due v T).2
 ·obtain⟨p1,p2⟩:=h.pl t E di
  refine⟨?_,p2⟩;show t.lvl=kC (cQ S.now l s) t.due;have f7:=Y t E O;rw[rJ f.hs ?_,p1];rcases f.ahead t E with h1|⟨h1,h2⟩
  ·left;omega
  ·right
   refine⟨am,λe=>f7 ?_⟩;have e0:t.slot=s:=by rw[p2,h1];exact e
   unfold Tmr.pos;omega
 ·intro i d9
  show gz S.bs _ _ i=((S.tms.filter (oV (S.bs (64*l+s)) i)).map Tmr.blk)
  by_cases he:i=64*l+s
  ·subst he
   rw[ed];symm;rw[List.map_eq_nil_iff,List.filter_eq_nil_iff];intro t E K;simp only[oV,Bool.and_eq_true,Bool.not_eq_true',beq_iff_eq]at K;exact Y t E (by simpa using K.1) K.2
  ·rw[dv _ _ he,h.slot i d9]
   congr 1
   refine List.filter_congr λt E=>?_;simp only[oV]
   by_cases J:t.pos=i
   ·have h1:=d6 t E am
    simp[h1]
   ·simp[J]
 ·intro k j hk hj
  show(gz S.us _ _ k).testBit j=!(gz S.bs _ _ (64*k+j)).isEmpty;have O:=h.used k j hk hj
  by_cases J:64*k+j=64*l+s
  ·have:k=l/\j=s:=by have:=f.hs;omega
   obtain⟨rfl,rfl⟩:=this;rw[ed,ed,tE f.hs (h.uslt _ f.hl)];simp
  ·rw[dv _ _ J,<-O]
   by_cases I:k=l
   ·subst I
    have:j≠s:=λe=>J am;rw[ed,tE f.hs (h.uslt _ f.hl)];simp[this]
   ·rw[dv _ _ I]
 ·intro k hk
  show gz S.us _ _ k<_
  by_cases I:k=l
  ·subst I
   rw[ed];exact clr_lt (h.uslt _ hk)
  ·rw[dv _ _ I];exact h.uslt k hk
def Inv.stay(h:Inv S []){to:Nat}(Y:S.now<=to)(O:to<=2 ^ 62)(J:S.tms=[]\/∃l s,Fst S l s/\to<cQ S.now l s):Inv {S with now:=to} []/\∀t∈S.tms,to<t.due:=by
 rcases J with J|⟨l,s,f,K⟩
 ·refine⟨⟨O,h.keys,h.blks,h.seqs,h.seqle,λt E=>?_,λt E=>?_,h.slot,h.used,h.uslt⟩,λt E=>?_⟩
  ·have:t∈S.tms:=E
   rw[J]at this;cases this
  ·have:t∈S.tms:=E
   rw[J]at this;cases this
  ·rw[J]at E;cases E
 ·have I:∀t∈S.tms,to<t.due:=λt E=>Nat.lt_of_lt_of_le K (f.start h E)
  refine⟨⟨O,h.keys,h.blks,h.seqs,h.seqle,λt E=>⟨Nat.le_of_lt (I t E),(h.due t E).2⟩,λt E hu=>?_,h.slot,h.used,h.uslt⟩,I⟩;obtain⟨p1,p2⟩:=h.pl t E hu;refine⟨?_,p2⟩;rw[IV f.hs Y K ?_,p1];rcases f.ahead t E with h3|⟨h3,T⟩
  ·left;omega
  ·right
   refine⟨am,?_⟩;rw[p2,h3]at T;exact T
def kd(t:Tmr):Pl×Nat:=(t.key,t.due)
end
structure Casc(S:WS)(l:Nat)(rest:List Nat):Prop where
 inv:Inv S rest
 nd:rest.Nodup
 mem:∀x∈rest,∃t∈S.tms,t.blk=x
 ord:rest.Pairwise λx y=>∀t∈S.tms,∀u∈S.tms,t.blk=x->u.blk=y->t.seq<u.seq
 low:∀t∈S.tms,t.blk∈rest->kC S.now t.due<l
 placed:∀u∈S.tms,u.blk∉rest->u.lvl<l->∀t∈S.tms,t.blk∈rest->u.seq<t.seq
 some:∃t∈S.tms,t.blk∈rest\/t.lvl<l
def Casc.begin{S:WS}(h:Inv S []){l:Nat}(hl:1<=l)(f:Fst S l s):Casc ({S with now:=cQ S.now l s}.clear l s) l (S.bs (64*l+s)):=by
 have hi:64*l+s<704:=by have:=f.hl;have:=f.hs;omega
 have K:=(h.toL hl f).2;have O:=h.slot _ hi;have T:∀t∈S.tms,t.pos=64*l+s->kC (cQ S.now l s) t.due<l:=λt E hp=>by
  obtain⟨k1,k2⟩:=h.lvl' E di;obtain⟨a1,a2⟩:=jL f.hs k2 hp;obtain⟨p1,p2⟩:=h.pl t E di;have:=B8 (now:=S.now) (due:=t.due) hl am;rw[p2,a1]at a2;rw[a2]at this;exact this
 have Y:∀t∈S.tms,t.blk∈S.bs (64*l+s)->t.pos=64*l+s:=λt E I=>by
  obtain⟨u,J,e,d6,_⟩:=h.of_slot hi I;exact ik h.blks J E e▸d6
 obtain⟨b,I⟩:=List.exists_mem_of_ne_nil _ f.has;obtain⟨v,hv,d7,d9,_⟩:=h.of_slot hi I;refine⟨K,?_,?_,?_,λt E I=>T t E (Y t E I),?_,⟨v,hv,.inl (d7▸I)⟩⟩
 ·rw[O]
  exact h.blks.sublist (List.filter_sublist.map _)
 ·intro x hx
  obtain⟨t,E,e,_⟩:=h.of_slot hi hx;exact⟨t,E,e⟩
 ·rw[O,List.pairwise_map]
  refine(h.seqs.sublist List.filter_sublist).imp_of_mem ?_;intro x y hx hy d8 t E u J e1 e2;have h1:=ik h.blks E (List.mem_filter.1 hx).1 e1;have h2:=ik h.blks J (List.mem_filter.1 hy).1 e2;rw[h1,h2];exact d8
 ·intro u J _ f7 t E _
  have:=f.ahead u J;omega
def Casc.step{S:WS}{l x:Nat}{rest:List Nat}(h:Casc S l (x::rest)):∃a t b,S.tms=a++t::b/\t.blk=x/\(∀u∈S.tms,u.blk∉t.blk::rest->u.pos=(t.place S.now).pos->u.seq<t.seq)/\Casc (S.put a t b) l rest:=by
 obtain⟨t,ht,rfl⟩:=h.mem x di;obtain⟨a,b,hS⟩:=List.append_of_mem ht;obtain⟨d6,f7⟩:=List.nodup_cons.1 h.nd;obtain⟨k1,k2,k3⟩:=uk h.inv ht;have T:∀u∈S.tms,u.blk∉t.blk::rest->u.pos=(t.place S.now).pos->u.seq<t.seq:=λu I O hp=>by
  obtain⟨q1,q2⟩:=h.inv.lvl' I O;have mt:u.lvl=(t.place S.now).lvl:=by
   unfold Tmr.pos at hp;omega
  have:(t.place S.now).lvl<l:=h.low t ht di;exact h.placed u I O am t ht di
 obtain⟨ha,hb⟩:=jN (f:=Tmr.blk) (t:=t) (by rw[<-hS];exact h.inv.blks);have Y:∀u,u∈(S.put a t b).tms->(u∈S.tms/\u.blk≠t.blk)\/u=t.place S.now:=λu I=>by
  have K:u∈a++t.place S.now::b:=I;rw[List.mem_append,List.mem_cons]at K;rcases K with E|E|E
  ·exact .inl ⟨by rw[hS];simp[E],ha u E⟩
  ·exact .inr E
  ·exact .inl ⟨by rw[hS];simp[E],hb u E⟩
 have d8:t.place S.now∈(S.put a t b).tms:=by
  show _∈a++t.place S.now::b;simp
 have J:∀u∈(S.put a t b).tms,u.blk∈rest->u∈S.tms:=λu I hr=>by
  rcases Y u I with E|rfl
  ·exact E.1
  ·exact absurd hr d6
 refine⟨a,t,b,hS,rfl,T,h.inv.put hS d6 T,f7,?_,?_,λu I hr=>h.low u (J u I hr) (by simp[hr]),?_,⟨_,d8,.inr (h.low t ht di)⟩⟩
 ·intro y hy
  obtain⟨u,I,e⟩:=h.mem y (by simp[hy]);have K:=I;rw[hS]at K;refine⟨u,?_,e⟩;show u∈a++t.place S.now::b;rcases List.mem_append.1 K with E|E
  ·simp[E]
  ·rcases List.mem_cons.1 E with rfl|E
   ·exact absurd (e▸hy) d6
   ·simp[E]
 ·refine(List.pairwise_cons.1 h.ord).2.imp_of_mem ?_
  intro y z hy hz f8 u I v hv e1 e2;exact f8 u (J u I (e1▸hy)) v (J v hv (e2▸hz)) e1 e2
 ·intro u I O f9 v hv d7
  have d9:=J v hv d7;rcases Y u I with E|rfl
  ·exact h.placed u E.1 (by simp[E.2,O]) f9 v d9 (by simp[d7])
  ·exact(List.pairwise_cons.1 h.ord).1 v.blk d7 t ht v d9 rfl rfl
def IsMin(L:List (Pl×Nat))(x:Pl×Nat)(E:List (Pl×Nat)):Prop:=∃a b,L=a++x::b/\E=a++b/\(∀y∈a,x.2<y.2)/\∀y∈b,x.2<=y.2
def Fst.min{S:WS}(h:Inv S []){l:Nat}(f:Fst S l s){a b:List Tmr}{t:Tmr}(O:S.tms=a++t::b)(E:t.pos=64*l+s)(Y:∀u∈a,u.pos=64*l+s->t.due<u.due)(hb:∀u∈b,u.pos=64*l+s->t.due<=u.due):IsMin (S.tms.map kd) (kd t) ((a++b).map kd):=by
 have J:t∈S.tms:=by rw[O];simp
 refine⟨a.map kd,b.map kd,by rw[O];simp,by simp,?_,?_⟩
 ·intro y T
  obtain⟨u,I,rfl⟩:=List.mem_map.1 T
  by_cases K:u.pos=64*l+s
  ·exact Y u I K
  ·exact f.lt h J (by rw[O];simp[I]) E K
 ·intro y T
  obtain⟨u,I,rfl⟩:=List.mem_map.1 T
  by_cases K:u.pos=64*l+s
  ·exact hb u I K
  ·exact Nat.le_of_lt (f.lt h J (by rw[O];simp[I]) E K)
def Inv.head0{S:WS}(h:Inv S [])(f:Fst S 0 s):∃a t b,S.tms=a++t::b/\(S.bs (64*0+s))[0]?=some t.blk/\t.due=max (cQ S.now 0 s) S.now/\IsMin (S.tms.map kd) (kd t) ((a++b).map kd):=by
 have hi:64*0+s<704:=by have:=f.hs;omega
 have E:=h.slot _ hi;have hz:=(h.to0 f).2;cases hf:S.tms.filter (oV [] (64*0+s))with
 |nil=>
  rw[hf]at E;exact absurd E f.has
 |cons t r=>
  obtain⟨a,b,J,ha,ht,hb⟩:=List.filter_eq_cons_iff.1 hf;have O:t.pos=64*0+s:=by simpa[oV]using ht
  have T:t∈S.tms:=by rw[J];simp
  have I:=hz t T am;refine⟨a,t,b,J,by rw[E,hf];rfl,I,f.min h J O (λu K Y=>?_) λu K Y=>?_⟩
  ·have:=ha u K
   simp[oV,Y]at this
  ·have:=hz u (by rw[J];simp[K]) am
   omega
abbrev KD:=Pl×Nat
section
variable{L L1:List KD}
def IsMin.unique{x y:KD}{J:List KD}(h:IsMin L x L1)(k:IsMin L y J):x=y/\L1=J:=by
 obtain⟨a,b,e1,rfl,K,O⟩:=h;obtain⟨a',b',e2,rfl,E,I⟩:=k;rw[e1]at e2;rcases List.append_eq_append_iff.1 e2 with⟨as,e3,e4⟩|⟨as,e3,e4⟩
 ·cases as with
  |nil=>
   simp at e3 e4;obtain⟨rfl,rfl⟩:=e4;subst e3;exact⟨rfl,rfl⟩
  |cons z as=>
   simp only[List.cons_append,List.cons.injEq]at e4;obtain⟨rfl,rfl⟩:=e4;have T:=E x (by rw[e3];simp);have Y:=O y di;omega
 ·cases as with
  |nil=>
   simp at e3 e4;obtain⟨rfl,rfl⟩:=e4;subst e3;exact⟨rfl,rfl⟩
  |cons z as=>
   simp only[List.cons_append,List.cons.injEq]at e4;obtain⟨rfl,rfl⟩:=e4;have T:=K y (by rw[e3];simp);have Y:=I x di;omega
def IsMin.perm{x:KD}(h:IsMin L x L1):L.Perm (x::L1):=by
 obtain⟨a,b,rfl,rfl,_,_⟩:=h;exact List.perm_middle
def IsMin.le{x:KD}(h:IsMin L x L1):∀y∈L,x.2<=y.2:=by
 obtain⟨a,b,rfl,rfl,I,J⟩:=h;intro y E;rcases List.mem_append.1 E with E|E
 ·exact Nat.le_of_lt (I y E)
 ·rcases List.mem_cons.1 E with rfl|E
  ·exact cx _
  ·exact J y E
def IsMin.len{x:KD}(h:IsMin L x L1):L.length=L1.length+1:=by
 have:=h.perm.length_eq;simpa using this
def IsMin.mem{x:KD}(h:IsMin L x L1):x∈L:=h.perm.mem_iff.2 di
end
inductive Pops(up:Nat):List KD->List KD->List KD->Prop where
 |done {L:List KD}:(∀y∈L,up<y.2)->Pops up L [] L
 |one {L L1 L2 o:List KD} {x:KD}:IsMin L x L1->x.2<=up->Pops up L1 o L2->Pops up L (x::o) L2
def Till(up:Nat)(I o L:List KD):Prop:=∀o' E,Pops up L o' E->Pops up I (o++o') E
def Till.refl(up:Nat)(L:List KD):Till up L [] L:=λ_ _ h=>h
def Pops.perm{up:Nat}{L o E:List KD}(h:Pops up L o E):L.Perm (o++E):=by
 induction h with
 |done _=>exact List.Perm.refl _
 |one I _ _ J=>exact I.perm.trans (List.Perm.cons _ J)
def Pops.len{L o E:List KD}(h:Pops i L o E):L.length=o.length+E.length:=by
 have:=h.perm.length_eq;simpa using this
def WS.add(S:WS)(t:Tmr):WS:={S with seq:=S.seq+1,tms:=S.tms++[t]}
def Inv.add{S:WS}(h:Inv S []){t:Tmr}(hk:t.key∉S.tms.map Tmr.key)(T:t.blk∉S.tms.map Tmr.blk)(hs:t.seq=S.seq+1)(Y:S.now<=t.due/\t.due<=2 ^ 62):Inv (S.add t) [t.blk]:=by
 have I:∀u,u∈(S.add t).tms->u∈S.tms\/u=t:=λu E=>by
  have:u∈S.tms++[t]:=E;simpa using this
 refine⟨h.nowle,?_,?_,?_,?_,?_,?_,?_,h.used,h.uslt⟩
 ·show((S.tms++[t]).map Tmr.key).Nodup
  rw[List.map_append,List.nodup_append];refine⟨h.keys,by simp,λx K y J e=>?_⟩;simp at J;exact hk (by rw[<-J,<-e];exact K)
 ·show((S.tms++[t]).map Tmr.blk).Nodup
  rw[List.map_append,List.nodup_append];refine⟨h.blks,by simp,λx K y J e=>?_⟩;simp at J;exact T (by rw[<-J,<-e];exact K)
 ·show(S.tms++[t]).Pairwise _
  rw[List.pairwise_append];refine⟨h.seqs,by simp,λx K y J=>?_⟩;simp at J;subst J;have:=h.seqle x K;omega
 ·intro u E
  show u.seq<=S.seq+1;rcases I u E with E|rfl
  ·have:=h.seqle u E;omega
  ·omega
 ·intro u E
  rcases I u E with E|rfl
  ·exact h.due u E
  ·exact Y
 ·intro u E O
  rcases I u E with E|rfl
  ·exact h.pl u E di
  ·simp at O
 ·intro i hi
  show S.bs i=((S.tms++[t]).filter (oV [t.blk] i)).map Tmr.blk;rw[h.slot i hi,List.filter_append];have h1:[t].filter (oV [t.blk] i)=[]:=by simp[oV]
  rw[h1,List.append_nil]
  congr 1
  refine List.filter_congr λu E=>?_;have:u.blk≠t.blk:=λe=>T (e▸List.mem_map_of_mem E);simp[oV,this]
theorem Inv.add_low{S:WS}(h:Inv S []){t:Tmr}(J:t.seq=S.seq+1):∀u∈(S.add t).tms,u.blk∉[t.blk]->u.seq<t.seq:=λu E I=>by
 have:u∈S.tms++[t]:=E;rcases List.mem_append.1 this with E|E
 ·have:=h.seqle u E;omega
 ·simp at E;subst E;simp at I
def Best(F:List Tmr)(i j:Nat)(t:Tmr):Prop:=F[j]?=some t/\j<i/\(∀k u,k<j->F[k]?=some u->t.due<u.due)/\∀k u,j<k->k<i->F[k]?=some u->t.due<=u.due
def Best.lt{F:List Tmr}{t u:Tmr}(h:Best F i j t)(T:F.Pairwise λa b=>a.seq<b.seq)(K:F[i]?=some u)(I:u.due<t.due\/u.due=t.due/\u.seq<t.seq):Best F (i+1) i u:=by
 obtain⟨O,Y,h3,h4⟩:=h;have J:u.due<t.due:=by
  rcases I with I|⟨_,I⟩
  ·exact I
  ·obtain⟨hj,ej⟩:=gfGet.1 O
   obtain⟨hi,ei⟩:=gfGet.1 K;have:=List.pairwise_iff_getElem.1 T j i hj hi Y;rw[ej,ei]at this;omega
 refine⟨K,am,λk v hk E=>?_,λk v h5 h6=>by omega⟩;rcases Nat.lt_trichotomy k j with h|h|h
 ·have:=h3 k v h E;omega
 ·subst h
  rw[O]at E;injection E with E;subst E;exact J
 ·have:=h4 k v h hk E;omega
def Best.fin{F:List Tmr}{t:Tmr}(h:Best F F.length j t):∃F1 F2,F=F1++t::F2/\(∀u∈F1,t.due<u.due)/\∀u∈F2,t.due<=u.due:=by
 obtain⟨I,T,h3,J⟩:=h;obtain⟨K,O⟩:=gfGet.1 I;refine⟨F.take j,F.drop (j+1),?_,λu E=>?_,λu E=>?_⟩
 ·rw[<-O,<-List.drop_eq_getElem_cons K,List.take_append_drop]
 ·obtain⟨k,hk⟩:=List.getElem?_of_mem E
  rw[List.getElem?_take]at hk
  split at hk
  ·exact h3 k u (by assumption) hk
  ·cases hk
 ·obtain⟨k,hk⟩:=List.getElem?_of_mem E
  rw[List.getElem?_drop]at hk;exact J (j+1+k) u am (gfGet.1 hk).1 hk
structure RingOk(N f:Nat)(q:List Pl)(rg:Nat->Pl):Prop where
 len:q.length<=N
 big:N<=2000
 fst:f<N\/N=0/\f=0
 item:∀k p,q[k]?=some p->rg ((f+k)%N)=p
section
variable{rg:Nat->Pl}{N f:Nat}
def RingOk.pos{q:List Pl}(h:RingOk N f q rg)(E:0<q.length):0<N/\f<N:=by
 have:=h.len;rcases h.fst with h|h<;>omega
def RingOk.push{q:List Pl}(h:RingOk N f q rg)(K:q.length<N)(p:Pl):RingOk N f (q++[p]) (gz rg ((f+q.length)%N) p):=by
 refine⟨by simp;omega,h.big,h.fst,λk u E=>?_⟩;rcases Nat.lt_or_ge k q.length with hk|hk
 ·rw[List.getElem?_append_left hk]at E
  have I:=h.item k u E;rw[dv,I];intro e;have O:f<N:=by rcases h.fst with h|h<;>omega
  rcases Nat.lt_or_ge (f+k) N with a|a<;>rcases Nat.lt_or_ge (f+q.length) N with b|b
  ·rw[Nat.mod_eq_of_lt a,Nat.mod_eq_of_lt b]at e;omega
  ·rw[Nat.mod_eq_of_lt a,Nat.mod_eq_sub_mod b,Nat.mod_eq_of_lt am]at e;omega
  ·rw[Nat.mod_eq_of_lt b,Nat.mod_eq_sub_mod a,Nat.mod_eq_of_lt am]at e;omega
  ·rw[Nat.mod_eq_sub_mod a,Nat.mod_eq_sub_mod b,Nat.mod_eq_of_lt am,Nat.mod_eq_of_lt am]at e;omega
 ·rw[List.getElem?_append_right hk]at E
  have J:k-q.length=0:=by
   have:=(gfGet.1 E).1;simp at this;omega
  have:k=q.length:=am;subst this;rw[ed];simp at E;exact E
def RingOk.pop{q:List Pl}{p z:Pl}(h:RingOk N f (p::q) rg):rg f=p/\RingOk N ((f+1)%N) q (gz rg f z):=by
 obtain⟨J,K⟩:=h.pos di;have O:=h.len;simp only[List.length_cons]at O;have I:=h.item 0 p rfl;rw[Nat.add_zero,Nat.mod_eq_of_lt K]at I;refine⟨I,am,h.big,.inl (Nat.mod_lt _ J),λk u E=>?_⟩;have hk:=(gfGet.1 E).1;have T:=h.item (k+1) u (by simpa using E);have e:((f+1)%N+k)%N=(f+(k+1))%N:=by rw[Nat.add_mod ((f+1)%N),Nat.mod_mod,<-Nat.add_mod];congr 1;omega
 rw[e,dv,T];intro e;rcases Nat.lt_or_ge (f+(k+1)) N with a|a
 ·rw[Nat.mod_eq_of_lt a]at e;omega
 ·rw[Nat.mod_eq_sub_mod a,Nat.mod_eq_of_lt am]at e;omega
def pS(N f:Nat)(rg:Nat->Pl):Nat->Pl:=λi=>if i<N-f then rg (f+i) else if i<N then rg (i-(N-f)) else⟨0,0,0⟩
def RingOk.grow{q:List Pl}(h:RingOk N f q rg)(J:q.length=N)(K:N<=1000):RingOk (max 4 (2*N)) 0 q (pS N f rg):=by
 refine⟨am,am,.inl am,λk p hk=>?_⟩;have I:=(gfGet.1 hk).1;have E:=h.item k p hk;have O:f<N:=(h.pos am).2;rw[Nat.zero_add,Nat.mod_eq_of_lt am];unfold pS
 split
 ·rw[Nat.mod_eq_of_lt am]at E
  exact E
 ·rw[if_pos am]
  rw[Nat.mod_eq_sub_mod am,Nat.mod_eq_of_lt am]at E;rw[<-E]
  congr 1
  omega
end
structure Sp where
 state:Int
 NM:Int
 token:Nat
structure Rn where
 fl:Flow
 state:Int
 NN:List Sp
 ended:Nat
structure En where
 now:Nat
 seed:Nat
 NL:Nat
 NK:Nat
 ends:Nat
 runs:List (Nat×Rn)
 NQ:List (Nat×Pl)
 NP:List Pl
 tms:List KD
 sets:Nat
def En.getR(S:En)(id:Nat):Option Rn:=(S.runs.find? (·.1==id)).map (·.2)
def En.setR(S:En)(id:Nat)(R:Rn):En:={S with runs:=S.runs.map λr=>if r.1==id then(r.1,R) else r}
def Rn.setS(R:Rn)(k:Nat)(s:Sp):Rn:={R with NN:=R.NN.set k s}
def En.later(S:En)(n:Nat):Nat:=min (S.now+n) 4611686018427387904
def En.setT(S:En)(p:Pl)(a:Nat):En:={S with tms:=S.tms.filter (λx=>x.1 !=p)++[(p,a)],sets:=S.sets+1}
def En.unset(S:En)(p:Pl):En:={S with tms:=S.tms.filter λx=>x.1 !=p}
def En.unrun(S:En)(id:Nat):En:={S with runs:=S.runs.eraseP (·.1==id)}
def En.onS(S:En)(id k:Nat)(g:Sp->Sp):En:=match S.getR id with
 |some R=>match R.NN[k]? with
  |some s=>S.setR id (R.setS k (g s))
  |none=>S
 |none=>S
def En.ready(S:En)(id k:Nat):En:={S.onS id k (λs=>{s with state:=2})with NP:=S.NP++[⟨id,(k:Int),0⟩]}
def cY(l:List Sp)(k:Nat)(x:Int):Bool:=match l[k]? with|some s=>s.state==x|none=>false
def kz(R:Rn)(k:Nat):Bool:=cY R.NN k 1&&(match R.fl.NO[k]? with|some n=>n.after.all λu=>cY R.NN u.toNat 5|none=>false)
def En.wakeK(id:Nat)(S:En)(k:Nat):En:=match S.getR id with
 |some R=>if kz R k then S.ready id k else S
 |none=>S
def En.wakeN(S:En)(id n:Nat):En:=(List.range n).foldl (En.wakeK id) S
def En.wake(S:En)(id:Nat):En:=match S.getR id with|some R=>S.wakeN id R.fl.NO.length|none=>S
def En.life(S:En)(p:Pl)(n:Node):En:=if 0<n.beat then S.setT ⟨p.run,p.node,2⟩ (S.later n.beat.toNat) else S
def En.leave(S:En)(id k:Nat):En:=match S.getR id with
 |some R=>match R.NN[k]? with
  |some s=>(({S with NQ:=S.NQ.eraseP (·.1==s.token)}.setR id (R.setS k {s with token:=0})).unset ⟨id,(k:Int),1⟩).unset ⟨id,(k:Int),2⟩
  |none=>S
 |none=>S
def tH(id:Nat)(S:En)(k:Nat):En:=(S.leave id k).onS id k λs=>if s.state=5\/s.state=6 then s else {s with state:=7}
def En.endN(S:En)(id n:Nat):En:=(List.range n).foldl (tH id) S
def En.finish(S:En)(id:Nat)(st:Int):En:=match S.getR id with
 |some R=>
  let T:=({S with ends:=S.ends+1}.setR id {R with state:=st,ended:=S.ends+1}).unset ⟨id,-1,0⟩
  let U:=T.endN id R.NN.length
  {U with NP:=U.NP.filter λp=>p.run !=id}
 |none=>S
def over(s:Sp):Bool:=s.state==5||s.state==6||s.state==7
def En.settle(S:En)(id:Nat):En:=match S.getR id with
 |some R=>if R.NN.all over then S.finish id (if R.NN.all λs=>s.state==5 then 2 else 3) else S
 |none=>S
def En.complete(S:En)(tok:Nat):En:=match (S.NQ.find? (·.1==tok)).map (·.2)with
 |some p=>(((S.leave p.run p.node.toNat).onS p.run p.node.toNat λs=>{s with state:=5}).wake p.run).settle p.run
 |none=>S
def skipK(ns:List Node)(l:List Sp)(k:Nat):List Sp:=match l[k]?,ns[k]? with
 |some s,some n=>if s.state=1/\(n.after.any λu=>cY l u.toNat 6||cY l u.toNat 7) then l.set k {s with state:=7} else l
 |_,_=>l
section
variable{S:En}{R:Rn}{l:List Sp}{s:Sp}
def Aa{l:List (Nat×Rn)}(k:Nat):(l.map λr=>if r.1==id then(r.1,R) else r).find? (·.1==k)=(l.find? (·.1==k)).map λr=>if r.1==id then(r.1,R) else r:=by
 induction l with
 |nil=>rfl
 |cons x l E=>
  simp only[List.map_cons,List.find?_cons];have h:(if x.1==id then(x.1,R) else x).1=x.1:=by split<;>rfl
  rw[h];cases x.1==k with
  |true=>rfl
  |false=>exact E
def ek{R':Rn}(h:S.getR id=some R):(S.setR id R').getR id=some R':=by
 unfold En.getR En.setR at *
 simp only;rw[Aa];cases hf:S.runs.find? (·.1==id)with
 |none=>rw[hf]at h;cases h
 |some x=>
  have:x.1=id:=by simpa using List.find?_some hf
  simp[this]
theorem gO{R':Rn}(h:k≠id):(S.setR id R').getR k=S.getR k:=by
 unfold En.getR En.setR;simp only;rw[Aa];cases hf:S.runs.find? (·.1==k)with
 |none=>rfl
 |some x=>
  have E:x.1=k:=by simpa using List.find?_some hf
  have I:¬x.1=id:=by rw[E];exact h
  simp[I]
theorem setR_setR{A B:Rn}:(S.setR id A).setR id B=S.setR id B:=by
 unfold En.setR;simp only[List.map_map]
 congr 1
 refine List.map_congr_left λx _=>?_;simp only[Function.comp_apply]
 by_cases h:x.1=id<;>simp[h]
theorem tU(g:Sp->Sp)(E:S.getR id=some R)(I:R.NN[k]?=some s):S.onS id k g=S.setR id (R.setS k (g s)):=by
 unfold En.onS;rw[E];simp only[I]
theorem kg(E:S.getR id=some R)(I:R.NN[k]?=some s):S.ready id k={S.setR id (R.setS k {s with state:=2})with NP:=S.NP++[⟨id,(k:Int),0⟩]}:=by
 unfold En.ready;rw[tU _ E I]
theorem fO(h:l[k]?=some s):cY l k x=(s.state==x):=by
 unfold cY;rw[h]
theorem pR(h:cY l k x=true):∃s,l[k]?=some s/\s.state=x:=by
 unfold cY at h;cases hl:l[k]? with
 |none=>rw[hl]at h;cases h
 |some s=>rw[hl]at h;exact⟨s,rfl,by simpa using h⟩
end
structure SameR(R R':Rn):Prop where
 fl:R'.fl=R.fl
 state:R'.state=R.state
 ended:R'.ended=R.ended
 len:R'.NN.length=R.NN.length
section
variable{R:Rn}{S:En}{s:Sp}
def SameR.refl(R:Rn):SameR R R:=⟨rfl,rfl,rfl,rfl⟩
def SameR.trans{A B C:Rn}(h:SameR A B)(k:SameR B C):SameR A C:=⟨k.fl.trans h.fl,k.state.trans h.state,k.ended.trans h.ended,k.len.trans h.len⟩
def SameR.setS(R:Rn)(k:Nat)(s:Sp):SameR R (R.setS k s):=⟨rfl,rfl,rfl,by simp[Rn.setS]⟩
def wakeK_on(E:S.getR id=some R):∃R',(En.wakeK id S k).getR id=some R'/\SameR R R'/\(En.wakeK id S k).NP.length<=S.NP.length+1:=by
 unfold En.wakeK;rw[E];simp only
 split
 ·rename_i I
  have K:cY R.NN k 1=true:=by
   unfold kz at I;simp only[Bool.and_eq_true]at I;exact I.1
  obtain⟨s,J,_⟩:=pR K;rw[kg E J];refine⟨R.setS k {s with state:=2},ek E,SameR.setS _ _ _,?_⟩;simp
 ·exact⟨R,E,SameR.refl R,Nat.le_succ _⟩
def oL{nd:Node}(E:R.NN[k]?=some s)(I:R.fl.NO[k]?=some nd):kz R k=(s.state==1&&nd.after.all λu=>cY R.NN u.toNat 5):=by
 unfold kz;rw[fO E,I]
theorem nJ(E:S.getR id=some R):En.wakeK id S k=if kz R k then S.ready id k else S:=by
 unfold En.wakeK;rw[E]
theorem wakeN_succ(S:En)(id n:Nat):S.wakeN id (n+1)=En.wakeK id (S.wakeN id n) n:=by
 unfold En.wakeN;rw[List.range_succ,List.foldl_append]
 rfl
def wakeN_on{S:En}{id:Nat}{R:Rn}(E:S.getR id=some R):∀n,∃R',(S.wakeN id n).getR id=some R'/\SameR R R'/\(S.wakeN id n).NP.length<=S.NP.length+n
 |0=>⟨R,E,SameR.refl R,cx _⟩
 |n+1=>by
  obtain⟨Y,I,J,h3⟩:=wakeN_on E n;obtain⟨K,O,T,k3⟩:=wakeK_on (k:=n) I;rw[wakeN_succ];exact⟨K,O,J.trans T,am⟩
def fL(E:S.getR id=some R)(I:R.NN[k]?=some s):S.leave id k=(({S with NQ:=S.NQ.eraseP (·.1==s.token)}.setR id (R.setS k {s with token:=0})).unset ⟨id,(k:Int),1⟩).unset ⟨id,(k:Int),2⟩:=by
 unfold En.leave;rw[E];simp only[I]
theorem setS_at{s':Sp}(E:R.NN[k]?=some s):(R.setS k s').NN[k]?=some s':=by
 have:=(gfGet.1 E).1;simp[Rn.setS,this]
theorem jZ(E:S.getR id=some R)(I:R.NN[k]?=some s):(S.leave id k).getR id=some (R.setS k {s with token:=0}):=by
 rw[fL E I];exact ek (S:={S with NQ:=S.NQ.eraseP (·.1==s.token)}) E
def oJ:(S.leave id k).tms.length<=S.tms.length:=by
 unfold En.leave
 split
 ·split
  ·exact Nat.le_trans (List.length_filter_le _ _) (List.length_filter_le _ _)
  ·exact cx _
 ·exact cx _
def n0:(S.leave id k).NP=S.NP:=by
 unfold En.leave
 split
 ·split<;>rfl
 ·rfl
def endS(s:Sp):Sp:=if s.state=5\/s.state=6 then s else {s with state:=7}
def tA(I:S.getR id=some R)(E:R.NN[k]?=some s):tH id S k=(S.leave id k).setR id ((R.setS k {s with token:=0}).setS k (endS {s with token:=0})):=by
 unfold tH;rw[tU _ (jZ I E) (setS_at E)]
 rfl
def setS_setS{a b:Sp}:(R.setS k a).setS k b=R.setS k b:=by
 unfold Rn.setS;simp
def DN(E:S.getR id=some R)(I:R.NN[k]?=some s):(S.leave id k).setR id (R.setS k {s with token:=0})=S.leave id k:=by
 rw[fL E I];show(((({S with NQ:=S.NQ.eraseP (·.1==s.token)}.setR id (R.setS k {s with token:=0})).setR id (R.setS k {s with token:=0})).unset ⟨id,(k:Int),1⟩).unset ⟨id,(k:Int),2⟩)=_;rw[setR_setR]
theorem oQ(S:En)(id n:Nat):S.endN id (n+1)=tH id (S.endN id n) n:=by
 unfold En.endN;rw[List.range_succ,List.foldl_append]
 rfl
def Fv{S:En}{id:Nat}{R:Rn}(I:S.getR id=some R):∀n,n<=R.NN.length->∃R',(S.endN id n).getR id=some R'/\SameR R R'/\(S.endN id n).tms.length<=S.tms.length/\(S.endN id n).NP=S.NP
 |0,_=>⟨R,I,SameR.refl R,cx _,rfl⟩
 |n+1,hn=>by
  obtain⟨E,J,K,h3,T⟩:=Fv I n am;obtain⟨s,O⟩:∃s,E.NN[n]?=some s:=⟨E.NN[n]'(by rw[K.len];omega),by simp⟩;rw[oQ,tA J O];refine⟨_,ek (jZ J O),K.trans ((SameR.setS E n _).trans (SameR.setS _ n _)),Nat.le_trans oJ h3,?_⟩;show((S.endN id n).leave id n).NP=_;rw[n0,T]
theorem xc(E:S.getR id=some R):S.finish id st=(let T:=({S with ends:=S.ends+1}.setR id {R with state:=st,ended:=S.ends+1}).unset ⟨id,-1,0⟩
 let U:=T.endN id R.NN.length
 {U with NP:=U.NP.filter λp=>p.run !=id}):=by
 unfold En.finish;rw[E]
end
def En.hand(S:En)(p:Pl)(q:List Pl)(R:Rn)(s:Sp)(nd:Node):En:=
 let T:={S with NP:=q,NK:=S.NK+1}.setR p.run (R.setS p.node.toNat {state:=3,NM:=s.NM+1,token:=S.NK+1})
 let U:={T with NQ:=T.NQ++[(S.NK+1,p)]}
 (U.setT ⟨p.run,p.node,1⟩ (U.later nd.close.toNat)).life p nd
def Ms(S:En)(o:Option (Nat×Rn)):Prop:=(∀m,o=some m->m∈S.runs/\0<m.2.ended)/\∀r∈S.runs,0<r.2.ended->∃m,o=some m/\m.2.ended<=r.2.ended
def jO{α:Type}{x r:α}:∀{l:List α} {j:Nat},l[j]?=some x->r∈l->r=x\/r∈l.eraseIdx j
 | [],_,h,_=>by simp at h
 |a::l,0,h,hr=>by
  simp at h;subst h;simpa using hr
 |a::l,j+1,h,hr=>by
  rw[List.eraseIdx_cons_succ];rcases List.mem_cons.1 hr with rfl|hr
  ·exact .inr (List.mem_cons_self)
  ·rcases jO (l:=l) (j:=j) (by simpa using h) hr with E|E
   ·exact .inl E
   ·exact .inr (List.mem_cons_of_mem _ E)
abbrev s0:Sp:=⟨0,0,0⟩
abbrev s1:Sp:=⟨1,0,0⟩
def Rn.begun(fl:Flow):Rn:=⟨fl,1,List.replicate fl.NO.length s1,0⟩
def Cut(S S0:En):Prop:=if S.runs.length=6 then ∃o,Ms S o/\S0=(match o with|some m=>S.unrun m.1|none=>S) else S0=S
def En.begin(S:En)(fl:Flow):En:={S with NL:=S.NL+1,runs:=S.runs++[(S.NL+1,Rn.begun fl)]}
def En.submit(S:En)(fl:Flow):En:=(((S.begin fl).setT ⟨S.NL+1,-1,0⟩ (S.later fl.deadline.toNat)).wake (S.NL+1))
def En.fresh:En:=⟨0,0,0,0,0,[],[],[],[],0⟩
def vm{S:En}{fl:Flow}(h:∀r∈S.runs,r.1<=S.NL):(S.begin fl).getR (S.NL+1)=some (Rn.begun fl):=by
 unfold En.getR En.begin;simp only;rw[List.find?_append];have:S.runs.find? (·.1==S.NL+1)=none:=by
  rw[List.find?_eq_none];intro r E;have:=h r E;simp;omega
 rw[this];simp
def En.tryOf(S:En)(p:Pl):Int:=match S.getR p.run with
 |some R=>match R.NN[p.node.toNat]? with
  |some s=>s.NM+1
  |none=>0
 |none=>0
def En.QueueOk(S:En):Prop:=∀p∈S.NP,0<=p.node/\∃R s,S.getR p.run=some R/\R.NN[p.node.toNat]?=some s/\0<=s.NM/\s.NM<9223372036854775807
def skipK_len(ns:List Node)(l:List Sp)(k:Nat):(skipK ns l k).length=l.length:=by
 unfold skipK
 split
 ·split<;>simp
 ·rfl
def mz(ns:List Node):∀(T:List Nat) (l:List Sp),(T.foldl (skipK ns) l).length=l.length
 | [],_=>rfl
 |k::T,l=>by rw[List.foldl_cons,mz ns T,skipK_len]
def Rn.turned(R:Rn)(k:Nat)(s:Sp)(st:Int):Rn:=(R.setS k {s with token:=0}).setS k {s with token:=0,state:=st}
def Rn.skips(R:Rn)(T:List Nat):Rn:={R with NN:=T.foldl (skipK R.fl.NO) R.NN}
def En.rests(S:En)(id k:Nat)(R:Rn)(s:Sp)(E:Nat):En:=((S.leave id k).setR id (R.turned k s 4)).setT ⟨id,(k:Int),1⟩ ((S.leave id k).later E)
def En.dies(S:En)(id k:Nat)(R:Rn)(s:Sp)(T:List Nat):En:=((S.leave id k).setR id ((R.turned k s 6).skips T)).settle id
def En.stp(S:En)(id k:Nat):Option Sp:=(S.getR id).bind λR=>R.NN[k]?
structure SpOk(st:Int)(s:Sp)(n:Node):Prop where
 st1:1<=s.state
 st7:s.state<=7
 tr0:0<=s.NM
 trb:s.NM<=n.NR
 low:s.state=1\/s.state=2\/s.state=4->s.NM<n.NR
 wait:s.state=1->s.NM=0
 work:s.state=3->1<=s.NM
 idle:s.state≠3->s.token=0
 dead:s.state=6->s.NM=n.NR
 over:st≠1->s.state=5\/s.state=6\/s.state=7
structure RnOk(ends:Nat)(R:Rn):Prop where
 fl:Fit R.fl
 len:R.NN.length=R.fl.NO.length
 sp:∀(k:Nat) (s:Sp) (n:Node),R.NN[k]?=some s->R.fl.NO[k]?=some n->SpOk R.state s n
 ended:R.ended=0<->R.state=1
 ends:R.ended<=ends
def Cw(R:Rn)(p:Pl):Prop:=R.state=1/\((p.node=-1/\p.what=0)\/∃(k:Nat) (s:Sp),p.node=k/\R.NN[k]?=some s/\((p.what=1/\(s.state=3\/s.state=4))\/(p.what=2/\s.state=3)))
def MH(S:En)(x:KD):Prop:=x.2<=4611686018427387904/\∃R,S.getR x.1.run=some R/\Cw R x.1
structure Ok(S:En):Prop where
 now:S.now<=4611686018427387904
 seed:S.seed<18446744073709551616
 ids:(S.runs.map (·.1)).Nodup
 low:∀i∈S.runs.map (·.1),1<=i/\i<=S.NL
 six:S.runs.length<=6
 run:∀id R,S.getR id=some R->RnOk S.ends R
 tkeys:(S.NQ.map (·.1)).Nodup
 tlow:∀t∈S.NQ,1<=t.1/\t.1<=S.NK
 NQ:∀t p,(t,p)∈S.NQ<->∃(id k:Nat) (s:Sp),p=⟨id,(k:Int),0⟩/\S.stp id k=some s/\s.state=3/\s.token=t
 qnd:S.NP.Nodup
 NP:∀p,p∈S.NP<->∃(id k:Nat) (s:Sp),p=⟨id,(k:Int),0⟩/\S.stp id k=some s/\s.state=2
 knd:(S.tms.map (·.1)).Nodup
 tms:∀x∈S.tms,MH S x
section
variable{S:En}{R:Rn}{s:Sp}
def Ok.node(h:Ok S)(J:S.getR id=some R)(E:R.NN[k]?=some s):∃n,R.fl.NO[k]?=some n/\SpOk R.state s n:=by
 have I:=h.run id R J;have hk:=(gfGet.1 E).1;have:R.fl.NO[k]?=some (R.fl.NO[k]'(by rw[<-I.len];exact hk)):=List.getElem?_eq_getElem _;exact⟨_,this,I.sp k s _ E this⟩
def jX(h:S.stp id k=some s):∃R,S.getR id=some R/\R.NN[k]?=some s:=by
 unfold En.stp at h;cases hR:S.getR id with
 |none=>rw[hR]at h;cases h
 |some R=>rw[hR]at h;exact⟨R,rfl,h⟩
def jp(E:S.getR id=some R)(I:R.NN[k]?=some s):S.stp id k=some s:=by
 unfold En.stp;rw[E];exact I
def kx{b:Nat}{u v:Int}(h:(⟨a,(i:Int),u⟩:Pl)=⟨b,(j:Int),v⟩):a=b/\i=j/\u=v:=by
 injection h with E I h3;exact⟨E,am,h3⟩
def IT{S':En}{s':Sp}(J:S.getR id=some R)(K:R.NN[k]?=some s)(E:∀a,S'.getR a=if a=id then some (R.setS k s') else S.getR a)(a j:Nat):S'.stp a j=if a=id/\j=k then some s' else S.stp a j:=by
 unfold En.stp;rw[E]
 by_cases h:a=id
 ·subst h
  rw[if_pos rfl,J];show(R.setS k s').NN[j]?=_
  by_cases I:j=k
  ·subst I
   rw[setS_at K];simp
  ·rw[if_neg (λh=>I h.2)]
   show(R.NN.set k s')[j]?=R.NN[j]?;rw[List.getElem?_set_ne (Ne.symm I)]
 ·rw[if_neg h,if_neg (λx=>h x.1)]
theorem Ok.turn{S':En}(h:Ok S){s':Sp}{n:Node}(hR:S.getR id=some R)(hs:R.NN[k]?=some s)(hn:R.fl.NO[k]?=some n)
(f9:S'.now<=4611686018427387904)(d9:S'.seed=S.seed)(I:S'.runs.map (·.1)=S.runs.map (·.1))(t7:S'.NL=S.NL)(f7:S'.ends=S.ends)(O:∀a,S'.getR a=if a=id then some (R.setS k s') else S.getR a)
(t8:SpOk R.state s' n)(tk:(S'.NQ.map (·.1)).Nodup)(tl:∀t∈S'.NQ,1<=t.1/\t.1<=S'.NK)
(ht:∀t p,(t,p)∈S'.NQ<->((t,p)∈S.NQ/\p≠⟨id,(k:Int),0⟩)\/(s'.state=3/\t=s'.token/\p=⟨id,(k:Int),0⟩))
(qn:S'.NP.Nodup)(hq:∀p,p∈S'.NP<->(p∈S.NP/\p≠⟨id,(k:Int),0⟩)\/(s'.state=2/\p=⟨id,(k:Int),0⟩))
(kn:(S'.tms.map (·.1)).Nodup)(hk:∀x∈S'.tms,(x∈S.tms/\(x.1=⟨id,(k:Int),1⟩->s'.state=3\/s'.state=4)/\(x.1=⟨id,(k:Int),2⟩->s'.state=3))\/MH S' x):Ok S':=by
 have K:=IT hR hs O;refine⟨f9,d9▸h.seed,I▸h.ids,λi hi=>?_,?_,λa R' J=>?_,tk,tl,λt p=>?_,qn,λp=>?_,kn,λx hx=>?_⟩
 ·rw[t7]
  rw[I]at hi;exact h.low i hi
 ·have:=congrArg List.length I
  simp only[List.length_map]at this;have:=h.six;omega
 ·rw[O]at J
  rw[f7]
  by_cases ha:a=id
  ·rw[if_pos ha]at J
   injection J with J;subst J;have hr:=h.run id R hR;refine⟨hr.fl,by simpa[Rn.setS]using hr.len,λj u m hj hm=>?_,hr.ended,hr.ends⟩
   by_cases mt:j=k
   ·subst mt
    rw[setS_at hs]at hj;injection hj with hj;subst hj;have d7:R.fl.NO[j]?=some m:=hm;rw[hn]at d7;injection d7 with d7;subst d7;exact t8
   ·have t6:(R.NN.set k s')[j]?=some u:=hj
    rw[List.getElem?_set_ne (Ne.symm mt)]at t6;exact hr.sp j u m t6 hm
  ·rw[if_neg ha]at J
   exact h.run a R' J
 ·rw[ht,h.NQ]
  constructor
  ·rintro(⟨⟨a,j,u,rfl,E,Y,h3⟩,f8⟩|⟨E,rfl,rfl⟩)
   ·refine⟨a,j,u,rfl,?_,Y,h3⟩
    rw[K,if_neg]
    ·exact E
    ·rintro⟨rfl,rfl⟩
     exact f8 rfl
   ·exact⟨id,k,s',rfl,by rw[K,if_pos ⟨rfl,rfl⟩],E,rfl⟩
  ·rintro⟨a,j,u,rfl,E,Y,h3⟩
   rw[K]at E
   by_cases hc:a=id/\j=k
   ·rw[if_pos hc]at E
    injection E with E;subst E;obtain⟨rfl,rfl⟩:=hc;exact .inr ⟨Y,h3.symm,rfl⟩
   ·rw[if_neg hc]at E
    refine .inl ⟨⟨a,j,u,rfl,E,Y,h3⟩,λe=>?_⟩;obtain⟨e1,e2,_⟩:=kx e;exact hc ⟨e1,e2⟩
 ·rw[hq,h.NP]
  constructor
  ·rintro(⟨⟨a,j,u,rfl,E,Y⟩,f8⟩|⟨E,rfl⟩)
   ·refine⟨a,j,u,rfl,?_,Y⟩
    rw[K,if_neg]
    ·exact E
    ·rintro⟨rfl,rfl⟩
     exact f8 rfl
   ·exact⟨id,k,s',rfl,by rw[K,if_pos ⟨rfl,rfl⟩],E⟩
  ·rintro⟨a,j,u,rfl,E,Y⟩
   rw[K]at E
   by_cases hc:a=id/\j=k
   ·rw[if_pos hc]at E
    injection E with E;subst E;obtain⟨rfl,rfl⟩:=hc;exact .inr ⟨Y,rfl⟩
   ·rw[if_neg hc]at E
    refine .inl ⟨⟨a,j,u,rfl,E,Y⟩,λe=>?_⟩;obtain⟨e1,e2,_⟩:=kx e;exact hc ⟨e1,e2⟩
 ·rcases hk x hx with⟨E,Y,h3⟩|E
  ·obtain⟨hb,R1,T,d8,d6⟩:=h.tms x E
   refine⟨hb,?_⟩;rw[O]
   by_cases ha:x.1.run=id
   ·rw[if_pos ha]
    rw[ha,hR]at T;injection T with T;subst T;refine⟨_,rfl,d8,?_⟩;rcases d6 with d6|⟨j,u,e1,e2,e3⟩
    ·exact .inl d6
    ·refine .inr ?_
     by_cases hj:j=k
     ·subst hj
      refine⟨j,s',e1,setS_at hs,?_⟩;rcases e3 with⟨e3,_⟩|⟨e3,_⟩
      ·refine .inl ⟨e3,Y ?_⟩
       obtain⟨⟨p1,p2,p3⟩,x2⟩:=x;simp only at ha e1 e3;rw[ha,e1,e3]
      ·refine .inr ⟨e3,h3 ?_⟩
       obtain⟨⟨p1,p2,p3⟩,x2⟩:=x;simp only at ha e1 e3;rw[ha,e1,e3]
     ·refine⟨j,u,e1,?_,e3⟩
      show(R.NN.set k s')[j]?=some u;rw[List.getElem?_set_ne (Ne.symm hj)];exact e2
   ·rw[if_neg ha]
    exact⟨R1,T,d8,d6⟩
  ·exact E
def setR_keys:(S.setR id R).runs.map (·.1)=S.runs.map (·.1):=by
 unfold En.setR;simp only[List.map_map];refine List.map_congr_left λx _=>?_;simp only[Function.comp_apply]
 split<;>rfl
def getR_set{R':Rn}(h:S.getR id=some R)(a:Nat):(S.setR id R').getR a=if a=id then some R' else S.getR a:=by
 by_cases E:a=id
 ·subst E
  rw[if_pos rfl,ek h]
 ·rw[if_neg E,gO E]
theorem SpOk.running{n:Node}(h:SpOk st s n)(I:s.state=1\/s.state=2\/s.state=3\/s.state=4):st=1:=by
 refine Classical.byContradiction λE=>?_;have:=h.over E;omega
def Ok.ready{S:En}(h:Ok S){id k:Nat}{R:Rn}{s:Sp}(O:S.getR id=some R)(T:R.NN[k]?=some s)(d7:s.state=1\/(s.state=4/\∀x∈S.tms,x.1≠⟨id,(k:Int),1⟩)):Ok (S.ready id k):=by
 obtain⟨n,hn,Y⟩:=h.node O T;rw[kg O T];have hno:(⟨id,(k:Int),0⟩:Pl)∉S.NP:=by
  rw[h.NP];rintro⟨a,j,u,e,I,h2⟩;obtain⟨rfl,rfl,_⟩:=kx e;rw[jp O T]at I;injection I with I;subst I;omega
 have d8:∀t,(t,(⟨id,(k:Int),0⟩:Pl))∉S.NQ:=λt=>by
  rw[h.NQ];rintro⟨a,j,u,e,I,h2,_⟩;obtain⟨rfl,rfl,_⟩:=kx e;rw[jp O T]at I;injection I with I;subst I;omega
 have d6:=Y.running am;refine h.turn (s':={s with state:=2}) O T hn h.now rfl setR_keys rfl rfl (getR_set O) ?_ h.tkeys h.tlow ?_ ?_ ?_ h.knd ?_
 ·exact⟨by show(1:Int)<=2;omega,by show(2:Int)<=7;omega,Y.tr0,Y.trb,λ_=>Y.low am,λe=>absurd (show(2:Int)=1 from e) fh,λe=>absurd (show(2:Int)=3 from e) fh,λ_=>Y.idle am,λe=>absurd (show(2:Int)=6 from e) fh,λe=>absurd d6 e⟩
 ·intro t p
  constructor
  ·intro K
   refine .inl ⟨K,?_⟩;rintro rfl;exact d8 t K
  ·rintro(⟨K,_⟩|⟨e,_⟩)
   ·exact K
   ·exact absurd (show(2:Int)=3 from e) fh
 ·show(S.NP++[_]).Nodup
  rw[List.nodup_append];exact⟨h.qnd,by simp,by
   intro a ha b hb;simp at hb;subst hb;rintro rfl;exact hno ha⟩
 ·intro p
  rw[List.mem_append,List.mem_singleton];constructor
  ·rintro(K|rfl)
   ·refine .inl ⟨K,?_⟩
    rintro rfl;exact hno K
   ·exact .inr ⟨rfl,rfl⟩
  ·rintro(⟨K,_⟩|⟨_,rfl⟩)
   ·exact .inl K
   ·exact .inr rfl
 ·intro x hx
  refine .inl ⟨hx,λe=>?_,λe=>?_⟩
  ·exfalso
   rcases d7 with I|⟨_,I⟩
   ·obtain⟨_,R1,E,_,J⟩:=h.tms x hx
    rw[e]at E J;rw[O]at E;injection E with E;subst E;rcases J with⟨e1,_⟩|⟨j,u,e1,e2,e3⟩
    ·simp only at e1;omega
    ·have:k=j:=by simp only at e1;omega
     subst this;rw[T]at e2;injection e2 with e2;subst e2;omega
   ·exact I x hx e
  ·exfalso
   obtain⟨_,R1,E,_,J⟩:=h.tms x hx;rw[e]at E J;rw[O]at E;injection E with E;subst E;rcases J with⟨e1,_⟩|⟨j,u,e1,e2,e3⟩
   ·simp only at e1;omega
   ·have:k=j:=by simp only at e1;omega
    subst this;rw[T]at e2;injection e2 with e2;subst e2;simp only at e3;omega
def Ok.wakeK{S:En}(h:Ok S)(id k:Nat):Ok (En.wakeK id S k):=by
 cases hR:S.getR id with
 |none=>unfold En.wakeK;rw[hR];exact h
 |some R=>
  rw[nJ hR]
  split
  ·rename_i E
   have K:cY R.NN k 1=true:=by
    unfold kz at E;simp only[Bool.and_eq_true]at E;exact E.1
   obtain⟨s,I,J⟩:=pR K;exact h.ready hR I (.inl J)
  ·exact h
def Ok.wakeN{S:En}(h:Ok S)(id:Nat):∀n,Ok (S.wakeN id n)
 |0=>h
 |n+1=>by
  rw[wakeN_succ];exact(Ok.wakeN h id n).wakeK id n
def Ok.wake{S:En}(h:Ok S)(id:Nat):Ok (S.wake id):=by
 unfold En.wake
 split
 ·exact h.wakeN id _
 ·exact h
end
section
variable{S:En}{R:Rn}{s:Sp}
def pB{t:Nat}:∀{l:List (Nat×Pl)},(l.map (·.1)).Nodup->∀x,x∈l.eraseP (·.1==t)<->x∈l/\x.1≠t
 | [],_,x=>by simp
 |y::l,hn,x=>by
  simp only[List.map_cons,List.nodup_cons]at hn;rw[List.eraseP_cons]
  by_cases I:y.1=t
  ·have:(y.1==t)=true:=by simpa using I
   rw[this,cond_true];constructor
   ·intro E
    refine⟨.tail _ E,λe=>hn.1 ?_⟩;rw[I,<-e];exact List.mem_map_of_mem (f:=(·.1)) E
   ·rintro⟨E,J⟩
    rcases List.mem_cons.1 E with rfl|E
    ·exact absurd I J
    ·exact E
  ·have:(y.1==t)=false:=by simpa using I
   rw[this,cond_false,List.mem_cons,pB hn.2,List.mem_cons];constructor
   ·rintro(rfl|⟨K,O⟩)
    ·exact⟨.inl rfl,I⟩
    ·exact⟨.inr K,O⟩
   ·rintro⟨rfl|K,O⟩
    ·exact .inl rfl
    ·exact .inr ⟨K,O⟩
def jM{β:Type}{f:α->β}{l m:List α}(h:(l.map f).Nodup)(s:m.Sublist l):(m.map f).Nodup:=h.sublist (s.map f)
def Ok.times(h:Ok S){now sets:Nat}{tms:List KD}(E:now<=4611686018427387904)(hk:(tms.map (·.1)).Nodup)(I:∀x∈tms,MH S x):Ok {S with now:=now,tms:=tms,sets:=sets}:=
 ⟨E,h.seed,h.ids,h.low,h.six,h.run,h.tkeys,h.tlow,h.NQ,h.qnd,h.NP,hk,I⟩
def Ok.seeded(h:Ok S)(E:n<18446744073709551616):Ok {S with seed:=n}:=
 ⟨h.now,E,h.ids,h.low,h.six,h.run,h.tkeys,h.tlow,h.NQ,h.qnd,h.NP,h.knd,h.tms⟩
def Ok.setT{S:En}(h:Ok S){p:Pl}{a:Nat}(J:a<=4611686018427387904){R:Rn}(K:S.getR p.run=some R)(O:Cw R p):Ok (S.setT p a):=by
 refine h.times (now:=S.now) h.now ?_ ?_
 ·rw[List.map_append,List.nodup_append]
  refine⟨jM h.knd List.filter_sublist,by simp,?_⟩;intro x E y I;simp at I;subst I;rintro rfl;obtain⟨u,T,rfl⟩:=List.mem_map.1 E;have:=(List.mem_filter.1 T).2;simp at this
 ·intro x E
  rcases List.mem_append.1 E with E|E
  ·exact h.tms x (List.mem_filter.1 E).1
  ·rw[List.mem_singleton]at E
   subst E;exact⟨J,R,K,O⟩
def nP(S:En)(n:Nat):S.later n<=4611686018427387904:=by unfold En.later;omega
def Ok.life{S:En}(h:Ok S){id k:Nat}{wh:Int}{R:Rn}{s:Sp}(n:Node)(E:S.getR id=some R)(I:R.NN[k]?=some s)(h3:s.state=3):Ok (S.life ⟨id,(k:Int),wh⟩ n):=by
 unfold En.life
 split
 ·obtain⟨_,_,J⟩:=h.node E I
  exact h.setT (nP _ _) E ⟨J.running am,.inr ⟨k,s,rfl,I,.inr ⟨rfl,h3⟩⟩⟩
 ·exact h
def pQ(E:S.getR id=some R)(I:R.NN[k]?=some s):(S.leave id k).setR id ((R.setS k {s with token:=0}).setS k {s with token:=0,state:=st})={S.setR id (R.setS k ⟨st,s.NM,0⟩)with NQ:=S.NQ.eraseP (·.1==s.token),tms:=(S.tms.filter λx=>x.1 !=⟨id,(k:Int),1⟩).filter λx=>x.1 !=⟨id,(k:Int),2⟩}:=by
 rw[setS_setS,fL E I];show((({S with NQ:=S.NQ.eraseP (·.1==s.token)}.setR id (R.setS k {s with token:=0})).setR id _).unset _).unset _=_;rw[setR_setR]
 rfl
def Ok.task(h:Ok S)(E:S.getR id=some R)(I:R.NN[k]?=some s)(h3:s.state=3):(s.token,(⟨id,(k:Int),0⟩:Pl))∈S.NQ:=by
 rw[h.NQ];exact⟨id,k,s,rfl,jp E I,h3,rfl⟩
def Ok.part(h:Ok S){n:Node}(J:S.getR id=some R)(O:R.NN[k]?=some s)(hn:R.fl.NO[k]?=some n)(h3:s.state=3)(d7:st=5\/(st=4/\s.NM<n.NR)\/(st=6/\s.NM=n.NR)):Ok ((S.leave id k).setR id ((R.setS k {s with token:=0}).setS k {s with token:=0,state:=st})):=by
 rw[pQ J O];have hp:=(h.run id R J).sp k s n O hn;have T:=hp.running am;have d6:=h.task J O h3;have hno:(⟨id,(k:Int),0⟩:Pl)∉S.NP:=by
  rw[h.NP];rintro⟨a,j,u,e,E,Y⟩;obtain⟨rfl,rfl,_⟩:=kx e;rw[jp J O]at E;injection E with E;subst E;omega
 refine h.turn (s':=⟨st,s.NM,0⟩) J O hn h.now rfl setR_keys rfl rfl (getR_set J) ?_ (jM h.tkeys List.eraseP_sublist) (λt ht=>h.tlow t (List.mem_of_mem_eraseP ht)) ?_ h.qnd ?_ (jM h.knd (List.filter_sublist.trans List.filter_sublist)) ?_
 ·exact⟨by show 1<=st;omega,by show st<=7;omega,hp.tr0,hp.trb,λe=>by replace e:st=1\/st=2\/st=4:=e;show s.NM<_;omega,λe=>by replace e:st=1:=e;omega,λe=>by replace e:st=3:=e;omega,λ_=>rfl,λe=>by replace e:st=6:=e;show s.NM=_;omega,λe=>absurd T e⟩
 ·intro t p
  rw[pB h.tkeys];constructor
  ·rintro⟨I,K⟩
   refine .inl ⟨I,?_⟩;rintro rfl;obtain⟨a,j,u,e,E,Y,h4⟩:=(h.NQ _ _).1 I;obtain⟨rfl,rfl,_⟩:=kx e;rw[jp J O]at E;injection E with E;subst E;exact K h4.symm
  ·rintro(⟨I,K⟩|⟨e,_⟩)
   ·refine⟨I,λe=>K ?_⟩
    have:=ik h.tkeys I d6 e;injection this
   ·replace e:st=3:=e
    omega
 ·intro p
  constructor
  ·intro I
   refine .inl ⟨I,?_⟩;rintro rfl;exact hno I
  ·rintro(⟨I,_⟩|⟨e,_⟩)
   ·exact I
   ·replace e:st=2:=e
    omega
 ·intro x hx
  obtain⟨E,Y⟩:=List.mem_filter.1 hx;obtain⟨h4,h5⟩:=List.mem_filter.1 E;refine .inl ⟨h4,λe=>?_,λe=>?_⟩
  ·rw[e]at h5;simp at h5
  ·rw[e]at Y;simp at Y
def En.handT(S:En)(id k:Nat)(q:List Pl)(R:Rn)(s:Sp):En:={S.setR id (R.setS k ⟨3,s.NM+1,S.NK+1⟩)with NP:=q,NK:=S.NK+1,NQ:=S.NQ++[(S.NK+1,⟨id,(k:Int),0⟩)]}
def Ok.handT{S:En}(h:Ok S){id k:Nat}{q:List Pl}(hq:S.NP=⟨id,(k:Int),0⟩::q){R:Rn}{s:Sp}{n:Node}(O:S.getR id=some R)(Y:R.NN[k]?=some s)(hn:R.fl.NO[k]?=some n):s.state=2/\Ok (S.handT id k q R s):=by
 have h2:s.state=2:=by
  obtain⟨a,j,u,e,I,h2⟩:=(h.NP ⟨id,(k:Int),0⟩).1 (by rw[hq];exact .head _);obtain⟨rfl,rfl,_⟩:=kx e;rw[jp O Y]at I;injection I with I;subst I;exact h2
 refine⟨h2,?_⟩;have hp:=(h.run id R O).sp k s n Y hn;have T:=hp.running am;have K:=h.qnd;rw[hq,List.nodup_cons]at K;have hno:∀t∈S.NQ,t.1≠S.NK+1:=λt J e=>by have:=(h.tlow t J).2;omega
 have d7:∀t,(t,(⟨id,(k:Int),0⟩:Pl))∉S.NQ:=λt=>by
  rw[h.NQ];rintro⟨a,j,u,e,I,h4,_⟩;obtain⟨rfl,rfl,_⟩:=kx e;rw[jp O Y]at I;injection I with I;subst I;omega
 refine h.turn (s':=⟨3,s.NM+1,S.NK+1⟩) O Y hn h.now rfl setR_keys rfl rfl (getR_set O) ?_ ?_ ?_ ?_ K.2 ?_ h.knd ?_
 ·have h5:=hp.low am
  have h6:=hp.tr0;exact⟨by show(1:Int)<=3;omega,by show(3:Int)<=7;omega,by show 0<=s.NM+1;omega,by show s.NM+1<=_;omega,λe=>by replace e:(3:Int)=1\/(3:Int)=2\/(3:Int)=4:=e;omega,λe=>by replace e:(3:Int)=1:=e;omega,λ_=>by show 1<=s.NM+1;omega,λe=>absurd rfl e,λe=>by replace e:(3:Int)=6:=e;omega,λe=>absurd T e⟩
 ·show((S.NQ++[(S.NK+1,(⟨id,(k:Int),0⟩:Pl))]).map (·.1)).Nodup
  rw[List.map_append,List.nodup_append];refine⟨h.tkeys,by simp,?_⟩;intro x hx y hy;simp at hy;subst hy;rintro rfl;obtain⟨u,hu,he⟩:=List.mem_map.1 hx;exact hno u hu he
 ·intro t J
  show 1<=t.1/\t.1<=S.NK+1;rcases List.mem_append.1 J with J|J
  ·have:=h.tlow t J
   omega
  ·rw[List.mem_singleton]at J
   subst J;exact⟨by show 1<=S.NK+1;omega,by show S.NK+1<=S.NK+1;omega⟩
 ·intro t p
  show(t,p)∈S.NQ++[(S.NK+1,(⟨id,(k:Int),0⟩:Pl))]<->_;rw[List.mem_append,List.mem_singleton];constructor
  ·rintro(E|e)
   ·refine .inl ⟨E,?_⟩
    rintro rfl;exact d7 t E
   ·injection e with e1 e2
    exact .inr ⟨rfl,e1,e2⟩
  ·rintro(⟨E,_⟩|⟨_,rfl,rfl⟩)
   ·exact .inl E
   ·exact .inr rfl
 ·intro p
  rw[hq];constructor
  ·intro E
   refine .inl ⟨.tail _ E,?_⟩;rintro rfl;exact K.1 E
  ·rintro(⟨E,d6⟩|⟨e,_⟩)
   ·rcases List.mem_cons.1 E with rfl|E
    ·exact absurd rfl d6
    ·exact E
   ·exact absurd (show(3:Int)=2 from e) fh
 ·intro x hx
  exact .inl ⟨hx,λ_=>.inl rfl,λ_=>rfl⟩
end
structure EndAt(S U:En)(id:Nat)(RT:Rn)(n:Nat):Prop where
 run:∃R',U.getR id=some R'/\R'.fl=RT.fl/\R'.state=RT.state/\R'.ended=RT.ended/\R'.NN.length=RT.NN.length/\∀(j:Nat) (s:Sp),RT.NN[j]?=some s->R'.NN[j]?=some (if j<n then endS {s with token:=0} else s)
 others:∀a,a≠id->U.getR a=S.getR a
 keys:U.runs.map (·.1)=S.runs.map (·.1)
 tsub:U.NQ.Sublist S.NQ
 NQ:∀t p,(t,p)∈U.NQ<->(t,p)∈S.NQ/\∀j:Nat,j<n->p≠⟨id,(j:Int),0⟩
 msub:U.tms.Sublist S.tms
 tms:∀x,x∈U.tms<->x∈S.tms/\∀j:Nat,j<n->x.1≠⟨id,(j:Int),1⟩/\x.1≠⟨id,(j:Int),2⟩
 NP:U.NP=S.NP
 now:U.now=S.now
 seed:U.seed=S.seed
 NL:U.NL=S.NL
 NK:U.NK=S.NK
 ends:U.ends=S.ends
 sets:U.sets=S.sets
structure TaskAt(T:En)(id:Nat)(RT:Rn):Prop where
 get:T.getR id=some RT
 keys:(T.NQ.map (·.1)).Nodup
 low:∀t∈T.NQ,1<=t.1
 NQ:∀t (k:Nat),(t,(⟨id,(k:Int),0⟩:Pl))∈T.NQ<->∃s,RT.NN[k]?=some s/\s.state=3/\s.token=t
 idle:∀(k:Nat) (s:Sp),RT.NN[k]?=some s->s.state≠3->s.token=0
def Fw{T:En}{id:Nat}{Y:Rn}(h:TaskAt T id Y):∀n,n<=Y.NN.length->EndAt T (T.endN id n) id Y n
 |0,_=>⟨⟨Y,h.get,rfl,rfl,rfl,rfl,λj s J=>by simpa using J⟩,λ_ _=>rfl,rfl,List.Sublist.refl _,λt p=>by simp[En.endN],List.Sublist.refl _,λx=>by simp[En.endN],rfl,rfl,rfl,rfl,rfl,rfl,rfl⟩
 |n+1,hn=>by
  have E:=Fw h n am;obtain⟨R',g1,g2,g3,g4,g5,g6⟩:=E.run;obtain⟨s,hs⟩:∃s,Y.NN[n]?=some s:=⟨Y.NN[n]'am,by simp⟩;have d6:R'.NN[n]?=some s:=by simpa using g6 n s hs
  rw[oQ,tA g1 d6];have f7:=pQ (st:=(endS {s with token:=0}).state) g1 d6;have f8:({({s with token:=0}:Sp)with state:=(endS {s with token:=0}).state}:Sp)=endS {s with token:=0}:=by
   unfold endS
   split<;>rfl
  have d7:(⟨(endS {s with token:=0}).state,s.NM,0⟩:Sp)=endS {s with token:=0}:=by
   unfold endS
   split<;>rfl
  have d8:((T.endN id n).leave id n).setR id ((R'.setS n {s with token:=0}).setS n (endS {s with token:=0}))={(T.endN id n).setR id (R'.setS n (endS {s with token:=0}))with NQ:=(T.endN id n).NQ.eraseP (·.1==s.token),tms:=((T.endN id n).tms.filter λx=>x.1 !=⟨id,(n:Int),1⟩).filter λx=>x.1 !=⟨id,(n:Int),2⟩}:=by
   rw[<-d7,<-f7]
  rw[d8];refine⟨⟨R'.setS n (endS {s with token:=0}),ek g1,g2,g3,g4,by simpa[Rn.setS]using g5,λj u J=>?_⟩,λa ha=>?_,?_,(List.eraseP_sublist).trans E.tsub,λt p=>?_,(List.filter_sublist.trans List.filter_sublist).trans E.msub,λx=>?_,E.NP,E.now,E.seed,E.NL,E.NK,E.ends,E.sets⟩
  ·show(R'.NN.set n _)[j]?=_
   by_cases I:j=n
   ·subst I
    rw[hs]at J;injection J with J;subst J;rw[List.getElem?_set_self (by rw[g5];omega),if_pos am]
   ·rw[List.getElem?_set_ne (Ne.symm I),g6 j u J]
    by_cases d9:j<n
    ·rw[if_pos d9,if_pos am]
    ·rw[if_neg d9,if_neg am]
  ·show((T.endN id n).setR id _).getR a=_
   rw[gO ha,E.others a ha]
  ·show((T.endN id n).setR id _).runs.map (·.1)=_
   rw[setR_keys,E.keys]
  ·show(t,p)∈(T.endN id n).NQ.eraseP (·.1==s.token)<->_
   rw[pB (jM h.keys E.tsub),E.NQ];constructor
   ·rintro⟨⟨K,O⟩,h3⟩
    refine⟨K,λj J=>?_⟩
    by_cases I:j=n
    ·subst I
     rintro rfl;obtain⟨u,hu,_,h5⟩:=(h.NQ t j).1 K;rw[hs]at hu;injection hu with hu;subst hu;exact h3 h5.symm
    ·exact O j am
   ·rintro⟨K,O⟩
    refine⟨⟨K,λj J=>O j am⟩,λe=>?_⟩
    by_cases h3:s.state=3
    ·have h4:(s.token,(⟨id,(n:Int),0⟩:Pl))∈T.NQ:=(h.NQ _ _).2 ⟨s,hs,h3,rfl⟩
     have:=ik h.keys K h4 e;injection this with _ e2;exact O n am e2
    ·have:=h.idle n s hs h3
     have h5:=h.low _ K;replace e:t=s.token:=e;omega
  ·show x∈((T.endN id n).tms.filter λx=>x.1 !=⟨id,(n:Int),1⟩).filter (λx=>x.1 !=⟨id,(n:Int),2⟩)<->_
   rw[List.mem_filter,List.mem_filter,E.tms];constructor
   ·rintro⟨⟨⟨K,O⟩,h3⟩,h4⟩
    refine⟨K,λj J=>?_⟩
    by_cases I:j=n
    ·subst I
     exact⟨by simpa using h3,by simpa using h4⟩
    ·exact O j am
   ·rintro⟨K,O⟩
    exact⟨⟨⟨K,λj J=>O j am⟩,by simpa using(O n am).1⟩,by simpa using(O n am).2⟩
def RnOk.mono{b:Nat}{R:Rn}(h:RnOk a R)(E:a<=b):RnOk b R:=⟨h.fl,h.len,h.sp,h.ended,Nat.le_trans h.ends E⟩
structure Ended(S U:En)(id:Nat)(st:Int)(R:Rn):Prop where
 run:∃R',U.getR id=some R'/\R'.fl=R.fl/\R'.state=st/\R'.ended=S.ends+1/\R'.NN.length=R.NN.length/\∀(j:Nat) (s:Sp),R.NN[j]?=some s->R'.NN[j]?=some (endS {s with token:=0})
 others:∀a,a≠id->U.getR a=S.getR a
 keys:U.runs.map (·.1)=S.runs.map (·.1)
 tsub:U.NQ.Sublist S.NQ
 NQ:∀t p,(t,p)∈U.NQ<->(t,p)∈S.NQ/\p.run≠id
 msub:U.tms.Sublist S.tms
 tms:∀x,x∈U.tms<->x∈S.tms/\x.1.run≠id
 NP:U.NP=S.NP.filter λp=>p.run !=id
 now:U.now=S.now
 seed:U.seed=S.seed
 NL:U.NL=S.NL
 NK:U.NK=S.NK
 ends:U.ends=S.ends+1
 sets:U.sets=S.sets
section
variable{S:En}{R:Rn}{s:Sp}
def Ok.ended{S:En}(h:Ok S){id:Nat}{R:Rn}(hR:S.getR id=some R)(st:Int):Ended S (S.finish id st) id st R:=by
 rw[xc hR];simp only;obtain⟨RT,d6⟩:∃RT:Rn,RT={R with state:=st,ended:=S.ends+1}:=⟨_,rfl⟩;obtain⟨T,Y⟩:∃T,T=({S with ends:=S.ends+1}.setR id RT).unset ⟨id,-1,0⟩:=⟨_,rfl⟩;rw[<-d6,<-Y];have I:RT.NN=R.NN:=by rw[d6]
 have d8:∀a,T.getR a=if a=id then some RT else S.getR a:=λa=>by
  rw[Y];exact getR_set (S:={S with ends:=S.ends+1}) hR a
 have d7:T.NQ=S.NQ:=by rw[Y];rfl
 have f7:T.tms=S.tms.filter λx=>x.1 !=⟨id,-1,0⟩:=by rw[Y];rfl
 have d9:T.runs.map (·.1)=S.runs.map (·.1):=by rw[Y];exact setR_keys (S:={S with ends:=S.ends+1})
 have ht:TaskAt T id RT:=by
  refine⟨by rw[d8,if_pos rfl],by rw[d7];exact h.tkeys,λt ht=>(h.tlow t (by rw[<-d7];exact ht)).1,λt k=>?_,λk s hs=>?_⟩
  ·rw[d7,h.NQ,I]
   constructor
   ·rintro⟨a,j,s,e,J,O,h3⟩
    obtain⟨rfl,rfl,_⟩:=kx e;obtain⟨R1,E,h4⟩:=jX J;rw[hR]at E;injection E with E;subst E;exact⟨s,h4,O,h3⟩
   ·rintro⟨s,J,O,h3⟩
    exact⟨id,k,s,rfl,jp hR J,O,h3⟩
  ·rw[I]at hs
   obtain⟨n,_,hp⟩:=h.node hR hs;exact hp.idle
 have f8:R.NN.length<=RT.NN.length:=by rw[I];exact cx _
 have K:=Fw ht R.NN.length f8;obtain⟨U,f9⟩:∃U,U=T.endN id R.NN.length:=⟨_,rfl⟩;rw[<-f9]at K ⊢;obtain⟨R',g1,g2,g3,g4,g5,g6⟩:=K.run;have t6:∀t p,(t,p)∈S.NQ->p.run=id->∃j:Nat,j<R.NN.length/\p=⟨id,(j:Int),0⟩:=λt p hm hp=>by
  obtain⟨a,j,s,rfl,J,O,h3⟩:=(h.NQ t p).1 hm;replace hp:a=id:=hp;subst hp;obtain⟨R1,E,h4⟩:=jX J;rw[hR]at E;injection E with E;subst E;exact⟨j,(gfGet.1 h4).1,rfl⟩
 refine⟨⟨R',g1,by rw[g2,d6],by rw[g3,d6],by rw[g4,d6],by rw[g5,I],λj s hj=>?_⟩,λa ha=>?_,?_,?_,λt p=>?_,?_,λx=>?_,?_,?_,?_,?_,?_,?_,?_⟩
 ·have:=g6 j s (by rw[I];exact hj)
  rw[if_pos (gfGet.1 hj).1]at this;exact this
 ·show U.getR a=_
  rw[K.others a ha,d8,if_neg ha]
 ·exact K.keys.trans d9
 ·exact d7▸K.tsub
 ·show(t,p)∈U.NQ<->_
  rw[K.NQ,d7];constructor
  ·rintro⟨J,O⟩
   refine⟨J,λe=>?_⟩;obtain⟨j,hj,he⟩:=t6 t p J e;exact O j hj he
  ·rintro⟨J,O⟩
   refine⟨J,λj _ e=>O ?_⟩;rw[e]
 ·exact K.msub.trans (by rw[f7];exact List.filter_sublist)
 ·show x∈U.tms<->_
  rw[K.tms,f7,List.mem_filter];constructor
  ·rintro⟨⟨J,O⟩,h3⟩
   refine⟨J,λe=>?_⟩;obtain⟨_,R1,E,_,mt⟩:=h.tms x J;obtain⟨⟨p1,p2,p3⟩,x2⟩:=x;subst e;rw[hR]at E;injection E with E;subst E;rcases mt with⟨rfl,rfl⟩|⟨j,u,rfl,e2,e3⟩
   ·simp at O
   ·have hj:=h3 j (gfGet.1 e2).1
    rcases e3 with⟨rfl,_⟩|⟨rfl,_⟩
    ·exact hj.1 rfl
    ·exact hj.2 rfl
  ·rintro⟨J,O⟩
   refine⟨⟨J,?_⟩,λj _=>⟨λe=>O (by rw[e]),λe=>O (by rw[e])⟩⟩;have:x.1≠⟨id,-1,0⟩:=λe=>O (by rw[e]);simpa using this
 ·show U.NP.filter _=_
  rw[K.NP,Y]
  rfl
 ·exact K.now.trans (by rw[Y];rfl)
 ·exact K.seed.trans (by rw[Y];rfl)
 ·exact K.NL.trans (by rw[Y];rfl)
 ·exact K.NK.trans (by rw[Y];rfl)
 ·exact K.ends.trans (by rw[Y];rfl)
 ·exact K.sets.trans (by rw[Y];rfl)
def pC(s:Sp):(endS s).state=5\/(endS s).state=6\/(endS s).state=7:=by
 unfold endS
 split
 ·omega
 ·exact .inr (.inr rfl)
def vt(s:Sp):(endS s).NM=s.NM:=by
 unfold endS
 split<;>rfl
def Eg(s:Sp):(endS s).token=s.token:=by
 unfold endS
 split<;>rfl
def Ok.ends{S U:En}(h:Ok S){id:Nat}{R:Rn}(hR:S.getR id=some R){st:Int}(d9:st≠1)(E:Ended S U id st R):Ok U:=by
 obtain⟨R',g1,g2,g3,g4,g5,g6⟩:=E.run;have hr:=h.run id R hR;have T:∀(j:Nat) (u:Sp),R'.NN[j]?=some u->∃s,R.NN[j]?=some s/\u=endS {s with token:=0}:=λj u hj=>by
  have f8:j<R.NN.length:=by rw[<-g5];exact(gfGet.1 hj).1
  have hs:R.NN[j]?=some R.NN[j]:=List.getElem?_eq_getElem f8;have:=g6 j _ hs;rw[hj]at this;injection this with this;exact⟨_,hs,this⟩
 have J:∀(a j:Nat),a≠id->U.stp a j=S.stp a j:=λa j ha=>by
  unfold En.stp;rw[E.others a ha]
 have d6:∀(j:Nat) (u:Sp),U.stp id j=some u->u.state=5\/u.state=6\/u.state=7:=λj u hj=>by
  obtain⟨R1,K,h4⟩:=jX hj;rw[g1]at K;injection K with K;subst K;obtain⟨s,_,rfl⟩:=T j u h4;exact pC _
 refine⟨by rw[E.now];exact h.now,by rw[E.seed];exact h.seed,by rw[E.keys];exact h.ids,by rw[E.keys,E.NL];exact h.low,?_,λa Ra ha=>?_,jM h.tkeys E.tsub,λt ht=>?_,λt p=>?_,?_,λp=>?_,jM h.knd E.msub,λx hx=>?_⟩
 ·have:=congrArg List.length E.keys
  simp only[List.length_map]at this;have:=h.six;omega
 ·rw[E.ends]
  by_cases d7:a=id
  ·subst d7
   rw[g1]at ha;injection ha with ha;subst ha;refine⟨by rw[g2];exact hr.fl,by rw[g5,g2];exact hr.len,λj u m hj hm=>?_,?_,by rw[g4];exact cx _⟩
   ·obtain⟨s,hs,rfl⟩:=T j u hj
    rw[g2]at hm;have hp:=hr.sp j s m hs hm;have h5:=pC {s with token:=0};have h6:=vt {s with token:=0};have h7:=Eg {s with token:=0};refine⟨am,am,by rw[h6];exact hp.tr0,by rw[h6];exact hp.trb,λe=>by omega,λe=>by omega,λe=>by omega,λ_=>h7,λe=>?_,λ_=>h5⟩;rw[h6];refine hp.dead ?_;unfold endS at e
    split at e
    ·exact e
    ·exact absurd (show(7:Int)=6 from e) fh
   ·rw[g3,g4]
    constructor
    ·intro e;omega
    ·intro e;exact absurd e d9
  ·rw[E.others a d7]at ha
   exact(h.run a Ra ha).mono (Nat.le_succ _)
 ·rw[E.NK]
  exact h.tlow t (E.tsub.subset ht)
 ·rw[E.NQ,h.NQ]
  constructor
  ·rintro⟨⟨a,j,s,rfl,O,Y,h3⟩,I⟩
   exact⟨a,j,s,rfl,by rw[J a j I];exact O,Y,h3⟩
  ·rintro⟨a,j,s,rfl,O,Y,h3⟩
   have I:a≠id:=by
    rintro rfl;have:=d6 j s O;omega
   rw[J a j I]at O;exact⟨⟨a,j,s,rfl,O,Y,h3⟩,I⟩
 ·rw[E.NP]
  exact h.qnd.sublist List.filter_sublist
 ·rw[E.NP,List.mem_filter,h.NP]
  constructor
  ·rintro⟨⟨a,j,s,rfl,O,Y⟩,I⟩
   have d8:a≠id:=by simpa using I
   exact⟨a,j,s,rfl,by rw[J a j d8];exact O,Y⟩
  ·rintro⟨a,j,s,rfl,O,Y⟩
   have I:a≠id:=by
    rintro rfl;have:=d6 j s O;omega
   rw[J a j I]at O;exact⟨⟨a,j,s,rfl,O,Y⟩,by simpa using I⟩
 ·obtain⟨O,Y⟩:=(E.tms x).1 hx
  obtain⟨hb,R1,K,f7⟩:=h.tms x O;exact⟨hb,R1,by rw[E.others _ Y];exact K,f7⟩
def Ok.finish{S:En}(h:Ok S){id:Nat}{R:Rn}(I:S.getR id=some R){st:Int}(E:st≠1):Ok (S.finish id st):=h.ends I E (h.ended I st)
def Ok.settle{S:En}(h:Ok S)(id:Nat):Ok (S.settle id):=by
 unfold En.settle
 split
 ·rename_i R E
  split
  ·exact h.finish E (by split<;>decide)
  ·exact h
 ·exact h
def oF(h:Ok S)(E:S.getR id=some R):S.setR id R=S:=by
 have:(S.runs.map λr=>if r.1==id then(r.1,R) else r)=S.runs:=by
  have T:∀r∈S.runs,(if r.1==id then(r.1,R) else r)=r:=λr J=>by
   by_cases I:r.1=id
   ·have Y:(id,R)∈S.runs:=by
     unfold En.getR at E;cases hf:S.runs.find? (·.1==id)with
     |none=>rw[hf]at E;cases E
     |some x=>
      rw[hf]at E;injection E with E;have h2:=List.mem_of_find?_eq_some hf;have h3:=List.find?_some hf;obtain⟨K,O⟩:=x;have:K=id:=by simpa using h3
      subst this;have:O=R:=E;subst this;exact h2
    have:=ik h.ids J Y I;rw[this];simp
   ·simp[I]
  conv=>rhs;rw[<-List.map_id S.runs]
  exact List.map_congr_left T
 unfold En.setR;rw[this]
theorem Ok.skip1(h:Ok S)(K:S.getR id=some R)(k:Nat):Ok (S.setR id {R with NN:=skipK R.fl.NO R.NN k}):=by
 unfold skipK
 split
 ·rename_i s n O hn
  split
  ·rename_i hc
   have hp:=(h.run id R K).sp k s n O hn;have T:=hp.running am;have h0:=hp.idle am;refine h.turn (S':=S.setR id {R with NN:=R.NN.set k {s with state:=7}}) (s':={s with state:=7}) K O hn h.now rfl setR_keys rfl rfl (getR_set K) ?_ h.tkeys h.tlow ?_ h.qnd ?_ h.knd ?_
   ·exact⟨by show(1:Int)<=7;omega,by show(7:Int)<=7;omega,hp.tr0,hp.trb,λe=>by replace e:(7:Int)=1\/(7:Int)=2\/(7:Int)=4:=e;omega,λe=>by replace e:(7:Int)=1:=e;omega,λe=>by replace e:(7:Int)=3:=e;omega,λ_=>h0,λe=>by replace e:(7:Int)=6:=e;omega,λe=>absurd T e⟩
   ·intro t p
    constructor
    ·intro J
     refine .inl ⟨J,?_⟩;rintro rfl;obtain⟨a,j,u,e,E,h2,h4⟩:=(h.NQ _ _).1 J;obtain⟨rfl,rfl,_⟩:=kx e;rw[jp K O]at E;injection E with E;subst E;omega
    ·rintro(⟨J,d7⟩|⟨e,_⟩)
     ·exact J
     ·replace e:(7:Int)=3:=e
      omega
   ·intro p
    constructor
    ·intro J
     refine .inl ⟨J,?_⟩;rintro rfl;obtain⟨a,j,u,e,E,h2⟩:=(h.NP _).1 J;obtain⟨rfl,rfl,_⟩:=kx e;rw[jp K O]at E;injection E with E;subst E;omega
    ·rintro(⟨J,_⟩|⟨e,_⟩)
     ·exact J
     ·replace e:(7:Int)=2:=e
      omega
   ·intro x hx
    obtain⟨_,R1,I,_,d6⟩:=h.tms x hx;have Y:x.1.run=id->x.1.node=(k:Int)->x.1.what=1\/x.1.what=2->False:=λe1 e2 e3=>by
     rw[e1,K]at I;injection I with I;subst I;rcases d6 with⟨e4,_⟩|⟨j,u,e4,e5,e6⟩
     ·omega
     ·have:k=j:=am
      subst this;rw[O]at e5;injection e5 with e5;subst e5;omega
    refine .inl ⟨hx,λe=>?_,λe=>?_⟩
    ·exact(Y (by rw[e]) (by rw[e]) (by rw[e];exact .inl rfl)).elim
    ·exact(Y (by rw[e]) (by rw[e]) (by rw[e];exact .inr rfl)).elim
  ·rw[show({R with NN:=R.NN}:Rn)=R from rfl,oF h K];exact h
 ·rw[show({R with NN:=R.NN}:Rn)=R from rfl,oF h K];exact h
def Ok.skips{id:Nat}:∀(T:List Nat) {S:En} (_:Ok S) {R:Rn} (_:S.getR id=some R),Ok (S.setR id (R.skips T))
 | [],S,h,R,hR=>by
  show Ok (S.setR id R);rw[oF h hR];exact h
 |k::T,S,h,R,hR=>by
  have E:=h.skip1 hR k;have:=Ok.skips T E (ek hR);rw[setR_setR]at this;exact this
def mE{R':Rn}(E:S.getR id=some R)(I:R.NN[k]?=some s):((S.leave id k).setR id R').getR id=some R':=ek (jZ E I)
def Ok.rests{S:En}(h:Ok S){id k:Nat}{R:Rn}{s:Sp}{n:Node}(K:S.getR id=some R)(J:R.NN[k]?=some s)(O:R.fl.NO[k]?=some n)(h3:s.state=3)(T:s.NM<n.NR)(E:Nat):Ok (S.rests id k R s E):=by
 have Y:=h.part K J O h3 (st:=4) (.inr (.inl ⟨rfl,T⟩));have I:=((h.run id R K).sp k s n J O).running am;have hg:((S.leave id k).setR id (R.turned k s 4)).getR id=some (R.turned k s 4):=mE K J;exact Y.setT (nP _ _) hg ⟨I,.inr ⟨k,_,rfl,setS_at (setS_at J),.inl ⟨rfl,.inr rfl⟩⟩⟩
def Ok.dies{S:En}(h:Ok S){id k:Nat}{R:Rn}{s:Sp}{n:Node}(E:S.getR id=some R)(I:R.NN[k]?=some s)(K:R.fl.NO[k]?=some n)(h3:s.state=3)(O:s.NM=n.NR)(T:List Nat):Ok (S.dies id k R s T):=by
 have Y:=h.part E I K h3 (st:=6) (.inr (.inr ⟨rfl,O⟩));have J:=Ok.skips (id:=id) T Y (mE E I);rw[setR_setR]at J;exact J.settle id
def oa{t:Nat}(I:(S.NQ.find? (·.1==t)).map (·.2)=some ⟨id,(k:Int),0⟩)(J:S.getR id=some R)(E:R.NN[k]?=some s):S.complete t=(((S.leave id k).setR id (R.turned k s 5)).wake id).settle id:=by
 unfold En.complete;rw[I];simp only[Int.toNat_natCast];rw[tU _ (jZ J E) (setS_at E)]
 rfl
def Ok.find{S:En}(h:Ok S){t:Nat}{p:Pl}(E:(S.NQ.find? (·.1==t)).map (·.2)=some p):∃(id k:Nat) (R:Rn) (s:Sp) (n:Node),p=⟨id,(k:Int),0⟩/\S.getR id=some R/\R.NN[k]?=some s/\R.fl.NO[k]?=some n/\s.state=3/\s.token=t:=by
 cases hf:S.NQ.find? (·.1==t)with
 |none=>rw[hf]at E;cases E
 |some x=>
  rw[hf]at E;injection E with E;have h2:=List.mem_of_find?_eq_some hf;have h3:=List.find?_some hf;obtain⟨K,O⟩:=x;have:K=t:=by simpa using h3
  subst this;have:O=p:=E;subst this;obtain⟨id,k,s,e,T,Y,h6⟩:=(h.NQ _ _).1 h2;obtain⟨R,I,J⟩:=jX T;obtain⟨n,hn,_⟩:=h.node I J;exact⟨id,k,R,s,n,e,I,J,hn,Y,h6⟩
def Ok.complete{S:En}(h:Ok S)(t:Nat):Ok (S.complete t):=by
 cases hf:(S.NQ.find? (·.1==t)).map (·.2)with
 |none=>unfold En.complete;rw[hf];exact h
 |some p=>
  obtain⟨id,k,R,s,n,rfl,E,I,J,h3,_⟩:=h.find hf;rw[oa hf E I];exact((h.part E I J h3 (st:=5) (.inl rfl)).wake id).settle id
def yb{q:List Pl}{n:Node}:S.hand ⟨id,(k:Int),0⟩ q R s n=(((S.handT id k q R s).setT ⟨id,(k:Int),1⟩ (S.later n.close.toNat)).life ⟨id,(k:Int),0⟩ n):=by
 unfold En.hand En.handT;simp only[Int.toNat_natCast]
 rfl
def Ok.hand{S:En}(h:Ok S){id k:Nat}{q:List Pl}(T:S.NP=⟨id,(k:Int),0⟩::q){R:Rn}{s:Sp}{n:Node}(J:S.getR id=some R)(I:R.NN[k]?=some s)(K:R.fl.NO[k]?=some n):Ok (S.hand ⟨id,(k:Int),0⟩ q R s n):=by
 obtain⟨Y,hk⟩:=h.handT T J I K;rw[yb];have E:=((h.run id R J).sp k s n I K).running am;have O:(S.handT id k q R s).getR id=some (R.setS k ⟨3,s.NM+1,S.NK+1⟩):=ek J;exact Ok.life (hk.setT (R:=R.setS k ⟨3,s.NM+1,S.NK+1⟩) (nP _ _) O ⟨E,.inr ⟨k,_,rfl,setS_at I,.inl ⟨rfl,.inl rfl⟩⟩⟩) n O (setS_at I) rfl
end
section
variable{T:List Nat}{S:En}{ns:List Node}{f:Flow}{l:List Sp}
def Ok.fresh:Ok En.fresh where
 now:=by decide
 seed:=by decide
 ids:=by simp[En.fresh]
 low:=by simp[En.fresh]
 six:=by simp[En.fresh]
 run:=by simp[En.fresh,En.getR]
 tkeys:=by simp[En.fresh]
 tlow:=by simp[En.fresh]
 NQ:=by simp[En.fresh,En.stp,En.getR]
 qnd:=by simp[En.fresh]
 NP:=by simp[En.fresh,En.stp,En.getR]
 knd:=by simp[En.fresh]
 tms:=by simp[En.fresh]
theorem r4{id a:Nat}:∀{l:List (Nat×Rn)},(l.map (·.1)).Nodup->(l.eraseP (·.1==id)).find? (·.1==a)=if a=id then none else l.find? (·.1==a)
 | [],_=>by simp
 |x::l,hn=>by
  simp only[List.map_cons,List.nodup_cons]at hn;rw[List.eraseP_cons]
  by_cases I:x.1=id
  ·have:(x.1==id)=true:=by simpa using I
   rw[this,cond_true]
   by_cases E:a=id
   ·rw[if_pos E,List.find?_eq_none]
    intro y J e;have:y.1=a:=by simpa using e
    exact hn.1 (by rw[I,<-E,<-this];exact List.mem_map_of_mem (f:=(·.1)) J)
   ·rw[if_neg E,List.find?_cons]
    have:(x.1==a)=false:=by simp;omega
    rw[this]
  ·have:(x.1==id)=false:=by simpa using I
   rw[this,cond_false,List.find?_cons,List.find?_cons,r4 hn.2]
   by_cases E:a=id
   ·rw[if_pos E,if_pos E]
    have:(x.1==a)=false:=by simp;omega
    rw[this]
   ·rw[if_neg E,if_neg E]
theorem D5(h:(S.runs.map (·.1)).Nodup)(id a:Nat):(S.unrun id).getR a=if a=id then none else S.getR a:=by
 unfold En.getR En.unrun;simp only;rw[r4 h]
 split<;>rfl
def Ok.unrun{S:En}(h:Ok S){id:Nat}{R:Rn}(hR:S.getR id=some R)(d6:R.state≠1):Ok (S.unrun id):=by
 have hg:=D5 h.ids id;have O:∀(j:Nat) (u:Sp),S.stp id j=some u->u.state=5\/u.state=6\/u.state=7:=λj u hj=>by
  obtain⟨R1,E,h4⟩:=jX hj;rw[hR]at E;injection E with E;subst E;obtain⟨n,_,hp⟩:=h.node hR h4;exact hp.over d6
 have J:∀(a j:Nat),a≠id->(S.unrun id).stp a j=S.stp a j:=λa j K=>by
  unfold En.stp;rw[hg,if_neg K]
 have hno:∀j,(S.unrun id).stp id j=none:=λj=>by
  unfold En.stp;rw[hg,if_pos rfl]
  rfl
 have Y:(S.unrun id).runs.Sublist S.runs:=List.eraseP_sublist;refine⟨h.now,h.seed,jM h.ids Y,λi hi=>h.low i ((Y.map _).subset hi),Nat.le_trans Y.length_le h.six,λa Ra K=>?_,h.tkeys,h.tlow,λt p=>?_,h.qnd,λp=>?_,h.knd,λx hx=>?_⟩
 ·rw[hg]at K
  split at K
  ·cases K
  ·exact h.run a Ra K
 ·show(t,p)∈S.NQ<->_
  rw[h.NQ];constructor
  ·rintro⟨a,j,s,rfl,I,h2,h3⟩
   refine⟨a,j,s,rfl,?_,h2,h3⟩;rw[J a j]
   ·exact I
   ·rintro rfl
    have:=O j s I;omega
  ·rintro⟨a,j,s,rfl,I,h2,h3⟩
   by_cases K:a=id
   ·subst K
    rw[hno]at I;cases I
   ·rw[J a j K]at I
    exact⟨a,j,s,rfl,I,h2,h3⟩
 ·show p∈S.NP<->_
  rw[h.NP];constructor
  ·rintro⟨a,j,s,rfl,I,h2⟩
   refine⟨a,j,s,rfl,?_,h2⟩;rw[J a j]
   ·exact I
   ·rintro rfl
    have:=O j s I;omega
  ·rintro⟨a,j,s,rfl,I,h2⟩
   by_cases K:a=id
   ·subst K
    rw[hno]at I;cases I
   ·rw[J a j K]at I
    exact⟨a,j,s,rfl,I,h2⟩
 ·obtain⟨hb,R1,E,I,d7⟩:=h.tms x hx
  refine⟨hb,R1,?_,I,d7⟩;rw[hg,if_neg]
  ·exact E
  ·intro e
   rw[e,hR]at E;injection E with E;subst E;exact d6 I
def En.roomy(S:En):Bool:=S.runs.any (λr=>decide (0<r.2.ended))||decide (S.runs.length<6)
def uo(h:(S.runs.map (·.1)).Nodup){R:Rn}(E:(id,R)∈S.runs):S.getR id=some R:=by
 unfold En.getR;cases hf:S.runs.find? (·.1==id)with
 |none=>
  rw[List.find?_eq_none]at hf;have:=hf _ E;simp at this
 |some x=>
  have I:=List.mem_of_find?_eq_some hf;have h3:x.1=id:=by simpa using List.find?_some hf
  have:=ik h I E h3;rw[this]
  rfl
def kX{R:Rn}(E:S.getR id=some R):(id,R)∈S.runs:=by
 unfold En.getR at E;cases hf:S.runs.find? (·.1==id)with
 |none=>rw[hf]at E;cases E
 |some x=>
  rw[hf]at E;injection E with E;have K:=List.mem_of_find?_eq_some hf;have h3:=List.find?_some hf;obtain⟨I,J⟩:=x;have:I=id:=by simpa using h3
  subst this;have:J=R:=E;subst this;exact K
def Ok.cut{S0:En}(h:Ok S)(I:S.roomy=true)(hc:Cut S S0):Ok S0/\S0.runs.length<=5/\S0.NL=S.NL/\S0.NP=S.NP/\S0.tms=S.tms/\S0.sets=S.sets/\S0.now=S.now:=by
 unfold Cut at hc
 split at hc
 ·rename_i h6
  obtain⟨o,⟨J,K⟩,rfl⟩:=hc;unfold En.roomy at I;rw[h6]at I;simp only[Nat.lt_irrefl,decide_false,Bool.or_false,List.any_eq_true,decide_eq_true_eq]at I;obtain⟨r,O,Y⟩:=I;obtain⟨m,rfl,_⟩:=K r O Y;obtain⟨E,d6⟩:=J m rfl;obtain⟨id,R⟩:=m;have hR:=uo h.ids E;have d7:R.state≠1:=λe=>by
   have:=(h.run id R hR).ended.2 e;simp only at d6;omega
  refine⟨h.unrun hR d7,?_,rfl,rfl,rfl,rfl,rfl⟩;show(S.runs.eraseP (·.1==id)).length<=5;rw[List.length_eraseP_of_mem E di];omega
 ·subst hc
  have:=h.six;exact⟨h,am,rfl,rfl,rfl,rfl,rfl⟩
def xt(h:Ok S)(fl:Flow)(a:Nat):(S.begin fl).getR a=if a=S.NL+1 then some (Rn.begun fl) else S.getR a:=by
 by_cases I:a=S.NL+1
 ·subst I
  rw[if_pos rfl];exact vm λr E=>(h.low r.1 (List.mem_map_of_mem (f:=(·.1)) E)).2
 ·rw[if_neg I]
  unfold En.getR En.begin;simp only;rw[List.find?_append];have:([(S.NL+1,Rn.begun fl)]:List (Nat×Rn)).find? (·.1==a)=none:=by
   rw[List.find?_eq_none];intro r E;rw[List.mem_singleton]at E;subst E;simp;omega
  rw[this];simp
def Az{fl:Flow}{s:Sp}(h:(Rn.begun fl).NN[k]?=some s):s=s1:=by
 have:=cg h;exact List.eq_of_mem_replicate this
def Ok.begin{S:En}(h:Ok S)(h5:S.runs.length<=5){fl:Flow}(hf:Fit fl):Ok (S.begin fl):=by
 have hg:=xt h fl;have O:S.getR (S.NL+1)=none:=by
  cases hR:S.getR (S.NL+1)with
  |none=>rfl
  |some R=>
   have:=(h.low _ (List.mem_map_of_mem (f:=(·.1)) (kX hR))).2;omega
 have Y:∀(a j:Nat) (s:Sp),(S.begin fl).stp a j=some s->s=s1\/S.stp a j=some s:=λa j s hs=>by
  obtain⟨R,hR,h4⟩:=jX hs;rw[hg]at hR
  split at hR
  ·injection hR with hR
   subst hR;exact .inl (Az h4)
  ·exact .inr (jp hR h4)
 have J:∀(a j:Nat) (s:Sp),S.stp a j=some s->(S.begin fl).stp a j=some s:=λa j s hs=>by
  obtain⟨R,hR,h4⟩:=jX hs;refine jp ?_ h4;rw[hg,if_neg]
  ·exact hR
  ·rintro rfl
   rw[O]at hR;cases hR
 refine⟨h.now,h.seed,?_,λi hi=>?_,?_,λa Ra ha=>?_,h.tkeys,h.tlow,λt p=>?_,h.qnd,λp=>?_,h.knd,λx hx=>?_⟩
 ·show((S.runs++[(S.NL+1,Rn.begun fl)]).map (·.1)).Nodup
  rw[List.map_append,List.nodup_append];refine⟨h.ids,by simp,?_⟩;intro x hx y hy;simp at hy;subst hy;have:=h.low x hx;omega
 ·show 1<=i/\i<=S.NL+1
  have E:i∈(S.runs++[(S.NL+1,Rn.begun fl)]).map (·.1):=hi;rw[List.map_append,List.mem_append]at E;rcases E with E|E
  ·have:=h.low i E
   omega
  ·simp at E
   omega
 ·show(S.runs++[_]).length<=6
  simp;omega
 ·rw[hg]at ha
  split at ha
  ·injection ha with ha
   subst ha;refine⟨hf,by simp[Rn.begun],λk s n hs hn=>?_,by simp[Rn.begun],Nat.zero_le _⟩;rw[Az hs];have hb:=(hf.NO k n (eK hn) hn).1;obtain⟨b1,b2,_⟩:=hb;exact⟨by decide,by decide,by decide,by show 0<=n.NR;omega,λ_=>by show 0<n.NR;omega,λ_=>rfl,λe=>absurd e fh,λ_=>rfl,λe=>absurd e fh,λe=>absurd rfl e⟩
  ·exact h.run a Ra ha
 ·show(t,p)∈S.NQ<->_
  rw[h.NQ];constructor
  ·rintro⟨a,j,s,rfl,I,K,h3⟩
   exact⟨a,j,s,rfl,J a j s I,K,h3⟩
  ·rintro⟨a,j,s,rfl,I,K,h3⟩
   rcases Y a j s I with rfl|I
   ·exact absurd K fh
   ·exact⟨a,j,s,rfl,I,K,h3⟩
 ·show p∈S.NP<->_
  rw[h.NP];constructor
  ·rintro⟨a,j,s,rfl,I,K⟩
   exact⟨a,j,s,rfl,J a j s I,K⟩
  ·rintro⟨a,j,s,rfl,I,K⟩
   rcases Y a j s I with rfl|I
   ·exact absurd K fh
   ·exact⟨a,j,s,rfl,I,K⟩
 ·obtain⟨hb,R1,d6,d7⟩:=h.tms x hx
  refine⟨hb,R1,?_,d7⟩;rw[hg,if_neg]
  ·exact d6
  ·intro e
   rw[e,O]at d6;cases d6
def Ok.submit{S:En}(h:Ok S)(E:S.runs.length<=5){fl:Flow}(I:Fit fl):Ok (S.submit fl):=by
 have J:=h.begin E I;have K:(S.begin fl).getR (S.NL+1)=some (Rn.begun fl):=by rw[xt h,if_pos rfl]
 exact(J.setT (p:=⟨S.NL+1,-1,0⟩) (nP S _) K ⟨rfl,.inl ⟨rfl,rfl⟩⟩).wake _
def mj{α:Type}[DecidableEq α]:∀{l m:List α},l.Nodup->(∀x∈l,x∈m)->l.length<=m.length
 | [],_,_,_=>Nat.zero_le _
 |x::l,m,hn,hs=>by
  rw[List.nodup_cons]at hn;have I:=hs x (.head _);have:=mj (l:=l) (m:=m.erase x) hn.2 λy E=>by
   refine(List.mem_erase_of_ne ?_).2 (hs y (.tail _ E));rintro rfl;exact hn.1 E
  rw[List.length_erase_of_mem I]at this;have:=List.length_pos_of_mem I;simp only[List.length_cons];omega
def flat_len{α β:Type}{f:α->List β}{n:Nat}:∀(l:List α),(∀x,(f x).length=n)->(l.flatMap f).length=l.length*n
 | [],_=>by simp
 |x::l,h=>by
  rw[List.flatMap_cons,List.length_append,h,flat_len l h,List.length_cons,Nat.succ_mul,Nat.add_comm]
theorem Id(h:Ok S){s:Sp}(J:S.stp id k=some s):id∈S.runs.map (·.1)/\k<12:=by
 obtain⟨R,E,K⟩:=jX J;have I:=h.run id R E;have:=(gfGet.1 K).1;have:=I.fl.head.2.2;have:=I.len;exact⟨List.mem_map_of_mem (f:=(·.1)) (kX E),am⟩
def Ok.queueLe(h:Ok S):S.NP.length<=72:=by
 have:=mj (m:=(S.runs.map (·.1)).flatMap λi=>(List.range 12).map λ(k:Nat)=>(⟨i,(k:Int),0⟩:Pl)) h.qnd λp E=>by
  obtain⟨a,j,s,rfl,I,K⟩:=(h.NP p).1 E;obtain⟨h3,J⟩:=Id h I;exact List.mem_flatMap.2 ⟨a,h3,List.mem_map.2 ⟨j,List.mem_range.2 J,rfl⟩⟩
 rw[flat_len (n:=12) _ (λ_=>by simp)]at this;have O:=h.six;rw[List.length_map]at this;omega
def Ok.tmsLe(h:Ok S):S.tms.length<=150:=by
 have:=mj (m:=(S.runs.map (·.1)).flatMap λi=>(⟨i,-1,0⟩:Pl)::((List.range 12).map λ(k:Nat)=>(⟨i,(k:Int),1⟩:Pl))++(List.range 12).map λ(k:Nat)=>(⟨i,(k:Int),2⟩:Pl)) h.knd λp K=>by
  obtain⟨x,O,rfl⟩:=List.mem_map.1 K;obtain⟨_,R,J,_,I⟩:=h.tms x O;obtain⟨⟨p1,p2,p3⟩,x2⟩:=x;refine List.mem_flatMap.2 ⟨p1,List.mem_map_of_mem (f:=(·.1)) (kX J),?_⟩;rcases I with⟨rfl,rfl⟩|⟨k,s,rfl,Y,h2⟩
  ·simp
  ·have E:=(Id h (jp J Y)).2
   rw[List.mem_append,List.mem_cons];rcases h2 with⟨rfl,_⟩|⟨rfl,_⟩
   ·exact .inl (.inr (List.mem_map.2 ⟨k,List.mem_range.2 E,rfl⟩))
   ·exact .inr (List.mem_map.2 ⟨k,List.mem_range.2 E,rfl⟩)
 rw[flat_len (n:=25) _ (λ_=>by simp),List.length_map,List.length_map]at this;have h6:=h.six;omega
def j4{l':List Sp}(h:l[k]?=l'[k]?):cY l k x=cY l' k x:=by
 unfold cY;rw[h]
theorem rp{n:Node}(J:ns[k]?=some n)(l:List Sp):(n.after.any λu=>cY l u.toNat 6||cY l u.toNat 7)=true<->∃u∈aft ns k,cY l u 6=true\/cY l u 7=true:=by
 unfold aft;rw[J];simp only[List.any_eq_true,Bool.or_eq_true,List.mem_map];constructor
 ·rintro⟨u,E,I⟩
  exact⟨u.toNat,⟨u,E,rfl⟩,I⟩
 ·rintro⟨_,⟨u,E,rfl⟩,I⟩
  exact⟨u,E,I⟩
def tX(ns:List Node)(T:List Nat):Prop:=T.Nodup/\∀a i b,T=a++i::b->∀u∈aft ns i,u∈a
def nN{ns:List Node}{l:List Sp}(hl:l.length=ns.length):∀(m:Nat) (T:List Nat),T.length=m->tX ns T->∀(j:Nat) (s:Sp),l[j]?=some s->(j∈T/\s.state=1/\(∃u∈aft ns j,cY (T.foldl (skipK ns) l) u 6=true\/cY (T.foldl (skipK ns) l) u 7=true)->(T.foldl (skipK ns) l)[j]?=some {s with state:=7})/\(¬(j∈T/\s.state=1/\(∃u∈aft ns j,cY (T.foldl (skipK ns) l) u 6=true\/cY (T.foldl (skipK ns) l) u 7=true))->(T.foldl (skipK ns) l)[j]?=some s)
 |0,T,hm,_,j,s,hs=>by
  have:T=[]:=List.eq_nil_of_length_eq_zero hm;subst this;exact⟨λh=>by simp at h,λ_=>hs⟩
 |m+1,T,hm,hb,j,s,hs=>by
  obtain⟨a,k,rfl⟩:∃a k,T=a++[k]:=⟨T.dropLast,T.getLast (by rintro rfl;simp at hm),(List.dropLast_concat_getLast _).symm⟩;have hk:k∉a:=by
   have:=hb.1;rw[List.nodup_append]at this;intro hk;exact this.2.2 k hk k di rfl
  have d6:tX ns a:=⟨(List.nodup_append.1 hb.1).1,λx i y e u I=>hb.2 x i (y++[k]) (by rw[e];simp) u I⟩;have ih:=nN hl m a (by simpa using hm) d6;have hF:(a++[k]).foldl (skipK ns) l=skipK ns (a.foldl (skipK ns) l) k:=by rw[List.foldl_append];rfl
  rw[hF];obtain⟨A,hA⟩:∃A,A=a.foldl (skipK ns) l:=⟨_,rfl⟩;rw[<-hA]at ih ⊢;have J:∀i,i≠k->(skipK ns A k)[i]?=A[i]?:=λi hi=>by
   unfold skipK
   split
   ·split
    ·rw[List.getElem?_set_ne (Ne.symm hi)]
    ·rfl
   ·rfl
  have d7:∀u∈aft ns k,u∈a:=hb.2 a k [] rfl;have d8:∀i∈a++[k],∀u∈aft ns i,u≠k:=λi hi u I=>by
   rcases List.mem_append.1 hi with hi|hi
   ·obtain⟨x,y,e⟩:=List.append_of_mem hi
    have:u∈x:=d6.2 x i y e u I;rintro rfl;exact hk (by rw[e];exact List.mem_append_left _ this)
   ·rw[List.mem_singleton]at hi
    subst hi;rintro rfl;exact hk (d7 _ I)
  by_cases hj:j=k
  ·subst hj
   have K:A[j]?=some s:=(ih j s hs).2 (λh=>hk h.1);obtain⟨n,hn⟩:∃n,ns[j]?=some n:=⟨ns[j]'(by rw[<-hl];exact(gfGet.1 hs).1),by simp⟩;have E:∀u∈aft ns j,∀x,cY (skipK ns A j) u x=cY A u x:=λu I x=>j4 (J u (d8 j di u I));have O:(∃u∈aft ns j,cY (skipK ns A j) u 6=true\/cY (skipK ns A j) u 7=true)<->∃u∈aft ns j,cY A u 6=true\/cY A u 7=true:=by
    constructor
    ·rintro⟨u,I,h⟩
     rw[E u I,E u I]at h;exact⟨u,I,h⟩
    ·rintro⟨u,I,h⟩
     refine⟨u,I,?_⟩;rw[E u I,E u I];exact h
   rw[O];have d9:=(gfGet.1 K).1;unfold skipK;rw[K,hn];simp only;have ha:=rp hn A;constructor
   ·rintro⟨_,h2,h3⟩
    rw[if_pos ⟨h2,ha.2 h3⟩,List.getElem?_set_self d9]
   ·intro h
    rw[if_neg λh'=>h ⟨by simp,h'.1,ha.1 h'.2⟩];exact K
  ·have f7:j∈a++[k]<->j∈a:=by simp[hj]
   rw[f7,J j hj]
   by_cases Y:j∈a
   ·have E:∀u∈aft ns j,∀x,cY (skipK ns A k) u x=cY A u x:=λu I x=>j4 (J u (d8 j (by simp[Y]) u I))
    have O:(∃u∈aft ns j,cY (skipK ns A k) u 6=true\/cY (skipK ns A k) u 7=true)<->∃u∈aft ns j,cY A u 6=true\/cY A u 7=true:=by
     constructor
     ·rintro⟨u,I,h⟩
      rw[E u I,E u I]at h;exact⟨u,I,h⟩
     ·rintro⟨u,I,h⟩
      refine⟨u,I,?_⟩;rw[E u I,E u I];exact h
    rw[O];exact ih j s hs
   ·refine⟨λh=>absurd h.1 Y,λ_=>(ih j s hs).2 λh=>Y h.1⟩
def IY(O:l.length=ns.length)(hb:tX ns T)(d6:tX ns un)(hT:∀j,j<ns.length->j∈T)(d7:∀j,j<ns.length->j∈un)(Y:∀i,∀k∈aft ns i,k<ns.length)(d8:∀i,i<ns.length->Ac ns i):T.foldl (skipK ns) l=un.foldl (skipK ns) l:=by
 have key:∀j,Ac ns j->j<ns.length->(T.foldl (skipK ns) l)[j]?=(un.foldl (skipK ns) l)[j]?:=by
  intro j h
  induction h with
  |mk i _ ih=>
   intro hi;obtain⟨s,hs⟩:∃s,l[i]?=some s:=⟨l[i]'(by rw[O];exact hi),by simp⟩;have a1:=nN O T.length T rfl hb i s hs;have a2:=nN O un.length un rfl d6 i s hs;have K:(∃u∈aft ns i,cY (T.foldl (skipK ns) l) u 6=true\/cY (T.foldl (skipK ns) l) u 7=true)<->∃u∈aft ns i,cY (un.foldl (skipK ns) l) u 6=true\/cY (un.foldl (skipK ns) l) u 7=true:=by
    constructor
    ·rintro⟨u,E,h⟩
     refine⟨u,E,?_⟩;rw[<-j4 (x:=6) (ih u E (Y i u E)),<-j4 (x:=7) (ih u E (Y i u E))];exact h
    ·rintro⟨u,E,h⟩
     refine⟨u,E,?_⟩;rw[j4 (x:=6) (ih u E (Y i u E)),j4 (x:=7) (ih u E (Y i u E))];exact h
   by_cases hc:s.state=1/\∃u∈aft ns i,cY (un.foldl (skipK ns) l) u 6=true\/cY (un.foldl (skipK ns) l) u 7=true
   ·rw[a1.1 ⟨hT i hi,hc.1,K.2 hc.2⟩,a2.1 ⟨d7 i hi,hc⟩]
   ·rw[a1.2 λh=>hc ⟨h.2.1,K.1 h.2.2⟩,a2.2 λh=>hc h.2]
 have J:∀(T:List Nat),(T.foldl (skipK ns) l).length=ns.length:=λT=>by rw[mz,O]
 apply List.ext_getElem?;intro j
 by_cases hj:j<ns.length
 ·exact key j (d8 j hj) hj
 ·rw[List.getElem?_eq_none (by rw[J];omega),List.getElem?_eq_none (by rw[J];omega)]
noncomputable def lS(ns:List Node):List Nat:=open Classical in if h:∃T,Ordering ns 0 T then h.choose else[]
theorem yh(h:Fit f):∀i,∀k∈aft f.NO i,k<f.NO.length:=λi k hk=>by
 unfold aft at hk
 split at hk
 ·rename_i n I
  obtain⟨x,E,rfl⟩:=List.mem_map.1 hk;have J:=(h.NO i n (eK I) I).2;have:∀(l:List Int) (p:Int),-1<=p->EdgesOk f.NO.length p l->∀x∈l,0<=x/\x<f.NO.length:=by
   intro l
   induction l with
   |nil=>intro _ _ _ x E;simp at E
   |cons y l K=>
    intro p hp h x E;obtain⟨O,Y,h3⟩:=h;rcases List.mem_cons.1 E with rfl|E
    ·omega
    ·exact K y am h3 x E
  have:=this _ _ am J x E;omega
 ·cases hk
def Ordering.full(h:Ordering ns 0 T):(∀j,j<ns.length->j∈T):=λj E=>by
 refine Classical.byContradiction λI=>?_;have:=(h.bits j).2 ⟨E,I⟩;simp at this
def Ordering.beh(I:Fit f){left:Nat}(h:Ordering f.NO left T):tX f.NO T:=⟨h.nodup,λa i b e u E=>h.behind a i b e u E (yh I i u E)⟩
def Ordering.zero(E:Fit f){left:Nat}(h:Ordering f.NO left T)(I:∀i,left.testBit i=true->∃k∈aft f.NO i,left.testBit k=true):left=0:=by
 refine Nat.eq_of_testBit_eq λi=>?_;rw[Nat.zero_testBit];cases hb:left.testBit i with
 |false=>rfl
 |true=>
  have:=(h.stuck (yh E) I i).1 hb;exact absurd (E.ac i this.1) this.2
def KK(E:Fit f){left:Nat}(h:Ordering f.NO left T)(K:∀i,left.testBit i=true->∃k∈aft f.NO i,left.testBit k=true)(l:List Sp)(O:l.length=f.NO.length):T.foldl (skipK f.NO) l=(lS f.NO).foldl (skipK f.NO) l:=by
 have Y:=h.zero E K;subst Y;have I:∃T,Ordering f.NO 0 T:=⟨T,h⟩;have J:Ordering f.NO 0 (lS f.NO):=by
  unfold lS;rw[dif_pos I];exact I.choose_spec
 exact IY O (h.beh E) (J.beh E) h.full J.full (yh E) E.ac
end
end FK
