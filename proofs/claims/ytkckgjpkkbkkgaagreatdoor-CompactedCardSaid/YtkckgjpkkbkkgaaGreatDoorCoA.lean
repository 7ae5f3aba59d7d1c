/- Short names. -/
section
variable {p:Prop} {α:Type _}
theorem ai (h:p:=by omega):p:=h
theorem cP (h:p:=by simp):p:=h
theorem di (h:p:=by decide):p:=h
theorem ii (h:p:=by first|decide|simp|(simp;omega)):p:=h
theorem gfGet {l:List α} {i:Nat} {a:α}:l[i]?=some a<->∃h:i<l.length,l[i]=a:=List.getElem?_eq_some_iff
theorem du {l:List α} {i:Nat} {a:α} (h:l[i]?=some a):a∈l:=List.mem_of_getElem? h
theorem cm (n:Nat):n<=n:=Nat.le_refl n
theorem Dg [d:Decidable p] (h:¬p):decide p=false:=decide_eq_false h
theorem zR [d:Decidable p] (h:p):decide p=true:=decide_eq_true h

end

namespace FK
structure Node where
 Lz:Int
 close:Int
 beat:Int
 base:Int
 cap:Int
 LA:Int
 after:List Int
 deriving Inhabited
structure Flow where
 deadline:Int
 Lw:List Node
 deriving Inhabited
def fP (l:List Node) (i:Nat):List Nat:=match l[i]? with|some n=>n.after.map Int.toNat|none=>[]
inductive Ac (l:List Node):Nat->Prop where
 | mk (i:Nat) (h:∀k,k∈fP l i->Ac l k):Ac l i
theorem qb:∀t w,w.testBit t=true->(∀j,j<t->w.testBit j=false)->
 ∀j,(w&&&(w-1)).testBit j=(w.testBit j&&decide (j≠t)):=by
 intro t
 induction t with
 | zero=>
  intro w E _ j;have Y:w%2=1:=by simpa[Nat.testBit_zero] using E
  rw[Nat.testBit_and];cases j with
  | zero=>simp[Nat.testBit_zero];omega
  | succ j=>
   rw[Nat.testBit_succ,Nat.testBit_succ,show(w-1)/2=w/2 by omega];simp
 | succ t O=>
  intro w E K j;have he:w%2=0:=by
   have:=K 0 ai;simp[Nat.testBit_zero] at this;omega
  have hp:0<w:=by
   rcases Nat.eq_zero_or_pos w with h|h
   · subst h;simp at E
   · exact h
  rw[Nat.testBit_succ] at E;have I:=O (w/2) E (λj T=>by have:=K (j+1) ai;rwa [Nat.testBit_succ] at this);rw[Nat.testBit_and];cases j with
  | zero=>simp[Nat.testBit_zero];omega
  | succ j=>
   have:=I j;rw[Nat.testBit_and] at this;rw[Nat.testBit_succ,Nat.testBit_succ,show(w-1)/2=w/2-1 by omega,this];simp
def mask:List Nat->Nat
 | []=>0
 | k::l=>(1<<<k)|||mask l
theorem mI (k j:Nat):(1<<<k).testBit j=decide (j=k):=by
 rw[Nat.one_shiftLeft,Nat.testBit_two_pow];simp[eq_comm]
theorem ph (l:List Nat) (j:Nat):(mask l).testBit j=decide (j∈l):=by
 induction l with
 | nil=>simp[mask]
 | cons k l E=>rw[mask,Nat.testBit_or,E,mI];simp
theorem yV (a b:List Nat):mask (a++b)=mask a|||mask b:=by
 induction a with
 | nil=>simp[mask]
 | cons k a E=>simp[mask,E,Nat.or_assoc]
theorem qW (a b:Nat):a&&&b=0<->∀j,¬(a.testBit j=true/\b.testBit j=true):=by
 constructor
 · intro h j
   have:=congrArg (λx=>x.testBit j) h;simp[Nat.testBit_and] at this;intro ⟨E,I⟩;simp[E,I] at this
 · intro h
   apply Nat.eq_of_testBit_eq;intro j;have:=h j;rw[Nat.testBit_and,Nat.zero_testBit];cases E:a.testBit j<;>cases I:b.testBit j<;>simp_all
theorem n4 (l:List Nat) (left:Nat):mask l&&&left=0<->∀k∈l,left.testBit k=false:=by
 rw[qW];constructor
 · intro h k K
   have:=h k;rw[ph] at this;simp[K] at this;exact this
 · intro h j ⟨E,I⟩
   rw[ph] at E;have:=h j (by simpa using E);rw[this] at I;cases I
structure Ordering (l:List Node) (left:Nat) (told:List Nat):Prop where
 bits:∀i,left.testBit i=true<->i<l.length/\i∉told
 lt:∀i∈told,i<l.length
 nodup:told.Nodup
 behind:∀a i b,told=a++i::b->∀k∈fP l i,k<l.length->k∈a
section
variable {l:List Node} {told:List Nat}
theorem Ordering.start (l:List Node):Ordering l (2 ^ l.length-1) [] where
 bits:=by intro i;simp[Nat.testBit_two_pow_sub_one]
 lt:=by simp
 nodup:=by simp
 behind:=by intro a i b h;simp at h
theorem Ordering.tell {left:Nat} (h:Ordering l left told) {i:Nat} (hi:left.testBit i=true)
 (hn:∀k∈fP l i,left.testBit k=false) {E:Nat} (hl:∀j,E.testBit j=(left.testBit j&&decide (j≠i))):Ordering l E (told++[i]) where
 bits:=by
  intro j;rw[hl j];have:=h.bits j;simp;constructor
  · rintro⟨K,O⟩;exact⟨(this.1 K).1,(this.1 K).2,O⟩
  · rintro⟨K,O,h3⟩;exact⟨this.2 ⟨K,O⟩,h3⟩
 lt:=by
  intro j hj;simp at hj;rcases hj with hj|rfl
  · exact h.lt j hj
  · exact((h.bits j).1 hi).1
 nodup:=by
  rw[List.nodup_append];refine⟨h.nodup,by simp,?_⟩;intro a ha b T;simp at T;subst T;rintro rfl;exact((h.bits _).1 hi).2 ha
 behind:=by
  intro a j b I k hk Y;rcases List.eq_nil_or_concat b with rfl|⟨b',x,rfl⟩
  · have:=List.append_inj' I cP
    obtain⟨K,O⟩:=this;simp at O;subst O;subst K;have:=hn k hk;have T:=h.bits k;rw[this] at T;simp[Y] at T;exact T
  · rw[List.concat_eq_append,<-List.cons_append,<-List.append_assoc] at I
    have:=(List.append_inj' I cP).1;exact h.behind a j b' this k hk Y
theorem Ordering.ac {left:Nat} (h:Ordering l left told) (Y:∀i,∀k∈fP l i,k<l.length):∀i∈told,Ac l i:=by
 have key:∀n,∀a b,told=a++b->a.length=n->∀i∈a,Ac l i:=by
  intro n
  induction n using Nat.strongRecOn with
  | _ n ih=>
   intro a b E I i hi;obtain⟨K,T,rfl⟩:=List.append_of_mem hi;refine .mk i λk O=>?_;have:=h.behind K i (T++b) (by rw[E];simp) k O (Y i k O);exact ih K.length (by rw[<-I];simp) K (i::T++b) (by rw[E];simp) rfl k this
 intro i hi;exact key _ told [] cP rfl i hi
theorem Ordering.stuck {left:Nat} (h:Ordering l left told) (I:∀i,∀k∈fP l i,k<l.length)
 (K:∀i,left.testBit i=true->∃k∈fP l i,left.testBit k=true) (i:Nat):left.testBit i=true<->i<l.length/\¬Ac l i:=by
 have key:∀i,Ac l i->left.testBit i=false:=by
  intro i hi
  induction hi with
  | mk i _ ih=>
   cases hb:left.testBit i with
   | false=>rfl
   | true=>
    obtain⟨k,Y,E⟩:=K i hb;rw[ih k Y] at E;cases E
 constructor
 · intro hb
   refine⟨((h.bits i).1 hb).1,λO=>?_⟩;rw[key i O] at hb;cases hb
 · intro ⟨h1,h2⟩
   refine(h.bits i).2 ⟨h1,λT=>h2 (h.ac I i T)⟩
end
structure Gone (l:List Node) (g:List Bool):Prop where
 len:g.length=l.length
 sound:∀i,g[i]?=some true->Ac l i
def Whole (l:List Node) (g:List Bool):Prop:=∀i,i<l.length->Ac l i->g[i]?=some true
theorem Gone.start (l:List Node):Gone l (List.replicate l.length false) where
 len:=by simp
 sound:=by intro i h;simp[List.getElem?_replicate] at h
def More (g g':List Bool):Prop:=∀i:Nat,g[i]?=some true->g'[i]?=some true
theorem More.refl (g:List Bool):More g g:=λ_ h=>h
theorem More.trans {a b c:List Bool} (h:More a b) (k:More b c):More a c:=λi x=>k i (h i x)
theorem Bb:∀{g g':List Bool},g.length=g'.length->More g g'->g.count true<=g'.count true/\((∃i:Nat,g[i]?=some false/\g'[i]?=some true)->g.count true<g'.count true):=by
 intro g
 induction g with
 | nil=>intro g' I _;exact⟨by simp,λ⟨i,h,_⟩=>by simp at h⟩
 | cons b g ih=>
  intro g' I T;cases g' with
  | nil=>simp at I
  | cons O g'=>
   have K:More g g':=λi h=>by have:=T (i+1) (by simpa using h);simpa using this
   obtain⟨h1,h2⟩:=ih (by simpa using I) K;have h0:b=true->O=true:=λY=>by have:=T 0 (by simp[Y]);simpa using this
   have hc:∀x:Bool,(if x==true then 1 else 0)=(if x=true then 1 else 0):=by intro x;cases x<;>rfl
   simp only[List.count_cons];refine⟨by cases b<;>cases O<;>simp at h0 ⊢<;>omega,?_⟩;rintro⟨i,hi,E⟩;cases i with
   | zero=>simp at hi E;subst hi E;simp;omega
   | succ i=>
    simp at hi E;have:=h2 ⟨i,hi,E⟩;cases b<;>cases O<;>simp_all<;>omega
structure Sweep (l:List Node) (g g':List Bool) (i:Nat):Prop where
 gone:Gone l g'
 more:More g g'
 asked:∀j,j<i->(∀k∈fP l j,g[k]?=some true)->g'[j]?=some true
section
variable {l:List Node} {g g':List Bool}
theorem Sweep.start (h:Gone l g):Sweep l g g 0:=⟨h,.refl g,λ_ h=>by omega⟩
theorem Sweep.next {i:Nat} (h:Sweep l g g' i) (hi:i<l.length) {b:Bool}
 (hb:b=true<->∀k∈fP l i,g'[k]?=some true) (hv:∀k∈fP l i,k<l.length) {v:Bool} (O:v=(g'.getD i false||b)):Sweep l g (g'.set i v) (i+1):=by
 have T:=h.gone.len;have I:More g' (g'.set i v):=by
  intro j E;rw[List.getElem?_set]
  split
  · rename_i he;subst he
    rw[if_pos ai,O,List.getD,E];simp
  · exact E
 refine⟨⟨by simp[T],?_⟩,h.more.trans I,?_⟩
 · intro j E
   rw[List.getElem?_set] at E
   split at E
   · rename_i he;subst he
     rw[if_pos ai] at E;simp[O] at E;rcases E with E|E
     · exact h.gone.sound i (by
        rcases hx:g'[i]? with _|x
        · simp[hx] at E
        · simp[hx] at E;rw[E])
     · exact .mk i λk Y=>h.gone.sound k (hb.1 E k Y)
   · exact h.gone.sound j E
 · intro j E K
   rcases Nat.lt_or_ge j i with d6|d7
   · exact I j (h.asked j d6 K)
   · obtain rfl:j=i:=ai
     have:b=true:=hb.2 λk Y=>h.more k (K k Y);rw[List.getElem?_set,if_pos rfl,if_pos ai,O,this];simp
def Far (l:List Node) (g:List Bool) (r:Nat):Prop:=Whole l g\/r<=g.count true
theorem zw (T:∀i,∀k∈fP l i,k<l.length) (hl:g.length=l.length):Whole l g\/∃i,i<l.length/\g[i]?=some false/\∀k∈fP l i,g[k]?=some true:=by
 by_cases hw:Whole l g
 · exact .inl hw
 · right
   have key:∀i,Ac l i->i<l.length->g[i]?=some true\/∃i,i<l.length/\g[i]?=some false/\∀k∈fP l i,g[k]?=some true:=by
    intro i hi
    induction hi with
    | mk i _ ih=>
     intro I
     by_cases E:∀k∈fP l i,g[k]?=some true
     · rcases hx:g[i]? with _|x
       · rw[List.getElem?_eq_none_iff] at hx;omega
       · cases x with
         | true=>exact .inl rfl
         | false=>exact .inr ⟨i,I,hx,E⟩
     · have⟨k,hk⟩:∃k,k∈fP l i/\¬g[k]?=some true:=by
        apply Classical.byContradiction;intro O;exact E λk hk=>Classical.byContradiction λK=>O ⟨k,hk,K⟩
       rcases ih k hk.1 (T i k hk.1) with h|h
       · exact absurd h hk.2
       · exact .inr h
   apply Classical.byContradiction;intro O;exact hw λi I Y=>(key i Y I).resolve_right O
theorem Far.next (O:∀i,∀k∈fP l i,k<l.length) {r:Nat} (K:Gone l g) (h:Far l g r) (s:Sweep l g g' l.length):Far l g' (r+1):=by
 rcases h with h|h
 · exact .inl λi hi I=>s.more i (h i hi I)
 · rcases zw O K.len with hw|⟨i,hi,T,E⟩
   · exact .inl λi hi I=>s.more i (hw i hi I)
   · have:=(Bb (by rw[K.len,s.gone.len]) s.more).2 ⟨i,T,s.asked i hi E⟩
     exact .inr ai
end
def span (n low:Int):Prop:=low<=n/\n<=1048576
instance (n low:Int):Decidable (span n low):=inferInstanceAs (Decidable (_/\_))
def ef (n:Node):Prop:=1<=n.Lz/\n.Lz<=5/\span n.close 1/\span n.beat 0/\span n.base 1/\span n.cap n.base/\span n.LA 0
def EdgesOk (len:Nat):Int->List Int->Prop
 | _,[]=>True
 | p,k::r=>p<k/\k<len/\EdgesOk len k r
def j8 (f:Flow):Prop:=span f.deadline 1/\1<=f.Lw.length/\f.Lw.length<=12
def OkTo (f:Flow) (i:Nat):Prop:=∀j n,j<i->f.Lw[j]?=some n->ef n/\EdgesOk f.Lw.length (-1) n.after
inductive Checked (f:Flow):Int->Int->Prop where
 | head (h:¬j8 f):Checked f 2 (-1)
 | bound (i:Nat) (n:Node) (h:j8 f) (ho:OkTo f i) (hn:f.Lw[i]?=some n) (hb:¬ef n):Checked f 2 i
 | edge (i:Nat) (n:Node) (h:j8 f) (ho:OkTo f i) (hn:f.Lw[i]?=some n) (hb:ef n) (he:¬EdgesOk f.Lw.length (-1) n.after):Checked f 3 i
 | cycle (i:Nat) (h:j8 f) (ho:OkTo f f.Lw.length) (hi:i<f.Lw.length) (hn:¬Ac f.Lw i) (hl:∀j,j<i->Ac f.Lw j):Checked f 4 i
 | ok (h:j8 f) (ho:OkTo f f.Lw.length) (ha:∀i,i<f.Lw.length->Ac f.Lw i):Checked f 0 (-1)
theorem cB {α:Type} {l:List α} {i:Nat} {x:α} (h:l[i]?=some x):i<l.length:=(gfGet.1 h).1
theorem li {f:Flow} {i j:Nat} {n m:Node} (hi:OkTo f i) (E:OkTo f j) (I:f.Lw[i]?=some n) (K:f.Lw[j]?=some m)
 (O:¬(ef n/\EdgesOk f.Lw.length (-1) n.after)) (bj:¬(ef m/\EdgesOk f.Lw.length (-1) m.after)):i=j:=by
 rcases Nat.lt_trichotomy i j with h|h|h
 · exact absurd (E i n h I) O
 · exact h
 · exact absurd (hi j m h K) bj
theorem Checked.unique {f:Flow} {e a e' a':Int} (h:Checked f e a) (Y:Checked f e' a'):e=e'/\a=a':=by
 cases h with
 | head h=>cases Y<;>first|exact⟨rfl,rfl⟩|contradiction
 | bound i n h T O hb=>
  have b1:¬(ef n/\EdgesOk f.Lw.length (-1) n.after):=λx=>hb x.1;cases Y with
  | head Y=>contradiction
  | bound j m _ E I K=>obtain rfl:=li T E O I b1 (λx=>K x.1);exact⟨rfl,rfl⟩
  | edge j m _ E I K he=>
   obtain rfl:=li T E O I b1 (λx=>he x.2);rw[O] at I;cases I;contradiction
  | cycle j _ E=>exact absurd (E i n (cB O) O) b1
  | ok _ E=>exact absurd (E i n (cB O) O) b1
 | edge i n h T O hb he=>
  have b1:¬(ef n/\EdgesOk f.Lw.length (-1) n.after):=λx=>he x.2;cases Y with
  | head Y=>contradiction
  | bound j m _ E I K=>
   obtain rfl:=li T E O I b1 (λx=>K x.1);rw[O] at I;cases I;contradiction
  | edge j m _ E I K d7=>obtain rfl:=li T E O I b1 (λx=>d7 x.2);exact⟨rfl,rfl⟩
  | cycle j _ E=>exact absurd (E i n (cB O) O) b1
  | ok _ E=>exact absurd (E i n (cB O) O) b1
 | cycle i h T hi O hl=>
  cases Y with
  | head Y=>contradiction
  | bound j m _ E I K=>exact absurd (T j m (cB I) I).1 K
  | edge j m _ E I K he=>exact absurd (T j m (cB I) I).2 he
  | cycle j _ _ hj d6 d8=>
   rcases Nat.lt_trichotomy i j with h|h|h
   · exact absurd (d8 i h) O
   · subst h;exact⟨rfl,rfl⟩
   · exact absurd (hl j h) d6
  | ok _ _ ha=>exact absurd (ha i hi) O
 | ok h T ha=>
  cases Y with
  | head Y=>contradiction
  | bound j m _ E I K=>exact absurd (T j m (cB I) I).1 K
  | edge j m _ E I K he=>exact absurd (T j m (cB I) I).2 he
  | cycle j _ _ hj d6 _=>exact absurd (ha j hj) d6
  | ok=>exact⟨rfl,rfl⟩
open Classical in
noncomputable def chk (f:Flow):Int×Int:=if h:∃p:Int×Int,Checked f p.1 p.2 then choose h else(0,0)
theorem Checked.chk {f:Flow} {e a:Int} (h:Checked f e a):chk f=(e,a):=by
 have E:∃p:Int×Int,Checked f p.1 p.2:=⟨(e,a),h⟩;unfold FK.chk;rw[dif_pos E];have hc:=Classical.choose_spec E;have⟨h1,h2⟩:=hc.unique h;exact Prod.ext h1 h2
theorem FZ {l:List Node} {i:Nat} {n:Node} (h:l[i]?=some n):fP l i=n.after.map Int.toNat:=by simp[fP,h]
theorem EdgesOk.bounds {len:Nat}:∀{p:Int} {l:List Int},EdgesOk len p l->∀k∈l,p<k/\k<len:=by
 intro p l
 induction l generalizing p with
 | nil=>intro _ k E;simp at E
 | cons a l O=>
  intro ⟨I,K,h3⟩ k E;simp at E;rcases E with rfl|E
  · exact⟨I,K⟩
  · have:=O h3 k E;omega
theorem OkTo.aft_lt {f:Flow} (h:OkTo f f.Lw.length) (i:Nat):∀k∈fP f.Lw i,k<f.Lw.length:=by
 intro k E;unfold fP at E
 split at E
 · rename_i n I
   simp at E;obtain⟨x,K,rfl⟩:=E;have:=(h i n (cB I) I).2.bounds x K;omega
 · simp at E
theorem EdgesOk.length_le {len:Nat}:∀{p:Int} {l:List Int},EdgesOk len p l->-1<=p->l.length+(p+1).toNat<=len\/l=[]:=by
 intro p l
 induction l generalizing p with
 | nil=>intro _ _;exact .inr rfl
 | cons a l E=>
  intro ⟨I,K,h3⟩ O;left;rcases E h3 ai with h|h
  · simp;omega
  · subst h;simp;omega
theorem J8 {p:Nat->Prop} {n:Nat} (h:p n):∃m,m<=n/\p m/\∀j,j<m->¬p j:=by
 induction n using Nat.strongRecOn with
 | _ n T=>
  by_cases K:∃j,j<n/\p j
  · obtain⟨j,E,I⟩:=K
    obtain⟨m,Y,O,h3⟩:=T j E I;exact⟨m,ai,O,h3⟩
  · exact⟨n,cm _,h,λj E I=>K ⟨j,E,I⟩⟩
theorem uo (f:Flow):∃e a,Checked f e a:=by
 by_cases O:j8 f
 · by_cases ho:OkTo f f.Lw.length
   · by_cases ha:∃i,i<f.Lw.length/\¬Ac f.Lw i
     · obtain⟨i,hi⟩:=ha
       obtain⟨m,h1,Y,h3⟩:=J8 (p:=λi=>i<f.Lw.length/\¬Ac f.Lw i) hi;exact⟨_,_,.cycle m O ho Y.1 Y.2 λj I=>Classical.byContradiction λK=>h3 j I ⟨ai,K⟩⟩
     · exact⟨_,_,.ok O ho λi hi=>Classical.byContradiction λK=>ha ⟨i,hi,K⟩⟩
   · have hx:∃i:Nat,∃n,f.Lw[i]?=some n/\¬(ef n/\EdgesOk f.Lw.length (-1) n.after):=by
      apply Classical.byContradiction;intro K;exact ho λj n _ I=>Classical.byContradiction λE=>K ⟨j,n,I,E⟩
     obtain⟨i,hi⟩:=hx;obtain⟨m,_,⟨n,h1,Y⟩,h3⟩:=J8 (p:=λi:Nat=>∃n,f.Lw[i]?=some n/\¬(ef n/\EdgesOk f.Lw.length (-1) n.after)) hi;have T:OkTo f m:=λj x I hx=>Classical.byContradiction λE=>h3 j I ⟨x,hx,E⟩
     by_cases E:ef n
     · exact⟨_,_,.edge m n O T h1 E λhe=>Y ⟨E,he⟩⟩
     · exact⟨_,_,.bound m n O T h1 E⟩
 · exact⟨_,_,.head O⟩
theorem zD (f:Flow):Checked f (chk f).1 (chk f).2:=by
 obtain⟨e,a,h⟩:=uo f;rw[h.chk];exact h
structure Fit (f:Flow):Prop where
 head:j8 f
 Lw:OkTo f f.Lw.length
 ac:∀i,i<f.Lw.length->Ac f.Lw i
theorem Ia {f:Flow} (h:(chk f).1=0):Fit f:=by
 have hc:=zD f;rw[h] at hc
 generalize (chk f).2=a at hc
 generalize K:(0:Int)=e at hc
 cases hc with
 | ok h E I=>exact⟨h,E,I⟩
 | _=>omega
theorem Fit.chk {f:Flow} (h:Fit f):chk f=(0,-1):=(Checked.ok h.head h.Lw h.ac).chk
def co (n:Nat):List UInt8:=if n<128 then[UInt8.ofNat n] else UInt8.ofNat (n%128+128)::co (n/128)
termination_by n
def fq (n:Node):List UInt8:=
 co n.Lz.toNat++co n.close.toNat++co n.beat.toNat++co n.base.toNat++co n.cap.toNat++co n.LA.toNat++co n.after.length++n.after.flatMap λk=>co k.toNat
def bo (f:Flow):List UInt8:=co f.deadline.toNat++co f.Lw.length++f.Lw.flatMap fq
def rd (b:List UInt8) (p:Nat):Except Nat (Nat×Nat):=
 match b[p]? with
 | none=>.error p
 | some c=>if c.toNat<128 then .ok (c.toNat,p+1) else
  match b[p+1]? with
  | none=>.error p
  | some d=>if d.toNat<128 then(if d.toNat=0 then .error p else .ok (c.toNat%128+d.toNat*128,p+2)) else
   match b[p+2]? with
   | none=>.error p
   | some e=>if e.toNat<128 then(if e.toNat=0 then .error p else .ok (c.toNat%128+d.toNat%128*128+e.toNat*16384,p+3)) else .error p
abbrev Rd (α:Type):=Nat->Except Nat (α×Nat)
def oB {α:Type} (r:Rd α):Nat->List α->Rd (List α)
 | 0,l,p=>.ok (l,p)
 | n+1,l,p=>match r p with
  | .error e=>.error e
  | .ok (x,p')=>oB r n (l++[x]) p'
def gT (b:List UInt8):Rd Int:=λp=>match rd b p with
 | .error e=>.error e
 | .ok (n,p')=>.ok ((n:Int),p')
def gu {α:Type} (b:List UInt8) (r:Rd α):Rd (List α):=λp=>match rd b p with
 | .error e=>.error e
 | .ok (n,p')=>oB r n [] p'
def andThen {α β:Type} (r:Except Nat (α×Nat)) (k:α->Rd β):Except Nat (β×Nat):=match r with
 | .error e=>.error e
 | .ok (x,p)=>k x p
def jd (b:List UInt8):Rd Node:=λp=>
 andThen (gT b p) λI p=>andThen (gT b p) λE p=>andThen (gT b p) λbeat p=>andThen (gT b p) λbase p=>
 andThen (gT b p) λcap p=>andThen (gT b p) λK p=>andThen (gu b (gT b) p) λafter p=>.ok (⟨I,E,beat,base,cap,K,after⟩,p)
def ls (b:List UInt8):Rd Flow:=λp=>
 andThen (gT b p) λE p=>andThen (gu b (jd b) p) λI p=>.ok (⟨E,I⟩,p)
noncomputable def uq (b:List UInt8):Except (Int×Int) Flow:=match ls b 0 with
 | .error e=>.error (1,(e:Int))
 | .ok (f,p)=>if p<b.length then .error (1,(p:Int)) else if (chk f).1=0 then .ok f else .error (chk f)
structure Tm (K:Type) where
 key:K
 due:Nat
 seq:Nat
section
variable {a b l now s:Nat}
def jY (now due:Nat):Nat:=Nat.log2 (due ^^^ now)/6
def zL (l due:Nat):Nat:=due/64 ^ l%64
theorem rD (l:Nat):64 ^ l=2 ^ (6*l):=by rw[Nat.pow_mul]
theorem IA (a b k:Nat):(a ^^^ b)/2 ^ k=(a/2 ^ k) ^^^ (b/2 ^ k):=by
 rw[<-Nat.shiftRight_eq_div_pow,<-Nat.shiftRight_eq_div_pow,<-Nat.shiftRight_eq_div_pow,Nat.shiftRight_xor_distrib]
theorem wC (a b:Nat):a ^^^ b=0<->a=b:=by
 constructor
 · intro h
   apply Nat.eq_of_testBit_eq;intro i;have:=congrArg (λx=>x.testBit i) h;simp[Nat.testBit_xor] at this;exact this
 · rintro rfl;exact Nat.xor_self a
theorem vT {due:Nat} (I:1<=l):jY now due<l<->due/64 ^ l=now/64 ^ l:=by
 rw[rD,<-wC,<-IA];unfold jY;rw[Nat.div_lt_iff_lt_mul ai,Nat.div_eq_zero_iff];have K:0<2 ^ (6*l):=Nat.two_pow_pos _
 by_cases E:due ^^^ now=0
 · rw[E];simp;omega
 · rw[Nat.log2_lt E,Nat.mul_comm l 6];omega
theorem lev_le {due:Nat}:jY now due<=l<->due/64 ^ (l+1)=now/64 ^ (l+1):=by
 rw[<-vT ai];omega
theorem rK {due:Nat} (E:1<=l):l<=jY now due<->due/64 ^ l≠now/64 ^ l:=by
 have:=vT (now:=now) (due:=due) E;omega
theorem Bd {due:Nat} (E:now<=2 ^ 62) (I:due<=2 ^ 62):jY now due<=10:=by
 rw[lev_le];have e:(64:Nat) ^ (10+1)=2 ^ 66:=by decide
 rw[e,Nat.div_eq_of_lt ai,Nat.div_eq_of_lt ai]
theorem yg (a l:Nat):a/64 ^ (l+1)=a/64 ^ l/64:=by rw[Nat.div_div_eq_div_mul,Nat.pow_succ]
theorem Fx (l due:Nat):zL l due<64:=Nat.mod_lt _ ai
theorem mX {due:Nat} (h:jY now due<=l):due/64 ^ l=now/64 ^ (l+1)*64+zL l due:=by
 have E:=lev_le.1 h;rw[yg] at E;unfold zL;have:=Nat.div_add_mod (due/64 ^ l) 64;omega
theorem ow {k:Nat} (h:a/k<b/k):a<b:=by
 rcases Nat.lt_or_ge a b with E|E
 · exact E
 · have:=Nat.div_le_div_right (c:=k) E;omega
theorem D7 (I:now<=b) (h:jY now a<jY now b):a<b:=by
 have E:1<=jY now b:=ai;have K:=(rK E).1 (cm _);have h3:=(vT E).1 h;have O:=Nat.div_le_div_right (c:=64 ^ jY now b) I;exact ow (k:=64 ^ jY now b) ai
theorem Bc (E:jY now a<=l) (I:jY now b<=l) (h:zL l a<zL l b):a<b:=by
 have K:=mX E;have O:=mX I;exact ow (k:=64 ^ l) ai
def cx (now l s:Nat):Nat:=now/64 ^ (l+1)*64 ^ (l+1)+s*64 ^ l
theorem mg (now l s:Nat):cx now l s=(now/64 ^ (l+1)*64+s)*64 ^ l:=by
 unfold cx;rw[Nat.pow_succ,Nat.add_mul,Nat.mul_assoc,Nat.mul_comm 64]
theorem la:cx now l s/64 ^ l=now/64 ^ (l+1)*64+s:=by
 rw[mg,Nat.mul_div_cancel _ (Nat.pow_pos ai)]
theorem io (E:s<64):cx now l s/64 ^ (l+1)=now/64 ^ (l+1):=by
 rw[yg,la];omega
theorem xB {due:Nat} (h:jY now due<=l):cx now l (zL l due)<=due:=by
 rw[mg,<-mX h];exact Nat.div_mul_le_self _ _
theorem Az {due:Nat} (h:jY now due=0):cx now 0 (zL 0 due)=due:=by
 rw[mg,<-mX ai];simp
theorem wO {due:Nat} (E:1<=l) (h:jY now due=l) (I:now<=due):now<cx now l (zL l due):=by
 apply ow (k:=64 ^ l);rw[la,<-mX ai];have K:=(rK E).1 (Nat.le_of_eq h.symm);have:=Nat.div_le_div_right (c:=64 ^ l) I;omega
theorem vd {E due:Nat} (I:E/64 ^ (jY now due+1)=now/64 ^ (jY now due+1)) (K:1<=jY now due->E/64 ^ jY now due≠due/64 ^ jY now due):jY E due=jY now due:=by
 have h3:jY E due<=jY now due:=by rw[lev_le,I,<-lev_le];exact cm _
 rcases Nat.eq_zero_or_pos (jY now due) with h|h
 · omega
 · have:=(rK (now:=E) h).2 (λe=>K h e.symm)
   omega
theorem mr {m:Nat} (h:a/64 ^ l=b/64 ^ l) (E:l<=m):a/64 ^ m=b/64 ^ m:=by
 obtain⟨k,rfl⟩:=Nat.le.dest E;rw[Nat.pow_add,<-Nat.div_div_eq_div_mul,<-Nat.div_div_eq_div_mul,h]
theorem qo {due:Nat} (E:s<64) (h:l<jY now due\/jY now due=l/\zL l due≠s):jY (cx now l s) due=jY now due:=by
 apply vd
 · rcases h with h|h
   · exact mr (io E) ai
   · rw[h.1];exact io E
 · intro I
   rcases h with h|⟨h,K⟩
   · rw[mr (io E) (by omega:l+1<=jY now due)]
     exact λe=>(rK I).1 (cm _) e.symm
   · rw[h,la,mX (now:=now) (l:=l) ai];omega
theorem zu {due:Nat} (E:1<=l) (h:jY now due=l):jY (cx now l (zL l due)) due<l:=by
 rw[vT E,la,<-mX ai]
theorem Gh {to due:Nat} (I:s<64) (K:now<=to) (E:to<cx now l s) (h:l<jY now due\/jY now due=l/\s<=zL l due):jY to due=jY now due:=by
 have h3:to/64 ^ (l+1)=now/64 ^ (l+1):=by
  have a:=Nat.div_le_div_right (c:=64 ^ (l+1)) K;have b:=Nat.div_le_div_right (c:=64 ^ (l+1)) (Nat.le_of_lt E);rw[io I] at b;omega
 apply vd
 · exact mr h3 ai
 · intro O
   rcases h with h|⟨h,T⟩
   · rw[mr h3 (by omega:l+1<=jY now due)]
     exact λe=>(rK O).1 (cm _) e.symm
   · rw[h,mX (now:=now) (due:=due) (l:=l) ai]
     have:to/64 ^ l<now/64 ^ (l+1)*64+s:=by
      rw[mg] at E;exact(Nat.div_lt_iff_lt_mul (Nat.pow_pos ai)).2 E
     omega
end
structure Pl where
 run:Nat
 node:Int
 what:Int
instance:BEq Pl:=⟨λa b=>(a.run:Int)==(b.run:Int)&&(a.node==b.node&&(a.what==b.what&&true))⟩
theorem Pl.beq_iff (a b:Pl):(a==b)=true<->a=b:=by
 cases a;cases b;show((_:Int)==_&&(_==_&&(_==_&&true)))=true<->_;simp;intro _ _;omega
instance:LawfulBEq Pl where
 eq_of_beq:=λh=>(Pl.beq_iff _ _).1 h
 rfl:=(Pl.beq_iff _ _).2 rfl
instance:DecidableEq Pl:=λa b=>if h:(a==b)=true then isTrue ((Pl.beq_iff _ _).1 h) else isFalse λe=>h ((Pl.beq_iff _ _).2 e)
def gg {α:Type} (f:Nat->α) (i:Nat) (v:α):Nat->α:=λj=>if j=i then v else f j
theorem dJ {α:Type} (f:Nat->α) (i:Nat) (v:α):gg f i v i=v:=by simp[gg]
theorem dc {α:Type} (f:Nat->α) {i j:Nat} (v:α) (h:j≠i):gg f i v j=f j:=by simp[gg,h]
structure Tmr where
 key:Pl
 due:Nat
 seq:Nat
 blk:Nat
 lvl:Nat
 slot:Nat
def Tmr.pos (t:Tmr):Nat:=64*t.lvl+t.slot
def Tmr.place (now:Nat) (t:Tmr):Tmr:={t with lvl:=jY now t.due,slot:=zL (jY now t.due) t.due}
structure WS where
 now:Nat
 seq:Nat
 us:Nat->Nat
 bs:Nat->List Nat
 tms:List Tmr
def clr (a s:Nat):Nat:=a&&&(18446744073709551616-(2 ^ s+1))
def WS.put (S:WS) (a:List Tmr) (t:Tmr) (b:List Tmr):WS:=
 {S with us:=gg S.us (t.place S.now).lvl (S.us (t.place S.now).lvl|||2 ^ (t.place S.now).slot),bs:=gg S.bs (t.place S.now).pos (S.bs (t.place S.now).pos++[t.blk]),tms:=a++t.place S.now::b}
def WS.drop (S:WS) (a:List Tmr) (t:Tmr) (b:List Tmr):WS:=
 {S with us:=if (S.bs t.pos).erase t.blk=[] then gg S.us t.lvl (clr (S.us t.lvl) t.slot) else S.us,bs:=gg S.bs t.pos ((S.bs t.pos).erase t.blk),tms:=a++b}
def WS.clear (S:WS) (l s:Nat):WS:={S with us:=gg S.us l (clr (S.us l) s),bs:=gg S.bs (64*l+s) []}
theorem ry {a s j:Nat} (E:s<64) (I:a<18446744073709551616):(clr a s).testBit j=(a.testBit j&&!decide (j=s)):=by
 unfold clr;have K:(2:Nat) ^ s<2 ^ 64:=Nat.pow_lt_pow_right ai E;rw[show(18446744073709551616:Nat)=2 ^ 64 by rfl,Nat.testBit_and,Nat.testBit_two_pow_sub_succ K,Nat.testBit_two_pow]
 by_cases O:j<64
 · simp only[O,decide_true,Bool.true_and]
   by_cases h:s=j
   · subst h;simp
   · simp[h,Ne.symm h]
 · have:a.testBit j=false:=Nat.testBit_lt_two_pow (Nat.lt_of_lt_of_le I (by rw[show(18446744073709551616:Nat)=2 ^ 64 by rfl];exact Nat.pow_le_pow_right ai ai))
   simp[this]
theorem clr_lt {a s:Nat} (E:a<18446744073709551616):clr a s<18446744073709551616:=Nat.lt_of_le_of_lt Nat.and_le_left E
theorem KN {a s j:Nat}:(a|||2 ^ s).testBit j=(a.testBit j||decide (j=s)):=by
 rw[Nat.testBit_or,Nat.testBit_two_pow]
 congr 1
 simp[eq_comm]
theorem or_lt {a s:Nat} (E:s<64) (I:a<18446744073709551616):a|||2 ^ s<18446744073709551616:=by
 have K:(2:Nat) ^ s<2 ^ 64:=Nat.pow_lt_pow_right ai E;exact Nat.or_lt_two_pow (n:=64) I K
def nU (un:List Nat) (i:Nat) (t:Tmr):Bool:=!(un.contains t.blk)&&t.pos==i
structure Inv (S:WS) (un:List Nat):Prop where
 nowle:S.now<=2 ^ 62
 keys:(S.tms.map Tmr.key).Nodup
 blks:(S.tms.map Tmr.blk).Nodup
 seqs:S.tms.Pairwise λa b=>a.seq<b.seq
 seqle:∀t∈S.tms,t.seq<=S.seq
 due:∀t∈S.tms,S.now<=t.due/\t.due<=2 ^ 62
 pl:∀t∈S.tms,t.blk∉un->t.lvl=jY S.now t.due/\t.slot=zL t.lvl t.due
 slot:∀i,i<704->S.bs i=(S.tms.filter (nU un i)).map Tmr.blk
 used:∀l s,l<11->s<64->(S.us l).testBit s=!(S.bs (64*l+s)).isEmpty
 uslt:∀l,l<11->S.us l<18446744073709551616
section
variable {un:List Nat} {t:Tmr} {S:WS}
theorem Inv.lvl (h:Inv S un) (E:t∈S.tms):jY S.now t.due<11:=by
 have:=Bd h.nowle (h.due t E).2;omega
theorem Inv.lvl' (h:Inv S un) (E:t∈S.tms) (I:t.blk∉un):t.lvl<11/\t.slot<64:=by
 obtain⟨K,O⟩:=h.pl t E I;exact⟨K▸h.lvl E,O▸Fx _ _⟩
theorem Inv.pos {S:WS} {un:List Nat} (h:Inv S un) {t:Tmr} (E:t∈S.tms) (I:t.blk∉un):t.pos<704:=by
 obtain⟨K,O⟩:=h.lvl' E I;unfold Tmr.pos;omega
theorem sg (h:Inv S un) (E:t∈S.tms):(t.place S.now).lvl<11/\(t.place S.now).slot<64/\(t.place S.now).pos<704:=by
 have I:=h.lvl E;have K:=Fx (jY S.now t.due) t.due;refine⟨I,K,?_⟩;show 64*jY S.now t.due+zL (jY S.now t.due) t.due<704;omega
theorem jA {α β:Type} {f:α->β} {a b:List α} {t:α} (h:((a++t::b).map f).Nodup):(∀u∈a,f u≠f t)/\(∀u∈b,f u≠f t):=by
 rw[List.map_append,List.map_cons,List.nodup_append] at h;obtain⟨_,I,h3⟩:=h;refine⟨λu E e=>h3 (f u) (List.mem_map_of_mem E) (f t) cP e,λu E e=>?_⟩;have:=(List.nodup_cons.1 I).1;exact this (e▸List.mem_map_of_mem E)
theorem fX {α β:Type} {f:α->β}:∀{l:List α},(l.map f).Nodup->∀{u t:α},u∈l->t∈l->f u=f t->u=t
 | [],_,_,_,h,_,_=>by cases h
 | x::l,hn,u,t,hu,ht,e=>by
  rw[List.map_cons,List.nodup_cons] at hn;rcases List.mem_cons.1 hu with rfl|hu
  · rcases List.mem_cons.1 ht with rfl|ht
    · rfl
    · exact absurd (e▸List.mem_map_of_mem ht) hn.1
  · rcases List.mem_cons.1 ht with E|ht
    · exact absurd (E▸e▸List.mem_map_of_mem hu) hn.1
    · exact fX hn.2 hu ht e
theorem Inv.put {S:WS} {a b:List Tmr} {t:Tmr} {rest:List Nat} (h:Inv S (t.blk::rest)) (Y:S.tms=a++t::b) (hr:t.blk∉rest) (d9:∀u∈S.tms,u.blk∉t.blk::rest->u.pos=(t.place S.now).pos->u.seq<t.seq):Inv (S.put a t b) rest:=by
 have d8:t∈S.tms:=by rw[Y];simp
 obtain⟨k1,k2,k3⟩:=sg h d8;obtain⟨ha,hb⟩:=jA (f:=Tmr.blk) (t:=t) (by rw[<-Y];exact h.blks);have K:∀i u,u.blk≠t.blk->nU rest i u=nU (t.blk::rest) i u:=λi u E=>by
  simp[nU,E]
 have t6:∀i,a.filter (nU rest i)=a.filter (nU (t.blk::rest) i):=λi=>List.filter_congr λu E=>K i u (ha u E);have t7:∀i,b.filter (nU rest i)=b.filter (nU (t.blk::rest) i):=λi=>List.filter_congr λu E=>K i u (hb u E);have t8:∀i,nU (t.blk::rest) i t=false:=λi=>by simp[nU]
 have wf:∀i,nU rest i (t.place S.now)=decide ((t.place S.now).pos=i):=λi=>by
  have:(t.place S.now).blk=t.blk:=rfl;simp[nU,this,hr]
  by_cases he:(t.place S.now).pos=i<;>simp[he]
 have BT:b.filter (nU (t.blk::rest) (t.place S.now).pos)=[]:=by
  rw[List.filter_eq_nil_iff];intro u E d7;simp only[nU,Bool.and_eq_true,Bool.not_eq_true',beq_iff_eq] at d7;have Fd:u∈S.tms:=by rw[Y];simp[E]
  have I:=d9 u Fd (by simpa using d7.1) d7.2;have h2:=h.seqs;rw[Y,List.pairwise_append] at h2;have:=(List.pairwise_cons.1 h2.2.1).1 u E;omega
 have d6:∀i,i<704->S.bs i=(a.filter (nU (t.blk::rest) i)++b.filter (nU (t.blk::rest) i)).map Tmr.blk:=λi hi=>by
  rw[h.slot i hi,Y,List.filter_append,List.filter_cons,t8];rfl
 have f7:∀i,i<704->(S.put a t b).bs i=((a++t.place S.now::b).filter (nU rest i)).map Tmr.blk:=λi hi=>by
  rw[List.filter_append,List.filter_cons,wf,t6,t7];show gg S.bs _ _ i=_
  by_cases he:(t.place S.now).pos=i
  · subst he
    rw[dJ,d6 _ hi,BT];simp[Tmr.place]
  · rw[dc _ _ (Ne.symm he),d6 i hi]
    simp[he]
 have O:∀u,u∈(S.put a t b).tms->(u∈S.tms/\u.blk≠t.blk)\/u=t.place S.now:=λu E=>by
  have f8:u∈a++t.place S.now::b:=E;rw[List.mem_append,List.mem_cons] at f8;rcases f8 with I|I|I
  · exact .inl ⟨by rw[Y];simp[I],ha u I⟩
  · exact .inr I
  · exact .inl ⟨by rw[Y];simp[I],hb u I⟩
 refine⟨h.nowle,?_,?_,?_,?_,?_,?_,f7,?_,?_⟩
 · have:=h.keys
   rw[Y] at this;simpa[WS.put,Tmr.place] using this
 · have:=h.blks
   rw[Y] at this;simpa[WS.put,Tmr.place] using this
 · have:=h.seqs
   rw[Y] at this;show(a++t.place S.now::b).Pairwise _;rw[List.pairwise_append,List.pairwise_cons] at this ⊢;refine⟨this.1,⟨this.2.1.1,this.2.1.2⟩,λx hx y hy=>?_⟩;rcases List.mem_cons.1 hy with rfl|hy
   · exact this.2.2 x hx t cP
   · exact this.2.2 x hx y (by simp[hy])
 · intro u E
   rcases O u E with I|rfl
   · exact h.seqle u I.1
   · exact h.seqle t d8
 · intro u E
   rcases O u E with I|rfl
   · exact h.due u I.1
   · exact h.due t d8
 · intro u E mt
   rcases O u E with I|rfl
   · exact h.pl u I.1 (by simp[I.2,mt])
   · exact⟨rfl,rfl⟩
 · intro l s hl hs
   show(gg S.us _ _ l).testBit s=!(gg S.bs _ _ (64*l+s)).isEmpty;have E:=h.used l s hl hs
   by_cases T:l=(t.place S.now).lvl
   · subst T
     rw[dJ,KN]
     by_cases f9:s=(t.place S.now).slot
     · subst f9
       rw[show 64*(t.place S.now).lvl+(t.place S.now).slot=(t.place S.now).pos from rfl,dJ];simp
     · rw[dc _ _ (by unfold Tmr.pos;omega),E]
       simp[f9]
   · rw[dc _ _ T,dc _ _ (by unfold Tmr.pos;omega),E]
 · intro l hl
   show gg S.us _ _ l<_
   by_cases T:l=(t.place S.now).lvl
   · subst T
     rw[dJ];exact or_lt k2 (h.uslt _ hl)
   · rw[dc _ _ T]
     exact h.uslt l hl
theorem Inv.drop {S:WS} {a b:List Tmr} {t:Tmr} (h:Inv S []) (hS:S.tms=a++t::b):Inv (S.drop a t b) []:=by
 have d6:t∈S.tms:=by rw[hS];simp
 obtain⟨k1,k2⟩:=h.lvl' d6 cP;have k3:=h.pos d6 cP;obtain⟨ha,hb⟩:=jA (f:=Tmr.blk) (t:=t) (by rw[<-hS];exact h.blks);have E:(a++b).Sublist S.tms:=by
  rw[hS];exact List.Sublist.append (List.Sublist.refl a) (List.sublist_cons_self t b)
 have d7:∀i,nU [] i t=decide (t.pos=i):=λi=>by
  simp[nU]
  by_cases I:t.pos=i<;>simp[I]
 have T:∀i,i<704->S.bs i=((a++t::b).filter (nU [] i)).map Tmr.blk:=λi hi=>by rw[h.slot i hi,hS]
 have d8:∀i,i<704->(S.drop a t b).bs i=((a++b).filter (nU [] i)).map Tmr.blk:=λi hi=>by
  show gg S.bs _ _ i=_
  by_cases I:t.pos=i
  · subst I
    rw[dJ,T _ hi,List.filter_append,List.filter_append,List.filter_cons,d7];simp only[decide_true,if_true,List.map_append,List.map_cons];rw[List.erase_append_right,List.erase_cons_head];intro hm;obtain⟨u,O,e⟩:=List.mem_map.1 hm;exact ha u (List.mem_filter.1 O).1 e
  · rw[dc _ _ (Ne.symm I),T i hi,List.filter_append,List.filter_append,List.filter_cons,d7]
    simp[I]
 refine⟨h.nowle,h.keys.sublist (E.map _),h.blks.sublist (E.map _),h.seqs.sublist E,λu O=>h.seqle u (E.subset O),λu O=>h.due u (E.subset O),λu O=>h.pl u (E.subset O),d8,?_,?_⟩
 · intro l s Y hs
   show((if (S.bs t.pos).erase t.blk=[] then gg S.us t.lvl (clr (S.us t.lvl) t.slot) else S.us) l).testBit s=!(gg S.bs _ _ (64*l+s)).isEmpty;have O:=h.used l s Y hs
   by_cases hp:64*l+s=t.pos
   · have d9:l=t.lvl/\s=t.slot:=by unfold Tmr.pos at hp;omega
     obtain⟨rfl,rfl⟩:=d9;rw[hp,dJ]
     split
     · rename_i I
       rw[dJ,ry k2 (h.uslt _ k1),I];simp
     · rename_i I
       rw[O,hp];have f7:S.bs t.pos≠[]:=λh0=>by rw[h0] at I;simp at I
       rw[List.isEmpty_eq_false_iff.2 I,List.isEmpty_eq_false_iff.2 f7]
   · rw[dc _ _ hp,<-O]
     split
     · by_cases K:l=t.lvl
       · subst K
         have:s≠t.slot:=λf8=>hp (by unfold Tmr.pos;omega);rw[dJ,ry k2 (h.uslt _ k1)];simp[this]
       · rw[dc _ _ K]
     · rfl
 · intro l Y
   show(if (S.bs t.pos).erase t.blk=[] then gg S.us t.lvl (clr (S.us t.lvl) t.slot) else S.us) l<_
   split
   · by_cases K:l=t.lvl
     · subst K;rw[dJ];exact clr_lt (h.uslt _ Y)
     · rw[dc _ _ K];exact h.uslt l Y
   · exact h.uslt l Y
end
structure Fst (S:WS) (l s:Nat):Prop where
 hl:l<11
 hs:s<64
 has:S.bs (64*l+s)≠[]
 ahead:∀t∈S.tms,l<t.lvl\/t.lvl=l/\s<=t.slot
section
variable {S:WS} {l s:Nat} {t:Tmr} {un:List Nat}
theorem Inv.mem_slot (h:Inv S un) (E:t∈S.tms) (I:t.blk∉un):t.blk∈S.bs t.pos:=by
 rw[h.slot _ (h.pos E I)];exact List.mem_map.2 ⟨t,List.mem_filter.2 ⟨E,by simp[nU,I]⟩,rfl⟩
theorem Inv.of_slot (h:Inv S un) {i b:Nat} (hi:i<704) (I:b∈S.bs i):∃t∈S.tms,t.blk=b/\t.pos=i/\t.blk∉un:=by
 rw[h.slot i hi] at I;obtain⟨t,K,e⟩:=List.mem_map.1 I;obtain⟨O,E⟩:=List.mem_filter.1 K;simp only[nU,Bool.and_eq_true,Bool.not_eq_true',beq_iff_eq] at E;exact⟨t,O,e,E.2,by simpa using E.1⟩
theorem jz (E:s<64) (I:t.slot<64) (h:t.pos=64*l+s):t.lvl=l/\t.slot=s:=by
 unfold Tmr.pos at h;omega
theorem Inv.fst (h:Inv S []) (hl:l<11) (hs:s<64) (hb:(S.us l).testBit s=true) (K:∀j,j<s->(S.us l).testBit j=false) (T:∀k,k<l->S.us k=0):Fst S l s:=by
 refine⟨hl,hs,?_,?_⟩
 · have:=h.used l s hl hs
   rw[hb] at this;intro Y;rw[Y] at this;simp at this
 · intro t ht
   obtain⟨k1,k2⟩:=h.lvl' ht cP;have O:=h.mem_slot ht cP;have E:=h.used t.lvl t.slot k1 k2;have d6:(S.bs (64*t.lvl+t.slot)).isEmpty=false:=by
    have:S.bs t.pos≠[]:=λY=>by rw[Y] at O;simp at O
    simpa[Tmr.pos] using this
   rw[d6] at E;rcases Nat.lt_trichotomy t.lvl l with I|I|I
   · rw[T _ I] at E;simp at E
   · right
     refine⟨I,Nat.le_of_not_lt λh2=>?_⟩;rw[I,K _ h2] at E;simp at E
   · exact .inl I
theorem Inv.none (h:Inv S []) (K:∀k,k<11->S.us k=0):S.tms=[]:=by
 apply List.eq_nil_iff_forall_not_mem.2;intro t O;obtain⟨k1,k2⟩:=h.lvl' O cP;have I:=h.mem_slot O cP;have E:=h.used t.lvl t.slot k1 k2;rw[K _ k1] at E;have:S.bs t.pos≠[]:=λT=>by rw[T] at I;simp at I
 simp[Tmr.pos] at E this;exact this E
theorem Fst.lt (h:Inv S []) (f:Fst S l s) {u:Tmr} (O:t∈S.tms) (E:u∈S.tms) (I:t.pos=64*l+s) (K:u.pos≠64*l+s):t.due<u.due:=by
 obtain⟨k1,k2⟩:=h.lvl' O cP;obtain⟨Y,a2⟩:=jz f.hs k2 I;obtain⟨p1,p2⟩:=h.pl t O cP;obtain⟨q1,q2⟩:=h.pl u E cP;rcases f.ahead u E with T|⟨T,h2⟩
 · exact D7 (h.due u E).1 ai
 · have h3:s<u.slot:=by
    rcases Nat.lt_or_ge s u.slot with h3|h3
    · exact h3
    · exact absurd (by unfold Tmr.pos;omega) K
   rw[q2,T] at h3;rw[p2,Y] at a2;exact Bc (now:=S.now) (l:=l) ai ai ai
theorem Fst.start (h:Inv S []) (f:Fst S l s) (O:t∈S.tms):cx S.now l s<=t.due:=by
 obtain⟨b,hb⟩:=List.exists_mem_of_ne_nil _ f.has;have hi:64*l+s<704:=by have:=f.hl;have:=f.hs;omega
 obtain⟨v,T,_,E,_⟩:=h.of_slot hi hb;have d6:cx S.now l s<=v.due:=by
  obtain⟨k1,k2⟩:=h.lvl' T cP;obtain⟨Y,I⟩:=jz f.hs k2 E;obtain⟨p1,p2⟩:=h.pl v T cP;have:=xB (now:=S.now) (due:=v.due) (l:=l) ai;rw[p2,Y] at I;rw[I] at this;exact this
 by_cases K:t.pos=64*l+s
 · obtain⟨k1,k2⟩:=h.lvl' O cP
   obtain⟨Y,I⟩:=jz f.hs k2 K;obtain⟨p1,p2⟩:=h.pl t O cP;have:=xB (now:=S.now) (due:=t.due) (l:=l) ai;rw[p2,Y] at I;rw[I] at this;exact this
 · exact Nat.le_of_lt (Nat.lt_of_le_of_lt d6 (f.lt h T O E K))
theorem Inv.to0 (h:Inv S []) (f:Fst S 0 s):Inv {S with now:=max (cx S.now 0 s) S.now} []/\(∀t∈S.tms,t.pos=s->t.due=max (cx S.now 0 s) S.now):=by
 have Y:∀t∈S.tms,t.pos=s->t.due=cx S.now 0 s:=λt E hp=>by
  obtain⟨k1,k2⟩:=h.lvl' E cP;obtain⟨O,T⟩:=jz (l:=0) f.hs k2 ai;obtain⟨p1,K⟩:=h.pl t E cP;have:=Az (now:=S.now) (due:=t.due) ai;rw[K,O] at T;rw[<-T];exact this.symm
 obtain⟨b,hb⟩:=List.exists_mem_of_ne_nil _ f.has;obtain⟨v,hv,_,d6,_⟩:=h.of_slot (by have:=f.hs;omega) hb;have d7:=Y v hv ai;have d8:=h.due v hv;have hm:max (cx S.now 0 s) S.now=cx S.now 0 s:=ai;rw[hm];refine⟨⟨by show cx S.now 0 s<=_;omega,h.keys,h.blks,h.seqs,h.seqle,λt E=>⟨f.start h E,(h.due t E).2⟩,λt E hu=>?_,h.slot,h.used,h.uslt⟩,Y⟩;obtain⟨p1,K⟩:=h.pl t E hu;refine⟨?_,K⟩;show t.lvl=jY (cx S.now 0 s) t.due
 by_cases I:t.pos=s
 · have e1:=Y t E I
   obtain⟨k1,k2⟩:=h.lvl' E cP;obtain⟨O,T⟩:=jz (l:=0) f.hs k2 ai;rw[<-e1];simp[jY,O]
 · rw[qo f.hs ?_,p1]
   rcases f.ahead t E with h1|⟨h1,h2⟩
   · left;omega
   · right
     refine⟨ai,λe=>I ?_⟩;have e0:t.slot=s:=by rw[K,h1];exact e
     unfold Tmr.pos;omega
theorem Inv.toL (h:Inv S []) (hl:1<=l) (f:Fst S l s):max (cx S.now l s) S.now=cx S.now l s/\Inv ({S with now:=cx S.now l s}.clear l s) (S.bs (64*l+s)):=by
 have hi:64*l+s<704:=by have:=f.hl;have:=f.hs;omega
 obtain⟨b,hb⟩:=List.exists_mem_of_ne_nil _ f.has;obtain⟨v,Y,_,d8,_⟩:=h.of_slot hi hb;have f9:S.now<cx S.now l s:=by
  obtain⟨k1,k2⟩:=h.lvl' Y cP;obtain⟨a1,a2⟩:=jz f.hs k2 d8;obtain⟨p1,p2⟩:=h.pl v Y cP;have:=wO (now:=S.now) (due:=v.due) hl ai (h.due v Y).1;rw[p2,a1] at a2;rw[a2] at this;exact this
 have d6:∀t∈S.tms,t.blk∉S.bs (64*l+s)->t.pos≠64*l+s:=λt E hn K=>hn (K▸h.mem_slot E cP);have d7:∀t∈S.tms,t.pos≠64*l+s->t.blk∉S.bs (64*l+s):=λt E K hb=>by
  obtain⟨u,T,e,d9,_⟩:=h.of_slot hi hb;have:u=t:=fX h.blks T E e;exact K (this▸d9)
 refine⟨ai,?_⟩;refine⟨?_,h.keys,h.blks,h.seqs,h.seqle,λt E=>⟨f.start h E,(h.due t E).2⟩,λt E T=>?_,?_,?_,?_⟩
 · show cx S.now l s<=_
   exact Nat.le_trans (f.start h Y) (h.due v Y).2
 · obtain⟨p1,p2⟩:=h.pl t E cP
   refine⟨?_,p2⟩;show t.lvl=jY (cx S.now l s) t.due;have f8:=d6 t E T;rw[qo f.hs ?_,p1];rcases f.ahead t E with h1|⟨h1,h2⟩
   · left;omega
   · right
     refine⟨ai,λe=>f8 ?_⟩;have e0:t.slot=s:=by rw[p2,h1];exact e
     unfold Tmr.pos;omega
 · intro i f7
   show gg S.bs _ _ i=((S.tms.filter (nU (S.bs (64*l+s)) i)).map Tmr.blk)
   by_cases he:i=64*l+s
   · subst he
     rw[dJ];symm;rw[List.map_eq_nil_iff,List.filter_eq_nil_iff];intro t E O;simp only[nU,Bool.and_eq_true,Bool.not_eq_true',beq_iff_eq] at O;exact d6 t E (by simpa using O.1) O.2
   · rw[dc _ _ he,h.slot i f7]
     congr 1
     refine List.filter_congr λt E=>?_;simp only[nU]
     by_cases K:t.pos=i
     · have h1:=d7 t E ai
       simp[h1]
     · simp[K]
 · intro k j hk hj
   show(gg S.us _ _ k).testBit j=!(gg S.bs _ _ (64*k+j)).isEmpty;have T:=h.used k j hk hj
   by_cases K:64*k+j=64*l+s
   · have:k=l/\j=s:=by have:=f.hs;omega
     obtain⟨rfl,rfl⟩:=this;rw[dJ,dJ,ry f.hs (h.uslt _ f.hl)];simp
   · rw[dc _ _ K,<-T]
     by_cases I:k=l
     · subst I
       have:j≠s:=λe=>K ai;rw[dJ,ry f.hs (h.uslt _ f.hl)];simp[this]
     · rw[dc _ _ I]
 · intro k hk
   show gg S.us _ _ k<_
   by_cases I:k=l
   · subst I
     rw[dJ];exact clr_lt (h.uslt _ hk)
   · rw[dc _ _ I];exact h.uslt k hk
theorem Inv.stay (h:Inv S []) {to:Nat} (h1:S.now<=to) (T:to<=2 ^ 62) (K:S.tms=[]\/∃l s,Fst S l s/\to<cx S.now l s):Inv {S with now:=to} []/\∀t∈S.tms,to<t.due:=by
 rcases K with K|⟨l,s,f,O⟩
 · refine⟨⟨T,h.keys,h.blks,h.seqs,h.seqle,λt E=>?_,λt E=>?_,h.slot,h.used,h.uslt⟩,λt E=>?_⟩
   · have:t∈S.tms:=E
     rw[K] at this;cases this
   · have:t∈S.tms:=E
     rw[K] at this;cases this
   · rw[K] at E;cases E
 · have I:∀t∈S.tms,to<t.due:=λt E=>Nat.lt_of_lt_of_le O (f.start h E)
   refine⟨⟨T,h.keys,h.blks,h.seqs,h.seqle,λt E=>⟨Nat.le_of_lt (I t E),(h.due t E).2⟩,λt E hu=>?_,h.slot,h.used,h.uslt⟩,I⟩;obtain⟨p1,Y⟩:=h.pl t E hu;refine⟨?_,Y⟩;show t.lvl=jY to t.due;rw[Gh f.hs h1 O ?_,p1];rcases f.ahead t E with h3|⟨h3,h4⟩
   · left;omega
   · right
     refine⟨ai,?_⟩;rw[Y,h3] at h4;exact h4
def kd (t:Tmr):Pl×Nat:=(t.key,t.due)
end
structure Casc (S:WS) (l:Nat) (rest:List Nat):Prop where
 inv:Inv S rest
 nd:rest.Nodup
 mem:∀x∈rest,∃t∈S.tms,t.blk=x
 ord:rest.Pairwise λx y=>∀t∈S.tms,∀u∈S.tms,t.blk=x->u.blk=y->t.seq<u.seq
 low:∀t∈S.tms,t.blk∈rest->jY S.now t.due<l
 placed:∀u∈S.tms,u.blk∉rest->u.lvl<l->∀t∈S.tms,t.blk∈rest->u.seq<t.seq
 some:∃t∈S.tms,t.blk∈rest\/t.lvl<l
theorem Casc.begin {S:WS} (h:Inv S []) {l s:Nat} (hl:1<=l) (f:Fst S l s):Casc ({S with now:=cx S.now l s}.clear l s) l (S.bs (64*l+s)):=by
 have hi:64*l+s<704:=by have:=f.hl;have:=f.hs;omega
 have O:=(h.toL hl f).2;have T:=h.slot _ hi;have Y:∀t∈S.tms,t.pos=64*l+s->jY (cx S.now l s) t.due<l:=λt E hp=>by
  obtain⟨k1,k2⟩:=h.lvl' E cP;obtain⟨a1,a2⟩:=jz f.hs k2 hp;obtain⟨p1,p2⟩:=h.pl t E cP;have:=zu (now:=S.now) (due:=t.due) hl ai;rw[p2,a1] at a2;rw[a2] at this;exact this
 have d6:∀t∈S.tms,t.blk∈S.bs (64*l+s)->t.pos=64*l+s:=λt E I=>by
  obtain⟨u,K,e,d7,_⟩:=h.of_slot hi I;exact fX h.blks K E e▸d7
 obtain⟨b,I⟩:=List.exists_mem_of_ne_nil _ f.has;obtain⟨v,hv,d8,f7,_⟩:=h.of_slot hi I;refine⟨O,?_,?_,?_,λt E I=>Y t E (d6 t E I),?_,⟨v,hv,.inl (d8▸I)⟩⟩
 · rw[T]
   exact h.blks.sublist (List.filter_sublist.map _)
 · intro x hx
   obtain⟨t,E,e,_⟩:=h.of_slot hi hx;exact⟨t,E,e⟩
 · rw[T,List.pairwise_map]
   refine(h.seqs.sublist List.filter_sublist).imp_of_mem ?_;intro x y hx hy d9 t E u K e1 e2;have h1:=fX h.blks E (List.mem_filter.1 hx).1 e1;have h2:=fX h.blks K (List.mem_filter.1 hy).1 e2;rw[h1,h2];exact d9
 · intro u K _ f8 t E _
   have:=f.ahead u K;omega
theorem Casc.step {S:WS} {l x:Nat} {rest:List Nat} (h:Casc S l (x::rest)):∃a t b,S.tms=a++t::b/\t.blk=x/\(∀u∈S.tms,u.blk∉t.blk::rest->u.pos=(t.place S.now).pos->u.seq<t.seq)/\Casc (S.put a t b) l rest:=by
 obtain⟨t,ht,rfl⟩:=h.mem x cP;obtain⟨a,b,hS⟩:=List.append_of_mem ht;obtain⟨d7,f8⟩:=List.nodup_cons.1 h.nd;obtain⟨k1,k2,k3⟩:=sg h.inv ht;have Y:∀u∈S.tms,u.blk∉t.blk::rest->u.pos=(t.place S.now).pos->u.seq<t.seq:=λu I T hp=>by
  obtain⟨q1,q2⟩:=h.inv.lvl' I T;have t6:u.lvl=(t.place S.now).lvl:=by
   unfold Tmr.pos at hp;omega
  have:(t.place S.now).lvl<l:=h.low t ht cP;exact h.placed u I T ai t ht cP
 obtain⟨ha,hb⟩:=jA (f:=Tmr.blk) (t:=t) (by rw[<-hS];exact h.inv.blks);have d6:∀u,u∈(S.put a t b).tms->(u∈S.tms/\u.blk≠t.blk)\/u=t.place S.now:=λu I=>by
  have O:u∈a++t.place S.now::b:=I;rw[List.mem_append,List.mem_cons] at O;rcases O with E|E|E
  · exact .inl ⟨by rw[hS];simp[E],ha u E⟩
  · exact .inr E
  · exact .inl ⟨by rw[hS];simp[E],hb u E⟩
 have d9:t.place S.now∈(S.put a t b).tms:=by
  show _∈a++t.place S.now::b;simp
 have K:∀u∈(S.put a t b).tms,u.blk∈rest->u∈S.tms:=λu I hr=>by
  rcases d6 u I with E|rfl
  · exact E.1
  · exact absurd hr d7
 refine⟨a,t,b,hS,rfl,Y,h.inv.put hS d7 Y,f8,?_,?_,λu I hr=>h.low u (K u I hr) (by simp[hr]),?_,⟨_,d9,.inr (h.low t ht cP)⟩⟩
 · intro y hy
   obtain⟨u,I,e⟩:=h.mem y (by simp[hy]);have O:=I;rw[hS] at O;refine⟨u,?_,e⟩;show u∈a++t.place S.now::b;rcases List.mem_append.1 O with E|E
   · simp[E]
   · rcases List.mem_cons.1 E with rfl|E
     · exact absurd (e▸hy) d7
     · simp[E]
 · refine(List.pairwise_cons.1 h.ord).2.imp_of_mem ?_
   intro y z hy hz f9 u I v hv e1 e2;exact f9 u (K u I (e1▸hy)) v (K v hv (e2▸hz)) e1 e2
 · intro u I T mt v hv d8
   have f7:=K v hv d8;rcases d6 u I with E|rfl
   · exact h.placed u E.1 (by simp[E.2,T]) mt v f7 (by simp[d8])
   · exact(List.pairwise_cons.1 h.ord).1 v.blk d8 t ht v f7 rfl rfl
def IsMin (L:List (Pl×Nat)) (x:Pl×Nat) (E:List (Pl×Nat)):Prop:=∃a b,L=a++x::b/\E=a++b/\(∀y∈a,x.2<y.2)/\∀y∈b,x.2<=y.2
theorem Fst.min {S:WS} (h:Inv S []) {l s:Nat} (f:Fst S l s) {a b:List Tmr} {t:Tmr} (T:S.tms=a++t::b) (E:t.pos=64*l+s) (ha:∀u∈a,u.pos=64*l+s->t.due<u.due) (hb:∀u∈b,u.pos=64*l+s->t.due<=u.due):IsMin (S.tms.map kd) (kd t) ((a++b).map kd):=by
 have K:t∈S.tms:=by rw[T];simp
 refine⟨a.map kd,b.map kd,by rw[T];simp,by simp,?_,?_⟩
 · intro y Y
   obtain⟨u,I,rfl⟩:=List.mem_map.1 Y
   by_cases O:u.pos=64*l+s
   · exact ha u I O
   · exact f.lt h K (by rw[T];simp[I]) E O
 · intro y Y
   obtain⟨u,I,rfl⟩:=List.mem_map.1 Y
   by_cases O:u.pos=64*l+s
   · exact hb u I O
   · exact Nat.le_of_lt (f.lt h K (by rw[T];simp[I]) E O)
theorem Inv.head0 {S:WS} (h:Inv S []) {s:Nat} (f:Fst S 0 s):∃a t b,S.tms=a++t::b/\(S.bs (64*0+s))[0]?=some t.blk/\t.due=max (cx S.now 0 s) S.now/\IsMin (S.tms.map kd) (kd t) ((a++b).map kd):=by
 have hi:64*0+s<704:=by have:=f.hs;omega
 have E:=h.slot _ hi;have hz:=(h.to0 f).2;cases hf:S.tms.filter (nU [] (64*0+s)) with
 | nil=>
  rw[hf] at E;exact absurd E f.has
 | cons t r=>
  obtain⟨a,b,K,ha,ht,hb⟩:=List.filter_eq_cons_iff.1 hf;have T:t.pos=64*0+s:=by simpa[nU] using ht
  have Y:t∈S.tms:=by rw[K];simp
  have I:=hz t Y ai;refine⟨a,t,b,K,by rw[E,hf];rfl,I,f.min h K T (λu O hp=>?_) λu O hp=>?_⟩
  · have:=ha u O
    simp[nU,hp] at this
  · have:=hz u (by rw[K];simp[O]) ai
    omega
abbrev KD:=Pl×Nat
section
variable {L L1:List KD}
theorem IsMin.unique {x y:KD} {T:List KD} (h:IsMin L x L1) (k:IsMin L y T):x=y/\L1=T:=by
 obtain⟨a,b,e1,rfl,Y,hb⟩:=h;obtain⟨a',b',e2,rfl,K,O⟩:=k;rw[e1] at e2;rcases List.append_eq_append_iff.1 e2 with⟨as,I,E⟩|⟨as,I,E⟩
 · cases as with
   | nil=>
    simp at I E;obtain⟨rfl,rfl⟩:=E;subst I;exact⟨rfl,rfl⟩
   | cons z as=>
    simp only[List.cons_append,List.cons.injEq] at E;obtain⟨rfl,rfl⟩:=E;have h1:=K x (by rw[I];simp);have h2:=hb y cP;omega
 · cases as with
   | nil=>
    simp at I E;obtain⟨rfl,rfl⟩:=E;subst I;exact⟨rfl,rfl⟩
   | cons z as=>
    simp only[List.cons_append,List.cons.injEq] at E;obtain⟨rfl,rfl⟩:=E;have h1:=Y y (by rw[I];simp);have h2:=O x cP;omega
theorem IsMin.perm {x:KD} (h:IsMin L x L1):L.Perm (x::L1):=by
 obtain⟨a,b,rfl,rfl,_,_⟩:=h;exact List.perm_middle
theorem IsMin.le {x:KD} (h:IsMin L x L1):∀y∈L,x.2<=y.2:=by
 obtain⟨a,b,rfl,rfl,I,K⟩:=h;intro y E;rcases List.mem_append.1 E with E|E
 · exact Nat.le_of_lt (I y E)
 · rcases List.mem_cons.1 E with rfl|E
   · exact cm _
   · exact K y E
theorem IsMin.len {x:KD} (h:IsMin L x L1):L.length=L1.length+1:=by
 have:=h.perm.length_eq;simpa using this
theorem IsMin.mem {x:KD} (h:IsMin L x L1):x∈L:=h.perm.mem_iff.2 cP
end
inductive Pops (up:Nat):List KD->List KD->List KD->Prop where
 | done {L:List KD}:(∀y∈L,up<y.2)->Pops up L [] L
 | one {L L1 L2 o:List KD} {x:KD}:IsMin L x L1->x.2<=up->Pops up L1 o L2->Pops up L (x::o) L2
section
variable {F:List Tmr} {t:Tmr}
def Till (up:Nat) (I o L:List KD):Prop:=∀o' E,Pops up L o' E->Pops up I (o++o') E
theorem Till.refl (up:Nat) (L:List KD):Till up L [] L:=λ_ _ h=>h
theorem Pops.perm {up:Nat} {L o E:List KD} (h:Pops up L o E):L.Perm (o++E):=by
 induction h with
 | done _=>exact List.Perm.refl _
 | one I _ _ K=>exact I.perm.trans (List.Perm.cons _ K)
theorem Pops.len {up:Nat} {L o E:List KD} (h:Pops up L o E):L.length=o.length+E.length:=by
 have:=h.perm.length_eq;simpa using this
def WS.add (S:WS) (t:Tmr):WS:={S with seq:=S.seq+1,tms:=S.tms++[t]}
theorem Inv.add {S:WS} (h:Inv S []) {t:Tmr} (hk:t.key∉S.tms.map Tmr.key) (Y:t.blk∉S.tms.map Tmr.blk) (hs:t.seq=S.seq+1) (hd:S.now<=t.due/\t.due<=2 ^ 62):Inv (S.add t) [t.blk]:=by
 have I:∀u,u∈(S.add t).tms->u∈S.tms\/u=t:=λu E=>by
  have:u∈S.tms++[t]:=E;simpa using this
 refine⟨h.nowle,?_,?_,?_,?_,?_,?_,?_,h.used,h.uslt⟩
 · show((S.tms++[t]).map Tmr.key).Nodup
   rw[List.map_append,List.nodup_append];refine⟨h.keys,by simp,λx O y K e=>?_⟩;simp at K;exact hk (by rw[<-K,<-e];exact O)
 · show((S.tms++[t]).map Tmr.blk).Nodup
   rw[List.map_append,List.nodup_append];refine⟨h.blks,by simp,λx O y K e=>?_⟩;simp at K;exact Y (by rw[<-K,<-e];exact O)
 · show(S.tms++[t]).Pairwise _
   rw[List.pairwise_append];refine⟨h.seqs,by simp,λx O y K=>?_⟩;simp at K;subst K;have:=h.seqle x O;omega
 · intro u E
   show u.seq<=S.seq+1;rcases I u E with E|rfl
   · have:=h.seqle u E;omega
   · omega
 · intro u E
   rcases I u E with E|rfl
   · exact h.due u E
   · exact hd
 · intro u E T
   rcases I u E with E|rfl
   · exact h.pl u E cP
   · simp at T
 · intro i hi
   show S.bs i=((S.tms++[t]).filter (nU [t.blk] i)).map Tmr.blk;rw[h.slot i hi,List.filter_append];have h1:[t].filter (nU [t.blk] i)=[]:=by simp[nU]
   rw[h1,List.append_nil]
   congr 1
   refine List.filter_congr λu E=>?_;have:u.blk≠t.blk:=λe=>Y (e▸List.mem_map_of_mem E);simp[nU,this]
theorem Inv.add_low {S:WS} (h:Inv S []) (K:t.seq=S.seq+1):∀u∈(S.add t).tms,u.blk∉[t.blk]->u.seq<t.seq:=λu E I=>by
 have:u∈S.tms++[t]:=E;rcases List.mem_append.1 this with E|E
 · have:=h.seqle u E;omega
 · simp at E;subst E;simp at I
def Best (F:List Tmr) (i j:Nat) (t:Tmr):Prop:=F[j]?=some t/\j<i/\(∀k u,k<j->F[k]?=some u->t.due<u.due)/\∀k u,j<k->k<i->F[k]?=some u->t.due<=u.due
theorem Best.first (h:F[0]?=some t):Best F 1 0 t:=⟨h,ai,λk u E=>by omega,λk u I K=>by omega⟩
theorem Best.lt {i j:Nat} {u:Tmr} (h:Best F i j t) (Y:F.Pairwise λa b=>a.seq<b.seq) (O:F[i]?=some u) (I:u.due<t.due\/u.due=t.due/\u.seq<t.seq):Best F (i+1) i u:=by
 obtain⟨T,h2,h3,h4⟩:=h;have K:u.due<t.due:=by
  rcases I with I|⟨_,I⟩
  · exact I
  · obtain⟨hj,ej⟩:=gfGet.1 T
    obtain⟨hi,ei⟩:=gfGet.1 O;have:=List.pairwise_iff_getElem.1 Y j i hj hi h2;rw[ej,ei] at this;omega
 refine⟨O,ai,λk v hk E=>?_,λk v h5 h6=>by omega⟩;rcases Nat.lt_trichotomy k j with h|h|h
 · have:=h3 k v h E;omega
 · subst h
   rw[T] at E;injection E with E;subst E;exact K
 · have:=h4 k v h hk E;omega
theorem Best.fin {j:Nat} (h:Best F F.length j t):∃F1 F2,F=F1++t::F2/\(∀u∈F1,t.due<u.due)/\∀u∈F2,t.due<=u.due:=by
 obtain⟨K,h2,h3,O⟩:=h;obtain⟨T,Y⟩:=gfGet.1 K;refine⟨F.take j,F.drop (j+1),?_,λu I=>?_,λu I=>?_⟩
 · rw[<-Y,<-List.drop_eq_getElem_cons T,List.take_append_drop]
 · obtain⟨k,E⟩:=List.getElem?_of_mem I
   rw[List.getElem?_take] at E
   split at E
   · exact h3 k u (by assumption) E
   · cases E
 · obtain⟨k,E⟩:=List.getElem?_of_mem I
   rw[List.getElem?_drop] at E;exact O (j+1+k) u ai (gfGet.1 E).1 E
end
structure Sp where
 state:Int
 Lu:Int
 token:Nat
structure Rn where
 fl:Flow
 state:Int
 Lv:List Sp
 ended:Nat
structure En where
 now:Nat
 seed:Nat
 Lt:Nat
 Ls:Nat
 ends:Nat
 runs:List (Nat×Rn)
 Ly:List (Nat×Pl)
 Lx:List Pl
 tms:List KD
 sets:Nat
def En.getR (S:En) (id:Nat):Option Rn:=(S.runs.find? (·.1==id)).map (·.2)
def En.setR (S:En) (id:Nat) (R:Rn):En:={S with runs:=S.runs.map λr=>if r.1==id then(r.1,R) else r}
def Rn.setS (R:Rn) (k:Nat) (s:Sp):Rn:={R with Lv:=R.Lv.set k s}
def En.later (S:En) (n:Nat):Nat:=min (S.now+n) 4611686018427387904
def En.setT (S:En) (p:Pl) (a:Nat):En:={S with tms:=S.tms.filter (λx=>x.1 !=p)++[(p,a)],sets:=S.sets+1}
def En.unset (S:En) (p:Pl):En:={S with tms:=S.tms.filter λx=>x.1 !=p}
def En.unrun (S:En) (id:Nat):En:={S with runs:=S.runs.eraseP (·.1==id)}
def En.onS (S:En) (id k:Nat) (g:Sp->Sp):En:=match S.getR id with
 | some R=>match R.Lv[k]? with
  | some s=>S.setR id (R.setS k (g s))
  | none=>S
 | none=>S
def En.ready (S:En) (id k:Nat):En:={S.onS id k (λs=>{s with state:=2}) with Lx:=S.Lx++[⟨id,(k:Int),0⟩]}
def df (l:List Sp) (k:Nat) (x:Int):Bool:=match l[k]? with|some s=>s.state==x|none=>false
def fA (R:Rn) (k:Nat):Bool:=df R.Lv k 1&&(match R.fl.Lw[k]? with|some n=>n.after.all λu=>df R.Lv u.toNat 5|none=>false)
def En.wakeK (id:Nat) (S:En) (k:Nat):En:=match S.getR id with
 | some R=>if fA R k then S.ready id k else S
 | none=>S
def En.wakeN (S:En) (id n:Nat):En:=(List.range n).foldl (En.wakeK id) S
def En.wake (S:En) (id:Nat):En:=match S.getR id with|some R=>S.wakeN id R.fl.Lw.length|none=>S
def En.life (S:En) (p:Pl) (n:Node):En:=if 0<n.beat then S.setT ⟨p.run,p.node,2⟩ (S.later n.beat.toNat) else S
def En.leave (S:En) (id k:Nat):En:=match S.getR id with
 | some R=>match R.Lv[k]? with
  | some s=>(({S with Ly:=S.Ly.eraseP (·.1==s.token)}.setR id (R.setS k {s with token:=0})).unset ⟨id,(k:Int),1⟩).unset ⟨id,(k:Int),2⟩
  | none=>S
 | none=>S
def oK (id:Nat) (S:En) (k:Nat):En:=(S.leave id k).onS id k λs=>if s.state=5\/s.state=6 then s else {s with state:=7}
def En.endN (S:En) (id n:Nat):En:=(List.range n).foldl (oK id) S
def En.finish (S:En) (id:Nat) (st:Int):En:=match S.getR id with
 | some R=>
  let T:=({S with ends:=S.ends+1}.setR id {R with state:=st,ended:=S.ends+1}).unset ⟨id,-1,0⟩
  let U:=T.endN id R.Lv.length
  {U with Lx:=U.Lx.filter λp=>p.run !=id}
 | none=>S
def over (s:Sp):Bool:=s.state==5||s.state==6||s.state==7
def En.settle (S:En) (id:Nat):En:=match S.getR id with
 | some R=>if R.Lv.all over then S.finish id (if R.Lv.all λs=>s.state==5 then 2 else 3) else S
 | none=>S
def En.complete (S:En) (tok:Nat):En:=match (S.Ly.find? (·.1==tok)).map (·.2) with
 | some p=>(((S.leave p.run p.node.toNat).onS p.run p.node.toNat λs=>{s with state:=5}).wake p.run).settle p.run
 | none=>S
def dt (ns:List Node) (l:List Sp) (k:Nat):List Sp:=match l[k]?,ns[k]? with
 | some s,some n=>if s.state=1/\(n.after.any λu=>df l u.toNat 6||df l u.toNat 7) then l.set k {s with state:=7} else l
 | _,_=>l
section
variable {id k:Nat} {S:En} {R:Rn} {l:List Sp} {s:Sp}
theorem xX {l:List (Nat×Rn)} (k:Nat):(l.map λr=>if r.1==id then(r.1,R) else r).find? (·.1==k)=(l.find? (·.1==k)).map λr=>if r.1==id then(r.1,R) else r:=by
 induction l with
 | nil=>rfl
 | cons x l E=>
  simp only[List.map_cons,List.find?_cons];have h:(if x.1==id then(x.1,R) else x).1=x.1:=by split<;>rfl
  rw[h];cases x.1==k with
  | true=>rfl
  | false=>exact E
theorem dG {R':Rn} (h:S.getR id=some R):(S.setR id R').getR id=some R':=by
 unfold En.getR En.setR at *
 simp only;rw[xX];cases hf:S.runs.find? (·.1==id) with
 | none=>rw[hf] at h;cases h
 | some x=>
  have:x.1=id:=by simpa using List.find?_some hf
  simp[this]
theorem fI {R':Rn} (h:k≠id):(S.setR id R').getR k=S.getR k:=by
 unfold En.getR En.setR;simp only;rw[xX];cases hf:S.runs.find? (·.1==k) with
 | none=>rfl
 | some x=>
  have E:x.1=k:=by simpa using List.find?_some hf
  have I:¬x.1=id:=by rw[E];exact h
  simp[I]
theorem gJ {A B:Rn}:(S.setR id A).setR id B=S.setR id B:=by
 unfold En.setR;simp only[List.map_map]
 congr 1
 refine List.map_congr_left λx _=>?_;simp only[Function.comp_apply]
 by_cases h:x.1=id<;>simp[h]
theorem rH (g:Sp->Sp) (E:S.getR id=some R) (I:R.Lv[k]?=some s):S.onS id k g=S.setR id (R.setS k (g s)):=by
 unfold En.onS;rw[E];simp only[I]
theorem kH (E:S.getR id=some R) (I:R.Lv[k]?=some s):S.ready id k={S.setR id (R.setS k {s with state:=2}) with Lx:=S.Lx++[⟨id,(k:Int),0⟩]}:=by
 unfold En.ready;rw[rH _ E I]
theorem gc {x:Int} (h:l[k]?=some s):df l k x=(s.state==x):=by
 unfold df;rw[h]
theorem wu {x:Int} (h:df l k x=true):∃s,l[k]?=some s/\s.state=x:=by
 unfold df at h;cases hl:l[k]? with
 | none=>rw[hl] at h;cases h
 | some s=>rw[hl] at h;exact⟨s,rfl,by simpa using h⟩
end
structure SameR (R R':Rn):Prop where
 fl:R'.fl=R.fl
 state:R'.state=R.state
 ended:R'.ended=R.ended
 len:R'.Lv.length=R.Lv.length
section
variable {id k:Nat} {R:Rn} {S:En} {s:Sp}
theorem SameR.refl (R:Rn):SameR R R:=⟨rfl,rfl,rfl,rfl⟩
theorem SameR.trans {A B C:Rn} (h:SameR A B) (k:SameR B C):SameR A C:=⟨k.fl.trans h.fl,k.state.trans h.state,k.ended.trans h.ended,k.len.trans h.len⟩
theorem SameR.setS (R:Rn) (k:Nat) (s:Sp):SameR R (R.setS k s):=⟨rfl,rfl,rfl,by simp[Rn.setS]⟩
theorem F7 (E:S.getR id=some R):∃R',(En.wakeK id S k).getR id=some R'/\SameR R R'/\(En.wakeK id S k).Lx.length<=S.Lx.length+1:=by
 unfold En.wakeK;rw[E];simp only
 split
 · rename_i I
   have O:df R.Lv k 1=true:=by
    unfold fA at I;simp only[Bool.and_eq_true] at I;exact I.1
   obtain⟨s,K,_⟩:=wu O;rw[kH E K];refine⟨R.setS k {s with state:=2},dG E,SameR.setS _ _ _,?_⟩;simp
 · exact⟨R,E,SameR.refl R,Nat.le_succ _⟩
theorem nK {nd:Node} (E:R.Lv[k]?=some s) (I:R.fl.Lw[k]?=some nd):fA R k=(s.state==1&&nd.after.all λu=>df R.Lv u.toNat 5):=by
 unfold fA;rw[gc E,I]
theorem mY (E:S.getR id=some R):En.wakeK id S k=if fA R k then S.ready id k else S:=by
 unfold En.wakeK;rw[E]
theorem iR (S:En) (id n:Nat):S.wakeN id (n+1)=En.wakeK id (S.wakeN id n) n:=by
 unfold En.wakeN;rw[List.range_succ,List.foldl_append]
 rfl
theorem rP {S:En} {id:Nat} {R:Rn} (E:S.getR id=some R):∀n,∃R',(S.wakeN id n).getR id=some R'/\SameR R R'/\(S.wakeN id n).Lx.length<=S.Lx.length+n
 | 0=>⟨R,E,SameR.refl R,cm _⟩
 | n+1=>by
  obtain⟨T,I,K,h3⟩:=rP E n;obtain⟨O,k1,k2,Y⟩:=F7 (k:=n) I;rw[iR];exact⟨O,k1,K.trans k2,ai⟩
theorem fY (E:S.getR id=some R) (I:R.Lv[k]?=some s):S.leave id k=(({S with Ly:=S.Ly.eraseP (·.1==s.token)}.setR id (R.setS k {s with token:=0})).unset ⟨id,(k:Int),1⟩).unset ⟨id,(k:Int),2⟩:=by
 unfold En.leave;rw[E];simp only[I]
theorem dM {s':Sp} (E:R.Lv[k]?=some s):(R.setS k s').Lv[k]?=some s':=by
 have:=(gfGet.1 E).1;simp[Rn.setS,this]
theorem je (E:S.getR id=some R) (I:R.Lv[k]?=some s):(S.leave id k).getR id=some (R.setS k {s with token:=0}):=by
 rw[fY E I];exact dG (S:={S with Ly:=S.Ly.eraseP (·.1==s.token)}) E
theorem nG:(S.leave id k).tms.length<=S.tms.length:=by
 unfold En.leave
 split
 · split
   · exact Nat.le_trans (List.length_filter_le _ _) (List.length_filter_le _ _)
   · exact cm _
 · exact cm _
theorem ng:(S.leave id k).Lx=S.Lx:=by
 unfold En.leave
 split
 · split<;>rfl
 · rfl
def ij (s:Sp):Sp:=if s.state=5\/s.state=6 then s else {s with state:=7}
theorem rs (I:S.getR id=some R) (E:R.Lv[k]?=some s):oK id S k=(S.leave id k).setR id ((R.setS k {s with token:=0}).setS k (ij {s with token:=0})):=by
 unfold oK;rw[rH _ (je I E) (dM E)]
 rfl
theorem nE {a b:Sp}:(R.setS k a).setS k b=R.setS k b:=by
 unfold Rn.setS;simp
theorem Bg (E:S.getR id=some R) (I:R.Lv[k]?=some s):(S.leave id k).setR id (R.setS k {s with token:=0})=S.leave id k:=by
 rw[fY E I];show(((({S with Ly:=S.Ly.eraseP (·.1==s.token)}.setR id (R.setS k {s with token:=0})).setR id (R.setS k {s with token:=0})).unset ⟨id,(k:Int),1⟩).unset ⟨id,(k:Int),2⟩)=_;rw[gJ]
theorem nP (S:En) (id n:Nat):S.endN id (n+1)=oK id (S.endN id n) n:=by
 unfold En.endN;rw[List.range_succ,List.foldl_append]
 rfl
theorem CV {S:En} {id:Nat} {R:Rn} (I:S.getR id=some R):∀n,n<=R.Lv.length->∃R',(S.endN id n).getR id=some R'/\SameR R R'/\(S.endN id n).tms.length<=S.tms.length/\(S.endN id n).Lx=S.Lx
 | 0,_=>⟨R,I,SameR.refl R,cm _,rfl⟩
 | n+1,hn=>by
  obtain⟨E,K,O,h3,Y⟩:=CV I n ai;obtain⟨s,T⟩:∃s,E.Lv[n]?=some s:=⟨E.Lv[n]'(by rw[O.len];omega),by simp⟩;rw[nP,rs K T];refine⟨_,dG (je K T),O.trans ((SameR.setS E n _).trans (SameR.setS _ n _)),Nat.le_trans nG h3,?_⟩;show((S.endN id n).leave id n).Lx=_;rw[ng,Y]
theorem vo {st:Int} (E:S.getR id=some R):S.finish id st=(let T:=({S with ends:=S.ends+1}.setR id {R with state:=st,ended:=S.ends+1}).unset ⟨id,-1,0⟩
 let U:=T.endN id R.Lv.length
 {U with Lx:=U.Lx.filter λp=>p.run !=id}):=by
 unfold En.finish;rw[E]
end
def En.hand (S:En) (p:Pl) (q:List Pl) (R:Rn) (s:Sp) (nd:Node):En:=
 let T:={S with Lx:=q,Ls:=S.Ls+1}.setR p.run (R.setS p.node.toNat {state:=3,Lu:=s.Lu+1,token:=S.Ls+1})
 let U:={T with Ly:=T.Ly++[(S.Ls+1,p)]}
 (U.setT ⟨p.run,p.node,1⟩ (U.later nd.close.toNat)).life p nd
def Kg (S:En) (o:Option (Nat×Rn)):Prop:=(∀m,o=some m->m∈S.runs/\0<m.2.ended)/\∀r∈S.runs,0<r.2.ended->∃m,o=some m/\m.2.ended<=r.2.ended
theorem lQ {α:Type} {x r:α}:∀{l:List α} {j:Nat},l[j]?=some x->r∈l->r=x\/r∈l.eraseIdx j
 | [],_,h,_=>by simp at h
 | a::l,0,h,hr=>by
  simp at h;subst h;simpa using hr
 | a::l,j+1,h,hr=>by
  rw[List.eraseIdx_cons_succ];rcases List.mem_cons.1 hr with rfl|hr
  · exact .inr (List.mem_cons_self)
  · rcases lQ (l:=l) (j:=j) (by simpa using h) hr with E|E
    · exact .inl E
    · exact .inr (List.mem_cons_of_mem _ E)
abbrev s0:Sp:=⟨0,0,0⟩
abbrev s1:Sp:=⟨1,0,0⟩
def Rn.begun (fl:Flow):Rn:=⟨fl,1,List.replicate fl.Lw.length s1,0⟩
def Cut (S S0:En):Prop:=if S.runs.length=6 then ∃o,Kg S o/\S0=(match o with|some m=>S.unrun m.1|none=>S) else S0=S
def En.begin (S:En) (fl:Flow):En:={S with Lt:=S.Lt+1,runs:=S.runs++[(S.Lt+1,Rn.begun fl)]}
def En.submit (S:En) (fl:Flow):En:=(((S.begin fl).setT ⟨S.Lt+1,-1,0⟩ (S.later fl.deadline.toNat)).wake (S.Lt+1))
def En.fresh:En:=⟨0,0,0,0,0,[],[],[],[],0⟩
theorem tH {S:En} {fl:Flow} (h:∀r∈S.runs,r.1<=S.Lt):(S.begin fl).getR (S.Lt+1)=some (Rn.begun fl):=by
 unfold En.getR En.begin;simp only;rw[List.find?_append];have:S.runs.find? (·.1==S.Lt+1)=none:=by
  rw[List.find?_eq_none];intro r E;have:=h r E;simp;omega
 rw[this];simp
theorem DF (ns:List Node) (l:List Sp) (k:Nat):(dt ns l k).length=l.length:=by
 unfold dt
 split
 · split<;>simp
 · rfl
theorem nD (ns:List Node):∀(T:List Nat) (l:List Sp),(T.foldl (dt ns) l).length=l.length
 | [],_=>rfl
 | k::T,l=>by rw[List.foldl_cons,nD ns T,DF]
def Rn.turned (R:Rn) (k:Nat) (s:Sp) (st:Int):Rn:=(R.setS k {s with token:=0}).setS k {s with token:=0,state:=st}
def Rn.skips (R:Rn) (T:List Nat):Rn:={R with Lv:=T.foldl (dt R.fl.Lw) R.Lv}
def En.rests (S:En) (id k:Nat) (R:Rn) (s:Sp) (E:Nat):En:=((S.leave id k).setR id (R.turned k s 4)).setT ⟨id,(k:Int),1⟩ ((S.leave id k).later E)
def En.dies (S:En) (id k:Nat) (R:Rn) (s:Sp) (T:List Nat):En:=((S.leave id k).setR id ((R.turned k s 6).skips T)).settle id
def En.stp (S:En) (id k:Nat):Option Sp:=(S.getR id).bind λR=>R.Lv[k]?
structure SpOk (st:Int) (s:Sp) (n:Node):Prop where
 st1:1<=s.state
 st7:s.state<=7
 tr0:0<=s.Lu
 trb:s.Lu<=n.Lz
 low:s.state=1\/s.state=2\/s.state=4->s.Lu<n.Lz
 wait:s.state=1->s.Lu=0
 work:s.state=3->1<=s.Lu
 idle:s.state≠3->s.token=0
 dead:s.state=6->s.Lu=n.Lz
 over:st≠1->s.state=5\/s.state=6\/s.state=7
structure RnOk (ends:Nat) (R:Rn):Prop where
 fl:Fit R.fl
 len:R.Lv.length=R.fl.Lw.length
 sp:∀(k:Nat) (s:Sp) (n:Node),R.Lv[k]?=some s->R.fl.Lw[k]?=some n->SpOk R.state s n
 ended:R.ended=0<->R.state=1
 ends:R.ended<=ends
def Dl (R:Rn) (p:Pl):Prop:=R.state=1/\((p.node=-1/\p.what=0)\/∃(k:Nat) (s:Sp),p.node=k/\R.Lv[k]?=some s/\((p.what=1/\(s.state=3\/s.state=4))\/(p.what=2/\s.state=3)))
def Kq (S:En) (x:KD):Prop:=x.2<=4611686018427387904/\∃R,S.getR x.1.run=some R/\Dl R x.1
structure Ok (S:En):Prop where
 now:S.now<=4611686018427387904
 seed:S.seed<18446744073709551616
 ids:(S.runs.map (·.1)).Nodup
 low:∀i∈S.runs.map (·.1),1<=i/\i<=S.Lt
 six:S.runs.length<=6
 run:∀id R,S.getR id=some R->RnOk S.ends R
 tkeys:(S.Ly.map (·.1)).Nodup
 tlow:∀t∈S.Ly,1<=t.1/\t.1<=S.Ls
 Ly:∀t p,(t,p)∈S.Ly<->∃(id k:Nat) (s:Sp),p=⟨id,(k:Int),0⟩/\S.stp id k=some s/\s.state=3/\s.token=t
 qnd:S.Lx.Nodup
 Lx:∀p,p∈S.Lx<->∃(id k:Nat) (s:Sp),p=⟨id,(k:Int),0⟩/\S.stp id k=some s/\s.state=2
 knd:(S.tms.map (·.1)).Nodup
 tms:∀x∈S.tms,Kq S x
section
variable {id k:Nat} {S:En} {R:Rn} {s:Sp}
theorem Ok.node (h:Ok S) (K:S.getR id=some R) (E:R.Lv[k]?=some s):∃n,R.fl.Lw[k]?=some n/\SpOk R.state s n:=by
 have I:=h.run id R K;have O:=(gfGet.1 E).1;have:R.fl.Lw[k]?=some (R.fl.Lw[k]'(by rw[<-I.len];exact O)):=List.getElem?_eq_getElem _;exact⟨_,this,I.sp k s _ E this⟩
theorem jO (h:S.stp id k=some s):∃R,S.getR id=some R/\R.Lv[k]?=some s:=by
 unfold En.stp at h;cases hR:S.getR id with
 | none=>rw[hR] at h;cases h
 | some R=>rw[hR] at h;exact⟨R,rfl,h⟩
theorem iy (E:S.getR id=some R) (I:R.Lv[k]?=some s):S.stp id k=some s:=by
 unfold En.stp;rw[E];exact I
theorem j5 {a b:Nat} {i j:Nat} {u v:Int} (h:(⟨a,(i:Int),u⟩:Pl)=⟨b,(j:Int),v⟩):a=b/\i=j/\u=v:=by
 injection h with E I h3;exact⟨E,ai,h3⟩
theorem Gg {S':En} {s':Sp} (K:S.getR id=some R) (O:R.Lv[k]?=some s) (E:∀a,S'.getR a=if a=id then some (R.setS k s') else S.getR a) (a j:Nat):S'.stp a j=if a=id/\j=k then some s' else S.stp a j:=by
 unfold En.stp;rw[E]
 by_cases h:a=id
 · subst h
   rw[if_pos rfl,K];show(R.setS k s').Lv[j]?=_
   by_cases I:j=k
   · subst I
     rw[dM O];simp
   · rw[if_neg (λh=>I h.2)]
     show(R.Lv.set k s')[j]?=R.Lv[j]?;rw[List.getElem?_set_ne (Ne.symm I)]
 · rw[if_neg h,if_neg (λx=>h x.1)]
theorem Ok.turn {S':En} (h:Ok S) {s':Sp} {n:Node} (hR:S.getR id=some R) (hs:R.Lv[k]?=some s) (hn:R.fl.Lw[k]?=some n)
 (f9:S'.now<=4611686018427387904) (d9:S'.seed=S.seed) (I:S'.runs.map (·.1)=S.runs.map (·.1)) (t7:S'.Lt=S.Lt) (f7:S'.ends=S.ends) (T:∀a,S'.getR a=if a=id then some (R.setS k s') else S.getR a)
 (t8:SpOk R.state s' n) (tk:(S'.Ly.map (·.1)).Nodup) (tl:∀t∈S'.Ly,1<=t.1/\t.1<=S'.Ls)
 (ht:∀t p,(t,p)∈S'.Ly<->((t,p)∈S.Ly/\p≠⟨id,(k:Int),0⟩)\/(s'.state=3/\t=s'.token/\p=⟨id,(k:Int),0⟩))
 (qn:S'.Lx.Nodup) (hq:∀p,p∈S'.Lx<->(p∈S.Lx/\p≠⟨id,(k:Int),0⟩)\/(s'.state=2/\p=⟨id,(k:Int),0⟩))
 (kn:(S'.tms.map (·.1)).Nodup) (hk:∀x∈S'.tms,(x∈S.tms/\(x.1=⟨id,(k:Int),1⟩->s'.state=3\/s'.state=4)/\(x.1=⟨id,(k:Int),2⟩->s'.state=3))\/Kq S' x):Ok S':=by
 have O:=Gg hR hs T;refine⟨f9,d9▸h.seed,I▸h.ids,λi hi=>?_,?_,λa R' K=>?_,tk,tl,λt p=>?_,qn,λp=>?_,kn,λx hx=>?_⟩
 · rw[t7]
   rw[I] at hi;exact h.low i hi
 · have:=congrArg List.length I
   simp only[List.length_map] at this;have:=h.six;omega
 · rw[T] at K
   rw[f7]
   by_cases ha:a=id
   · rw[if_pos ha] at K
     injection K with K;subst K;have hr:=h.run id R hR;refine⟨hr.fl,by simpa[Rn.setS] using hr.len,λj u m hj hm=>?_,hr.ended,hr.ends⟩
     by_cases mt:j=k
     · subst mt
       rw[dM hs] at hj;injection hj with hj;subst hj;have d7:R.fl.Lw[j]?=some m:=hm;rw[hn] at d7;injection d7 with d7;subst d7;exact t8
     · have t6:(R.Lv.set k s')[j]?=some u:=hj
       rw[List.getElem?_set_ne (Ne.symm mt)] at t6;exact hr.sp j u m t6 hm
   · rw[if_neg ha] at K
     exact h.run a R' K
 · rw[ht,h.Ly]
   constructor
   · rintro(⟨⟨a,j,u,rfl,E,h2,h3⟩,f8⟩|⟨E,rfl,rfl⟩)
     · refine⟨a,j,u,rfl,?_,h2,h3⟩
       rw[O,if_neg]
       · exact E
       · rintro⟨rfl,rfl⟩
         exact f8 rfl
     · exact⟨id,k,s',rfl,by rw[O,if_pos ⟨rfl,rfl⟩],E,rfl⟩
   · rintro⟨a,j,u,rfl,E,h2,h3⟩
     rw[O] at E
     by_cases hc:a=id/\j=k
     · rw[if_pos hc] at E
       injection E with E;subst E;obtain⟨rfl,rfl⟩:=hc;exact .inr ⟨h2,h3.symm,rfl⟩
     · rw[if_neg hc] at E
       refine .inl ⟨⟨a,j,u,rfl,E,h2,h3⟩,λe=>?_⟩;obtain⟨e1,e2,_⟩:=j5 e;exact hc ⟨e1,e2⟩
 · rw[hq,h.Lx]
   constructor
   · rintro(⟨⟨a,j,u,rfl,E,h2⟩,f8⟩|⟨E,rfl⟩)
     · refine⟨a,j,u,rfl,?_,h2⟩
       rw[O,if_neg]
       · exact E
       · rintro⟨rfl,rfl⟩
         exact f8 rfl
     · exact⟨id,k,s',rfl,by rw[O,if_pos ⟨rfl,rfl⟩],E⟩
   · rintro⟨a,j,u,rfl,E,h2⟩
     rw[O] at E
     by_cases hc:a=id/\j=k
     · rw[if_pos hc] at E
       injection E with E;subst E;obtain⟨rfl,rfl⟩:=hc;exact .inr ⟨h2,rfl⟩
     · rw[if_neg hc] at E
       refine .inl ⟨⟨a,j,u,rfl,E,h2⟩,λe=>?_⟩;obtain⟨e1,e2,_⟩:=j5 e;exact hc ⟨e1,e2⟩
 · rcases hk x hx with⟨E,h2,h3⟩|E
   · obtain⟨hb,R1,Y,d8,d6⟩:=h.tms x E
     refine⟨hb,?_⟩;rw[T]
     by_cases ha:x.1.run=id
     · rw[if_pos ha]
       rw[ha,hR] at Y;injection Y with Y;subst Y;refine⟨_,rfl,d8,?_⟩;rcases d6 with d6|⟨j,u,e1,e2,e3⟩
       · exact .inl d6
       · refine .inr ?_
         by_cases hj:j=k
         · subst hj
           refine⟨j,s',e1,dM hs,?_⟩;rcases e3 with⟨e3,_⟩|⟨e3,_⟩
           · refine .inl ⟨e3,h2 ?_⟩
             obtain⟨⟨p1,p2,p3⟩,x2⟩:=x;simp only at ha e1 e3;rw[ha,e1,e3]
           · refine .inr ⟨e3,h3 ?_⟩
             obtain⟨⟨p1,p2,p3⟩,x2⟩:=x;simp only at ha e1 e3;rw[ha,e1,e3]
         · refine⟨j,u,e1,?_,e3⟩
           show(R.Lv.set k s')[j]?=some u;rw[List.getElem?_set_ne (Ne.symm hj)];exact e2
     · rw[if_neg ha]
       exact⟨R1,Y,d8,d6⟩
   · exact E
theorem setR_keys:(S.setR id R).runs.map (·.1)=S.runs.map (·.1):=by
 unfold En.setR;simp only[List.map_map];refine List.map_congr_left λx _=>?_;simp only[Function.comp_apply]
 split<;>rfl
theorem lI {R':Rn} (h:S.getR id=some R) (a:Nat):(S.setR id R').getR a=if a=id then some R' else S.getR a:=by
 by_cases E:a=id
 · subst E
   rw[if_pos rfl,dG h]
 · rw[if_neg E,fI E]
theorem SpOk.running {st:Int} {n:Node} (h:SpOk st s n) (I:s.state=1\/s.state=2\/s.state=3\/s.state=4):st=1:=by
 refine Classical.byContradiction λE=>?_;have:=h.over E;omega
theorem Ok.ready {S:En} (h:Ok S) {id k:Nat} {R:Rn} {s:Sp} (T:S.getR id=some R) (Y:R.Lv[k]?=some s) (d8:s.state=1\/(s.state=4/\∀x∈S.tms,x.1≠⟨id,(k:Int),1⟩)):Ok (S.ready id k):=by
 obtain⟨n,hn,hp⟩:=h.node T Y;rw[kH T Y];have d6:(⟨id,(k:Int),0⟩:Pl)∉S.Lx:=by
  rw[h.Lx];rintro⟨a,j,u,e,I,h2⟩;obtain⟨rfl,rfl,_⟩:=j5 e;rw[iy T Y] at I;injection I with I;subst I;omega
 have d9:∀t,(t,(⟨id,(k:Int),0⟩:Pl))∉S.Ly:=λt=>by
  rw[h.Ly];rintro⟨a,j,u,e,I,h2,_⟩;obtain⟨rfl,rfl,_⟩:=j5 e;rw[iy T Y] at I;injection I with I;subst I;omega
 have d7:=hp.running ai;refine h.turn (s':={s with state:=2}) T Y hn h.now rfl setR_keys rfl rfl (lI T) ?_ h.tkeys h.tlow ?_ ?_ ?_ h.knd ?_
 · exact⟨by show(1:Int)<=2;omega,by show(2:Int)<=7;omega,hp.tr0,hp.trb,λ_=>hp.low ai,λe=>absurd (show(2:Int)=1 from e) di,λe=>absurd (show(2:Int)=3 from e) di,λ_=>hp.idle ai,λe=>absurd (show(2:Int)=6 from e) di,λe=>absurd d7 e⟩
 · intro t p
   show(t,p)∈S.Ly<->_;constructor
   · intro O
     refine .inl ⟨O,?_⟩;rintro rfl;exact d9 t O
   · rintro(⟨O,_⟩|⟨e,_⟩)
     · exact O
     · exact absurd (show(2:Int)=3 from e) di
 · show(S.Lx++[_]).Nodup
   rw[List.nodup_append];exact⟨h.qnd,by simp,by
    intro a ha b hb;simp at hb;subst hb;rintro rfl;exact d6 ha⟩
 · intro p
   show p∈S.Lx++[_]<->_;rw[List.mem_append,List.mem_singleton];constructor
   · rintro(O|rfl)
     · refine .inl ⟨O,?_⟩
       rintro rfl;exact d6 O
     · exact .inr ⟨rfl,rfl⟩
   · rintro(⟨O,_⟩|⟨_,rfl⟩)
     · exact .inl O
     · exact .inr rfl
 · intro x hx
   refine .inl ⟨hx,λe=>?_,λe=>?_⟩
   · exfalso
     rcases d8 with I|⟨_,I⟩
     · obtain⟨_,R1,E,_,K⟩:=h.tms x hx
       rw[e] at E K;rw[T] at E;injection E with E;subst E;rcases K with⟨e1,_⟩|⟨j,u,e1,e2,e3⟩
       · simp only at e1;omega
       · have:k=j:=by simp only at e1;omega
         subst this;rw[Y] at e2;injection e2 with e2;subst e2;simp only at e3;omega
     · exact I x hx e
   · exfalso
     obtain⟨_,R1,E,_,K⟩:=h.tms x hx;rw[e] at E K;rw[T] at E;injection E with E;subst E;rcases K with⟨e1,_⟩|⟨j,u,e1,e2,e3⟩
     · simp only at e1;omega
     · have:k=j:=by simp only at e1;omega
       subst this;rw[Y] at e2;injection e2 with e2;subst e2;simp only at e3;omega
theorem Ok.wakeK {S:En} (h:Ok S) (id k:Nat):Ok (En.wakeK id S k):=by
 cases hR:S.getR id with
 | none=>unfold En.wakeK;rw[hR];exact h
 | some R=>
  rw[mY hR]
  split
  · rename_i E
    have O:df R.Lv k 1=true:=by
     unfold fA at E;simp only[Bool.and_eq_true] at E;exact E.1
    obtain⟨s,I,K⟩:=wu O;exact h.ready hR I (.inl K)
  · exact h
theorem Ok.wakeN {S:En} (h:Ok S) (id:Nat):∀n,Ok (S.wakeN id n)
 | 0=>h
 | n+1=>by
  rw[iR];exact(Ok.wakeN h id n).wakeK id n
theorem Ok.wake {S:En} (h:Ok S) (id:Nat):Ok (S.wake id):=by
 unfold En.wake
 split
 · exact h.wakeN id _
 · exact h
end
section
variable {S:En} {id k:Nat} {R:Rn} {s:Sp}
theorem ot {t:Nat}:∀{l:List (Nat×Pl)},(l.map (·.1)).Nodup->∀x,x∈l.eraseP (·.1==t)<->x∈l/\x.1≠t
 | [],_,x=>by simp
 | y::l,hn,x=>by
  simp only[List.map_cons,List.nodup_cons] at hn;rw[List.eraseP_cons]
  by_cases I:y.1=t
  · have:(y.1==t)=true:=by simpa using I
    rw[this,cond_true];constructor
    · intro E
      refine⟨.tail _ E,λe=>hn.1 ?_⟩;rw[I,<-e];exact List.mem_map_of_mem (f:=(·.1)) E
    · rintro⟨E,K⟩
      rcases List.mem_cons.1 E with rfl|E
      · exact absurd I K
      · exact E
  · have:(y.1==t)=false:=by simpa using I
    rw[this,cond_false,List.mem_cons,ot hn.2,List.mem_cons];constructor
    · rintro(rfl|⟨O,T⟩)
      · exact⟨.inl rfl,I⟩
      · exact⟨.inr O,T⟩
    · rintro⟨rfl|O,T⟩
      · exact .inl rfl
      · exact .inr ⟨O,T⟩
theorem kl {α β:Type} {f:α->β} {l m:List α} (h:(l.map f).Nodup) (s:m.Sublist l):(m.map f).Nodup:=h.sublist (s.map f)
theorem Ok.times (h:Ok S) {now sets:Nat} {tms:List KD} (E:now<=4611686018427387904) (I:(tms.map (·.1)).Nodup) (K:∀x∈tms,Kq S x):Ok {S with now:=now,tms:=tms,sets:=sets}:=
 ⟨E,h.seed,h.ids,h.low,h.six,h.run,h.tkeys,h.tlow,h.Ly,h.qnd,h.Lx,I,K⟩
theorem Ok.setT {S:En} (h:Ok S) {p:Pl} {a:Nat} (K:a<=4611686018427387904) {R:Rn} (O:S.getR p.run=some R) (T:Dl R p):Ok (S.setT p a):=by
 refine h.times (now:=S.now) h.now ?_ ?_
 · rw[List.map_append,List.nodup_append]
   refine⟨kl h.knd List.filter_sublist,by simp,?_⟩;intro x E y I;simp at I;subst I;rintro rfl;obtain⟨u,Y,rfl⟩:=List.mem_map.1 E;have:=(List.mem_filter.1 Y).2;simp at this
 · intro x E
   rcases List.mem_append.1 E with E|E
   · exact h.tms x (List.mem_filter.1 E).1
   · rw[List.mem_singleton] at E
     subst E;exact⟨K,R,O,T⟩
theorem m4 (S:En) (n:Nat):S.later n<=4611686018427387904:=by unfold En.later;omega
theorem Ok.life {S:En} (h:Ok S) {id k:Nat} {wh:Int} {R:Rn} {s:Sp} (n:Node) (E:S.getR id=some R) (I:R.Lv[k]?=some s) (h3:s.state=3):Ok (S.life ⟨id,(k:Int),wh⟩ n):=by
 unfold En.life
 split
 · obtain⟨_,_,K⟩:=h.node E I
   exact h.setT (m4 _ _) E ⟨K.running ai,.inr ⟨k,s,rfl,I,.inr ⟨rfl,h3⟩⟩⟩
 · exact h
theorem wg {st:Int} (E:S.getR id=some R) (I:R.Lv[k]?=some s):(S.leave id k).setR id ((R.setS k {s with token:=0}).setS k {s with token:=0,state:=st})={S.setR id (R.setS k ⟨st,s.Lu,0⟩) with Ly:=S.Ly.eraseP (·.1==s.token),tms:=(S.tms.filter λx=>x.1 !=⟨id,(k:Int),1⟩).filter λx=>x.1 !=⟨id,(k:Int),2⟩}:=by
 rw[nE,fY E I];show((({S with Ly:=S.Ly.eraseP (·.1==s.token)}.setR id (R.setS k {s with token:=0})).setR id _).unset _).unset _=_;rw[gJ]
 rfl
theorem Ok.task (h:Ok S) (E:S.getR id=some R) (I:R.Lv[k]?=some s) (h3:s.state=3):(s.token,(⟨id,(k:Int),0⟩:Pl))∈S.Ly:=by
 rw[h.Ly];exact⟨id,k,s,rfl,iy E I,h3,rfl⟩
theorem Ok.part (h:Ok S) {n:Node} (K:S.getR id=some R) (T:R.Lv[k]?=some s) (hn:R.fl.Lw[k]?=some n) (h3:s.state=3) {st:Int} (d8:st=5\/(st=4/\s.Lu<n.Lz)\/(st=6/\s.Lu=n.Lz)):Ok ((S.leave id k).setR id ((R.setS k {s with token:=0}).setS k {s with token:=0,state:=st})):=by
 rw[wg K T];have hp:=(h.run id R K).sp k s n T hn;have Y:=hp.running ai;have d6:=h.task K T h3;have d7:(⟨id,(k:Int),0⟩:Pl)∉S.Lx:=by
  rw[h.Lx];rintro⟨a,j,u,e,E,h2⟩;obtain⟨rfl,rfl,_⟩:=j5 e;rw[iy K T] at E;injection E with E;subst E;omega
 refine h.turn (s':=⟨st,s.Lu,0⟩) K T hn h.now rfl setR_keys rfl rfl (lI K) ?_ (kl h.tkeys List.eraseP_sublist) (λt ht=>h.tlow t (List.mem_of_mem_eraseP ht)) ?_ h.qnd ?_ (kl h.knd (List.filter_sublist.trans List.filter_sublist)) ?_
 · exact⟨by show 1<=st;omega,by show st<=7;omega,hp.tr0,hp.trb,λe=>by replace e:st=1\/st=2\/st=4:=e;show s.Lu<_;omega,λe=>by replace e:st=1:=e;omega,λe=>by replace e:st=3:=e;omega,λ_=>rfl,λe=>by replace e:st=6:=e;show s.Lu=_;omega,λe=>absurd Y e⟩
 · intro t p
   show(t,p)∈S.Ly.eraseP (·.1==s.token)<->_;rw[ot h.tkeys];constructor
   · rintro⟨I,O⟩
     refine .inl ⟨I,?_⟩;rintro rfl;obtain⟨a,j,u,e,E,h2,h4⟩:=(h.Ly _ _).1 I;obtain⟨rfl,rfl,_⟩:=j5 e;rw[iy K T] at E;injection E with E;subst E;exact O h4.symm
   · rintro(⟨I,O⟩|⟨e,_⟩)
     · refine⟨I,λe=>O ?_⟩
       have:=fX h.tkeys I d6 e;injection this
     · replace e:st=3:=e
       omega
 · intro p
   show p∈S.Lx<->_;constructor
   · intro I
     refine .inl ⟨I,?_⟩;rintro rfl;exact d7 I
   · rintro(⟨I,_⟩|⟨e,_⟩)
     · exact I
     · replace e:st=2:=e
       omega
 · intro x hx
   obtain⟨E,h2⟩:=List.mem_filter.1 hx;obtain⟨h4,h5⟩:=List.mem_filter.1 E;refine .inl ⟨h4,λe=>?_,λe=>?_⟩
   · rw[e] at h5;simp at h5
   · rw[e] at h2;simp at h2
def En.handT (S:En) (id k:Nat) (q:List Pl) (R:Rn) (s:Sp):En:={S.setR id (R.setS k ⟨3,s.Lu+1,S.Ls+1⟩) with Lx:=q,Ls:=S.Ls+1,Ly:=S.Ly++[(S.Ls+1,⟨id,(k:Int),0⟩)]}
theorem Ok.handT {S:En} (h:Ok S) {id k:Nat} {q:List Pl} (hq:S.Lx=⟨id,(k:Int),0⟩::q) {R:Rn} {s:Sp} {n:Node} (T:S.getR id=some R) (hs:R.Lv[k]?=some s) (hn:R.fl.Lw[k]?=some n):s.state=2/\Ok (S.handT id k q R s):=by
 have h2:s.state=2:=by
  obtain⟨a,j,u,e,I,h2⟩:=(h.Lx ⟨id,(k:Int),0⟩).1 (by rw[hq];exact .head _);obtain⟨rfl,rfl,_⟩:=j5 e;rw[iy T hs] at I;injection I with I;subst I;exact h2
 refine⟨h2,?_⟩;have hp:=(h.run id R T).sp k s n hs hn;have Y:=hp.running ai;have O:=h.qnd;rw[hq,List.nodup_cons] at O;have d7:∀t∈S.Ly,t.1≠S.Ls+1:=λt K e=>by have:=(h.tlow t K).2;omega
 have d8:∀t,(t,(⟨id,(k:Int),0⟩:Pl))∉S.Ly:=λt=>by
  rw[h.Ly];rintro⟨a,j,u,e,I,h4,_⟩;obtain⟨rfl,rfl,_⟩:=j5 e;rw[iy T hs] at I;injection I with I;subst I;omega
 refine h.turn (s':=⟨3,s.Lu+1,S.Ls+1⟩) T hs hn h.now rfl setR_keys rfl rfl (lI T) ?_ ?_ ?_ ?_ O.2 ?_ h.knd ?_
 · have h5:=hp.low ai
   have h6:=hp.tr0;exact⟨by show(1:Int)<=3;omega,by show(3:Int)<=7;omega,by show 0<=s.Lu+1;omega,by show s.Lu+1<=_;omega,λe=>by replace e:(3:Int)=1\/(3:Int)=2\/(3:Int)=4:=e;omega,λe=>by replace e:(3:Int)=1:=e;omega,λ_=>by show 1<=s.Lu+1;omega,λe=>absurd rfl e,λe=>by replace e:(3:Int)=6:=e;omega,λe=>absurd Y e⟩
 · show((S.Ly++[(S.Ls+1,(⟨id,(k:Int),0⟩:Pl))]).map (·.1)).Nodup
   rw[List.map_append,List.nodup_append];refine⟨h.tkeys,by simp,?_⟩;intro x hx y hy;simp at hy;subst hy;rintro rfl;obtain⟨u,hu,he⟩:=List.mem_map.1 hx;exact d7 u hu he
 · intro t K
   show 1<=t.1/\t.1<=S.Ls+1;rcases List.mem_append.1 K with K|K
   · have:=h.tlow t K
     omega
   · rw[List.mem_singleton] at K
     subst K;exact⟨by show 1<=S.Ls+1;omega,by show S.Ls+1<=S.Ls+1;omega⟩
 · intro t p
   show(t,p)∈S.Ly++[(S.Ls+1,(⟨id,(k:Int),0⟩:Pl))]<->_;rw[List.mem_append,List.mem_singleton];constructor
   · rintro(E|e)
     · refine .inl ⟨E,?_⟩
       rintro rfl;exact d8 t E
     · injection e with e1 e2
       exact .inr ⟨rfl,e1,e2⟩
   · rintro(⟨E,_⟩|⟨_,rfl,rfl⟩)
     · exact .inl E
     · exact .inr rfl
 · intro p
   show p∈q<->_;rw[hq];constructor
   · intro E
     refine .inl ⟨.tail _ E,?_⟩;rintro rfl;exact O.1 E
   · rintro(⟨E,d6⟩|⟨e,_⟩)
     · rcases List.mem_cons.1 E with rfl|E
       · exact absurd rfl d6
       · exact E
     · exact absurd (show(3:Int)=2 from e) di
 · intro x hx
   exact .inl ⟨hx,λ_=>.inl rfl,λ_=>rfl⟩
end
structure EndAt (S U:En) (id:Nat) (RT:Rn) (n:Nat):Prop where
 run:∃R',U.getR id=some R'/\R'.fl=RT.fl/\R'.state=RT.state/\R'.ended=RT.ended/\R'.Lv.length=RT.Lv.length/\∀(j:Nat) (s:Sp),RT.Lv[j]?=some s->R'.Lv[j]?=some (if j<n then ij {s with token:=0} else s)
 others:∀a,a≠id->U.getR a=S.getR a
 keys:U.runs.map (·.1)=S.runs.map (·.1)
 tsub:U.Ly.Sublist S.Ly
 Ly:∀t p,(t,p)∈U.Ly<->(t,p)∈S.Ly/\∀j:Nat,j<n->p≠⟨id,(j:Int),0⟩
 msub:U.tms.Sublist S.tms
 tms:∀x,x∈U.tms<->x∈S.tms/\∀j:Nat,j<n->x.1≠⟨id,(j:Int),1⟩/\x.1≠⟨id,(j:Int),2⟩
 Lx:U.Lx=S.Lx
 now:U.now=S.now
 seed:U.seed=S.seed
 Lt:U.Lt=S.Lt
 Ls:U.Ls=S.Ls
 ends:U.ends=S.ends
 sets:U.sets=S.sets
structure TaskAt (T:En) (id:Nat) (RT:Rn):Prop where
 get:T.getR id=some RT
 keys:(T.Ly.map (·.1)).Nodup
 low:∀t∈T.Ly,1<=t.1
 Ly:∀t (k:Nat),(t,(⟨id,(k:Int),0⟩:Pl))∈T.Ly<->∃s,RT.Lv[k]?=some s/\s.state=3/\s.token=t
 idle:∀(k:Nat) (s:Sp),RT.Lv[k]?=some s->s.state≠3->s.token=0
theorem CW {T:En} {id:Nat} {RT:Rn} (h:TaskAt T id RT):∀n,n<=RT.Lv.length->EndAt T (T.endN id n) id RT n
 | 0,_=>⟨⟨RT,h.get,rfl,rfl,rfl,rfl,λj s K=>by simpa using K⟩,λ_ _=>rfl,rfl,List.Sublist.refl _,λt p=>by simp[En.endN],List.Sublist.refl _,λx=>by simp[En.endN],rfl,rfl,rfl,rfl,rfl,rfl,rfl⟩
 | n+1,hn=>by
  have E:=CW h n ai;obtain⟨R',g1,g2,g3,g4,g5,g6⟩:=E.run;obtain⟨s,hs⟩:∃s,RT.Lv[n]?=some s:=⟨RT.Lv[n]'ai,by simp⟩;have d6:R'.Lv[n]?=some s:=by simpa using g6 n s hs
  rw[nP,rs g1 d6];have f7:=wg (st:=(ij {s with token:=0}).state) g1 d6;have f8:({({s with token:=0}:Sp) with state:=(ij {s with token:=0}).state}:Sp)=ij {s with token:=0}:=by
   unfold ij
   split<;>rfl
  have d7:(⟨(ij {s with token:=0}).state,s.Lu,0⟩:Sp)=ij {s with token:=0}:=by
   unfold ij
   split<;>rfl
  have d8:((T.endN id n).leave id n).setR id ((R'.setS n {s with token:=0}).setS n (ij {s with token:=0}))={(T.endN id n).setR id (R'.setS n (ij {s with token:=0})) with Ly:=(T.endN id n).Ly.eraseP (·.1==s.token),tms:=((T.endN id n).tms.filter λx=>x.1 !=⟨id,(n:Int),1⟩).filter λx=>x.1 !=⟨id,(n:Int),2⟩}:=by
   rw[<-d7,<-f7]
  rw[d8];refine⟨⟨R'.setS n (ij {s with token:=0}),dG g1,g2,g3,g4,by simpa[Rn.setS] using g5,λj u K=>?_⟩,λa ha=>?_,?_,(List.eraseP_sublist).trans E.tsub,λt p=>?_,(List.filter_sublist.trans List.filter_sublist).trans E.msub,λx=>?_,E.Lx,E.now,E.seed,E.Lt,E.Ls,E.ends,E.sets⟩
  · show(R'.Lv.set n _)[j]?=_
    by_cases I:j=n
    · subst I
      rw[hs] at K;injection K with K;subst K;rw[List.getElem?_set_self (by rw[g5];omega),if_pos ai]
    · rw[List.getElem?_set_ne (Ne.symm I),g6 j u K]
      by_cases d9:j<n
      · rw[if_pos d9,if_pos ai]
      · rw[if_neg d9,if_neg ai]
  · show((T.endN id n).setR id _).getR a=_
    rw[fI ha,E.others a ha]
  · show((T.endN id n).setR id _).runs.map (·.1)=_
    rw[setR_keys,E.keys]
  · show(t,p)∈(T.endN id n).Ly.eraseP (·.1==s.token)<->_
    rw[ot (kl h.keys E.tsub),E.Ly];constructor
    · rintro⟨⟨O,Y⟩,h3⟩
      refine⟨O,λj K=>?_⟩
      by_cases I:j=n
      · subst I
        rintro rfl;obtain⟨u,hu,_,h5⟩:=(h.Ly t j).1 O;rw[hs] at hu;injection hu with hu;subst hu;exact h3 h5.symm
      · exact Y j ai
    · rintro⟨O,Y⟩
      refine⟨⟨O,λj K=>Y j ai⟩,λe=>?_⟩
      by_cases h3:s.state=3
      · have h4:(s.token,(⟨id,(n:Int),0⟩:Pl))∈T.Ly:=(h.Ly _ _).2 ⟨s,hs,h3,rfl⟩
        have:=fX h.keys O h4 e;injection this with _ e2;exact Y n ai e2
      · have:=h.idle n s hs h3
        have h5:=h.low _ O;replace e:t=s.token:=e;simp only at h5;omega
  · show x∈((T.endN id n).tms.filter λx=>x.1 !=⟨id,(n:Int),1⟩).filter (λx=>x.1 !=⟨id,(n:Int),2⟩)<->_
    rw[List.mem_filter,List.mem_filter,E.tms];constructor
    · rintro⟨⟨⟨O,Y⟩,h3⟩,h4⟩
      refine⟨O,λj K=>?_⟩
      by_cases I:j=n
      · subst I
        exact⟨by simpa using h3,by simpa using h4⟩
      · exact Y j ai
    · rintro⟨O,Y⟩
      exact⟨⟨⟨O,λj K=>Y j ai⟩,by simpa using(Y n ai).1⟩,by simpa using(Y n ai).2⟩
theorem RnOk.mono {a b:Nat} {R:Rn} (h:RnOk a R) (E:a<=b):RnOk b R:=⟨h.fl,h.len,h.sp,h.ended,Nat.le_trans h.ends E⟩
structure Ended (S U:En) (id:Nat) (st:Int) (R:Rn):Prop where
 run:∃R',U.getR id=some R'/\R'.fl=R.fl/\R'.state=st/\R'.ended=S.ends+1/\R'.Lv.length=R.Lv.length/\∀(j:Nat) (s:Sp),R.Lv[j]?=some s->R'.Lv[j]?=some (ij {s with token:=0})
 others:∀a,a≠id->U.getR a=S.getR a
 keys:U.runs.map (·.1)=S.runs.map (·.1)
 tsub:U.Ly.Sublist S.Ly
 Ly:∀t p,(t,p)∈U.Ly<->(t,p)∈S.Ly/\p.run≠id
 msub:U.tms.Sublist S.tms
 tms:∀x,x∈U.tms<->x∈S.tms/\x.1.run≠id
 Lx:U.Lx=S.Lx.filter λp=>p.run !=id
 now:U.now=S.now
 seed:U.seed=S.seed
 Lt:U.Lt=S.Lt
 Ls:U.Ls=S.Ls
 ends:U.ends=S.ends+1
 sets:U.sets=S.sets
section
variable {id k:Nat} {S:En} {R:Rn} {s:Sp}
theorem Ok.ended {S:En} (h:Ok S) {id:Nat} {R:Rn} (hR:S.getR id=some R) (st:Int):Ended S (S.finish id st) id st R:=by
 rw[vo hR];simp only;obtain⟨RT,d6⟩:∃RT:Rn,RT={R with state:=st,ended:=S.ends+1}:=⟨_,rfl⟩;obtain⟨T,hT⟩:∃T,T=({S with ends:=S.ends+1}.setR id RT).unset ⟨id,-1,0⟩:=⟨_,rfl⟩;rw[<-d6,<-hT];have I:RT.Lv=R.Lv:=by rw[d6]
 have d8:∀a,T.getR a=if a=id then some RT else S.getR a:=λa=>by
  rw[hT];exact lI (S:={S with ends:=S.ends+1}) hR a
 have d7:T.Ly=S.Ly:=by rw[hT];rfl
 have f8:T.tms=S.tms.filter λx=>x.1 !=⟨id,-1,0⟩:=by rw[hT];rfl
 have d9:T.runs.map (·.1)=S.runs.map (·.1):=by rw[hT];exact setR_keys (S:={S with ends:=S.ends+1})
 have ht:TaskAt T id RT:=by
  refine⟨by rw[d8,if_pos rfl],by rw[d7];exact h.tkeys,λt ht=>(h.tlow t (by rw[<-d7];exact ht)).1,λt k=>?_,λk s hs=>?_⟩
  · rw[d7,h.Ly,I]
    constructor
    · rintro⟨a,j,s,e,K,O,h3⟩
      obtain⟨rfl,rfl,_⟩:=j5 e;obtain⟨R1,E,h4⟩:=jO K;rw[hR] at E;injection E with E;subst E;exact⟨s,h4,O,h3⟩
    · rintro⟨s,K,O,h3⟩
      exact⟨id,k,s,rfl,iy hR K,O,h3⟩
  · rw[I] at hs
    obtain⟨n,_,hp⟩:=h.node hR hs;exact hp.idle
 have f9:R.Lv.length<=RT.Lv.length:=by rw[I];exact cm _
 have Y:=CW ht R.Lv.length f9;obtain⟨U,mt⟩:∃U,U=T.endN id R.Lv.length:=⟨_,rfl⟩;rw[<-mt] at Y ⊢;obtain⟨R',g1,g2,g3,g4,g5,g6⟩:=Y.run;have t6:∀t p,(t,p)∈S.Ly->p.run=id->∃j:Nat,j<R.Lv.length/\p=⟨id,(j:Int),0⟩:=λt p hm hp=>by
  obtain⟨a,j,s,rfl,K,O,h3⟩:=(h.Ly t p).1 hm;replace hp:a=id:=hp;subst hp;obtain⟨R1,E,h4⟩:=jO K;rw[hR] at E;injection E with E;subst E;exact⟨j,(gfGet.1 h4).1,rfl⟩
 refine⟨⟨R',g1,by rw[g2,d6],by rw[g3,d6],by rw[g4,d6],by rw[g5,I],λj s hj=>?_⟩,λa ha=>?_,?_,?_,λt p=>?_,?_,λx=>?_,?_,?_,?_,?_,?_,?_,?_⟩
 · have:=g6 j s (by rw[I];exact hj)
   rw[if_pos (gfGet.1 hj).1] at this;exact this
 · show U.getR a=_
   rw[Y.others a ha,d8,if_neg ha]
 · exact Y.keys.trans d9
 · exact d7▸Y.tsub
 · show(t,p)∈U.Ly<->_
   rw[Y.Ly,d7];constructor
   · rintro⟨K,O⟩
     refine⟨K,λe=>?_⟩;obtain⟨j,hj,he⟩:=t6 t p K e;exact O j hj he
   · rintro⟨K,O⟩
     refine⟨K,λj _ e=>O ?_⟩;rw[e]
 · exact Y.msub.trans (by rw[f8];exact List.filter_sublist)
 · show x∈U.tms<->_
   rw[Y.tms,f8,List.mem_filter];constructor
   · rintro⟨⟨K,O⟩,h3⟩
     refine⟨K,λe=>?_⟩;obtain⟨_,R1,E,_,f7⟩:=h.tms x K;obtain⟨⟨p1,p2,p3⟩,x2⟩:=x;simp only at e E f7 O h3;subst e;rw[hR] at E;injection E with E;subst E;rcases f7 with⟨rfl,rfl⟩|⟨j,u,rfl,e2,e3⟩
     · simp at O
     · have hj:=h3 j (gfGet.1 e2).1
       rcases e3 with⟨rfl,_⟩|⟨rfl,_⟩
       · exact hj.1 rfl
       · exact hj.2 rfl
   · rintro⟨K,O⟩
     refine⟨⟨K,?_⟩,λj _=>⟨λe=>O (by rw[e]),λe=>O (by rw[e])⟩⟩;have:x.1≠⟨id,-1,0⟩:=λe=>O (by rw[e]);simpa using this
 · show U.Lx.filter _=_
   rw[Y.Lx,hT]
   rfl
 · exact Y.now.trans (by rw[hT];rfl)
 · exact Y.seed.trans (by rw[hT];rfl)
 · exact Y.Lt.trans (by rw[hT];rfl)
 · exact Y.Ls.trans (by rw[hT];rfl)
 · exact Y.ends.trans (by rw[hT];rfl)
 · exact Y.sets.trans (by rw[hT];rfl)
theorem ou (s:Sp):(ij s).state=5\/(ij s).state=6\/(ij s).state=7:=by
 unfold ij
 split
 · omega
 · exact .inr (.inr rfl)
theorem tK (s:Sp):(ij s).Lu=s.Lu:=by
 unfold ij
 split<;>rfl
theorem BI (s:Sp):(ij s).token=s.token:=by
 unfold ij
 split<;>rfl
theorem Ok.ends {S U:En} (h:Ok S) {id:Nat} {R:Rn} (hR:S.getR id=some R) {st:Int} (d9:st≠1) (E:Ended S U id st R):Ok U:=by
 obtain⟨R',g1,g2,g3,g4,g5,g6⟩:=E.run;have hr:=h.run id R hR;have Y:∀(j:Nat) (u:Sp),R'.Lv[j]?=some u->∃s,R.Lv[j]?=some s/\u=ij {s with token:=0}:=λj u hj=>by
  have f8:j<R.Lv.length:=by rw[<-g5];exact(gfGet.1 hj).1
  have hs:R.Lv[j]?=some R.Lv[j]:=List.getElem?_eq_getElem f8;have:=g6 j _ hs;rw[hj] at this;injection this with this;exact⟨_,hs,this⟩
 have K:∀(a j:Nat),a≠id->U.stp a j=S.stp a j:=λa j ha=>by
  unfold En.stp;rw[E.others a ha]
 have d6:∀(j:Nat) (u:Sp),U.stp id j=some u->u.state=5\/u.state=6\/u.state=7:=λj u hj=>by
  obtain⟨R1,O,h4⟩:=jO hj;rw[g1] at O;injection O with O;subst O;obtain⟨s,_,rfl⟩:=Y j u h4;exact ou _
 refine⟨by rw[E.now];exact h.now,by rw[E.seed];exact h.seed,by rw[E.keys];exact h.ids,by rw[E.keys,E.Lt];exact h.low,?_,λa Ra ha=>?_,kl h.tkeys E.tsub,λt ht=>?_,λt p=>?_,?_,λp=>?_,kl h.knd E.msub,λx hx=>?_⟩
 · have:=congrArg List.length E.keys
   simp only[List.length_map] at this;have:=h.six;omega
 · rw[E.ends]
   by_cases d7:a=id
   · subst d7
     rw[g1] at ha;injection ha with ha;subst ha;refine⟨by rw[g2];exact hr.fl,by rw[g5,g2];exact hr.len,λj u m hj hm=>?_,?_,by rw[g4];exact cm _⟩
     · obtain⟨s,hs,rfl⟩:=Y j u hj
       rw[g2] at hm;have hp:=hr.sp j s m hs hm;have h5:=ou {s with token:=0};have h6:=tK {s with token:=0};have h7:=BI {s with token:=0};refine⟨ai,ai,by rw[h6];exact hp.tr0,by rw[h6];exact hp.trb,λe=>by omega,λe=>by omega,λe=>by omega,λ_=>h7,λe=>?_,λ_=>h5⟩;rw[h6];refine hp.dead ?_;unfold ij at e
       split at e
       · exact e
       · exact absurd (show(7:Int)=6 from e) di
     · rw[g3,g4]
       constructor
       · intro e;omega
       · intro e;exact absurd e d9
   · rw[E.others a d7] at ha
     exact(h.run a Ra ha).mono (Nat.le_succ _)
 · rw[E.Ls]
   exact h.tlow t (E.tsub.subset ht)
 · rw[E.Ly,h.Ly]
   constructor
   · rintro⟨⟨a,j,s,rfl,T,h2,h3⟩,I⟩
     exact⟨a,j,s,rfl,by rw[K a j I];exact T,h2,h3⟩
   · rintro⟨a,j,s,rfl,T,h2,h3⟩
     have I:a≠id:=by
      rintro rfl;have:=d6 j s T;omega
     rw[K a j I] at T;exact⟨⟨a,j,s,rfl,T,h2,h3⟩,I⟩
 · rw[E.Lx]
   exact h.qnd.sublist List.filter_sublist
 · rw[E.Lx,List.mem_filter,h.Lx]
   constructor
   · rintro⟨⟨a,j,s,rfl,T,h2⟩,I⟩
     have d8:a≠id:=by simpa using I
     exact⟨a,j,s,rfl,by rw[K a j d8];exact T,h2⟩
   · rintro⟨a,j,s,rfl,T,h2⟩
     have I:a≠id:=by
      rintro rfl;have:=d6 j s T;omega
     rw[K a j I] at T;exact⟨⟨a,j,s,rfl,T,h2⟩,by simpa using I⟩
 · obtain⟨T,h2⟩:=(E.tms x).1 hx
   obtain⟨hb,R1,O,f7⟩:=h.tms x T;exact⟨hb,R1,by rw[E.others _ h2];exact O,f7⟩
theorem Ok.finish {S:En} (h:Ok S) {id:Nat} {R:Rn} (I:S.getR id=some R) {st:Int} (E:st≠1):Ok (S.finish id st):=h.ends I E (h.ended I st)
theorem Ok.settle {S:En} (h:Ok S) (id:Nat):Ok (S.settle id):=by
 unfold En.settle
 split
 · rename_i R E
   split
   · exact h.finish E (by split<;>decide)
   · exact h
 · exact h
theorem pI (h:Ok S) (E:S.getR id=some R):S.setR id R=S:=by
 have:(S.runs.map λr=>if r.1==id then(r.1,R) else r)=S.runs:=by
  have Y:∀r∈S.runs,(if r.1==id then(r.1,R) else r)=r:=λr K=>by
   by_cases I:r.1=id
   · have h1:(id,R)∈S.runs:=by
      unfold En.getR at E;cases hf:S.runs.find? (·.1==id) with
      | none=>rw[hf] at E;cases E
      | some x=>
       rw[hf] at E;injection E with E;have h2:=List.mem_of_find?_eq_some hf;have h3:=List.find?_some hf;obtain⟨O,T⟩:=x;have:O=id:=by simpa using h3
       subst this;have:T=R:=E;subst this;exact h2
     have:=fX h.ids K h1 I;rw[this];simp
   · simp[I]
  conv=>rhs;rw[<-List.map_id S.runs]
  exact List.map_congr_left Y
 unfold En.setR;rw[this]
theorem Ok.skip1 (h:Ok S) (O:S.getR id=some R) (k:Nat):Ok (S.setR id {R with Lv:=dt R.fl.Lw R.Lv k}):=by
 unfold dt
 split
 · rename_i s n T hn
   split
   · rename_i hc
     have hp:=(h.run id R O).sp k s n T hn;have Y:=hp.running ai;have h0:=hp.idle ai;refine h.turn (S':=S.setR id {R with Lv:=R.Lv.set k {s with state:=7}}) (s':={s with state:=7}) O T hn h.now rfl setR_keys rfl rfl (lI O) ?_ h.tkeys h.tlow ?_ h.qnd ?_ h.knd ?_
     · exact⟨by show(1:Int)<=7;omega,by show(7:Int)<=7;omega,hp.tr0,hp.trb,λe=>by replace e:(7:Int)=1\/(7:Int)=2\/(7:Int)=4:=e;omega,λe=>by replace e:(7:Int)=1:=e;omega,λe=>by replace e:(7:Int)=3:=e;omega,λ_=>h0,λe=>by replace e:(7:Int)=6:=e;omega,λe=>absurd Y e⟩
     · intro t p
       show(t,p)∈S.Ly<->_;constructor
       · intro K
         refine .inl ⟨K,?_⟩;rintro rfl;obtain⟨a,j,u,e,E,h2,h4⟩:=(h.Ly _ _).1 K;obtain⟨rfl,rfl,_⟩:=j5 e;rw[iy O T] at E;injection E with E;subst E;omega
       · rintro(⟨K,d8⟩|⟨e,_⟩)
         · exact K
         · replace e:(7:Int)=3:=e
           omega
     · intro p
       show p∈S.Lx<->_;constructor
       · intro K
         refine .inl ⟨K,?_⟩;rintro rfl;obtain⟨a,j,u,e,E,h2⟩:=(h.Lx _).1 K;obtain⟨rfl,rfl,_⟩:=j5 e;rw[iy O T] at E;injection E with E;subst E;omega
       · rintro(⟨K,_⟩|⟨e,_⟩)
         · exact K
         · replace e:(7:Int)=2:=e
           omega
     · intro x hx
       obtain⟨_,R1,I,_,d7⟩:=h.tms x hx;have d6:x.1.run=id->x.1.node=(k:Int)->x.1.what=1\/x.1.what=2->False:=λe1 e2 e3=>by
        rw[e1,O] at I;injection I with I;subst I;rcases d7 with⟨e4,_⟩|⟨j,u,e4,e5,e6⟩
        · omega
        · have:k=j:=ai
          subst this;rw[T] at e5;injection e5 with e5;subst e5;omega
       refine .inl ⟨hx,λe=>?_,λe=>?_⟩
       · exact(d6 (by rw[e]) (by rw[e]) (by rw[e];exact .inl rfl)).elim
       · exact(d6 (by rw[e]) (by rw[e]) (by rw[e];exact .inr rfl)).elim
   · rw[show({R with Lv:=R.Lv}:Rn)=R from rfl,pI h O];exact h
 · rw[show({R with Lv:=R.Lv}:Rn)=R from rfl,pI h O];exact h
theorem Ok.skips {id:Nat}:∀(T:List Nat) {S:En} (_:Ok S) {R:Rn} (_:S.getR id=some R),Ok (S.setR id (R.skips T))
 | [],S,h,R,hR=>by
  show Ok (S.setR id R);rw[pI h hR];exact h
 | k::T,S,h,R,hR=>by
  have E:=h.skip1 hR k;have:=Ok.skips T E (dG hR);rw[gJ] at this;exact this
theorem nJ {R':Rn} (E:S.getR id=some R) (I:R.Lv[k]?=some s):((S.leave id k).setR id R').getR id=some R':=dG (je E I)
theorem Ok.rests {S:En} (h:Ok S) {id k:Nat} {R:Rn} {s:Sp} {n:Node} (O:S.getR id=some R) (K:R.Lv[k]?=some s) (T:R.fl.Lw[k]?=some n) (h3:s.state=3) (Y:s.Lu<n.Lz) (E:Nat):Ok (S.rests id k R s E):=by
 have h1:=h.part O K T h3 (st:=4) (.inr (.inl ⟨rfl,Y⟩));have I:=((h.run id R O).sp k s n K T).running ai;have hg:((S.leave id k).setR id (R.turned k s 4)).getR id=some (R.turned k s 4):=nJ O K;exact h1.setT (m4 _ _) hg ⟨I,.inr ⟨k,_,rfl,dM (dM K),.inl ⟨rfl,.inr rfl⟩⟩⟩
theorem Ok.dies {S:En} (h:Ok S) {id k:Nat} {R:Rn} {s:Sp} {n:Node} (E:S.getR id=some R) (I:R.Lv[k]?=some s) (O:R.fl.Lw[k]?=some n) (h3:s.state=3) (Y:s.Lu=n.Lz) (T:List Nat):Ok (S.dies id k R s T):=by
 have h1:=h.part E I O h3 (st:=6) (.inr (.inr ⟨rfl,Y⟩));have K:=Ok.skips (id:=id) T h1 (nJ E I);rw[gJ] at K;exact K.settle id
theorem qJ {t:Nat} (I:(S.Ly.find? (·.1==t)).map (·.2)=some ⟨id,(k:Int),0⟩) (K:S.getR id=some R) (E:R.Lv[k]?=some s):S.complete t=(((S.leave id k).setR id (R.turned k s 5)).wake id).settle id:=by
 unfold En.complete;rw[I];simp only[Int.toNat_natCast];rw[rH _ (je K E) (dM E)]
 rfl
theorem Ok.find {S:En} (h:Ok S) {t:Nat} {p:Pl} (E:(S.Ly.find? (·.1==t)).map (·.2)=some p):∃(id k:Nat) (R:Rn) (s:Sp) (n:Node),p=⟨id,(k:Int),0⟩/\S.getR id=some R/\R.Lv[k]?=some s/\R.fl.Lw[k]?=some n/\s.state=3/\s.token=t:=by
 cases hf:S.Ly.find? (·.1==t) with
 | none=>rw[hf] at E;cases E
 | some x=>
  rw[hf] at E;injection E with E;have h2:=List.mem_of_find?_eq_some hf;have h3:=List.find?_some hf;obtain⟨O,T⟩:=x;have:O=t:=by simpa using h3
  subst this;have:T=p:=E;subst this;obtain⟨id,k,s,e,Y,h5,h6⟩:=(h.Ly _ _).1 h2;obtain⟨R,I,K⟩:=jO Y;obtain⟨n,hn,_⟩:=h.node I K;exact⟨id,k,R,s,n,e,I,K,hn,h5,h6⟩
theorem Ok.complete {S:En} (h:Ok S) (t:Nat):Ok (S.complete t):=by
 cases hf:(S.Ly.find? (·.1==t)).map (·.2) with
 | none=>unfold En.complete;rw[hf];exact h
 | some p=>
  obtain⟨id,k,R,s,n,rfl,E,I,K,h3,_⟩:=h.find hf;rw[qJ hf E I];exact((h.part E I K h3 (st:=5) (.inl rfl)).wake id).settle id
theorem ri {q:List Pl} {n:Node}:S.hand ⟨id,(k:Int),0⟩ q R s n=(((S.handT id k q R s).setT ⟨id,(k:Int),1⟩ (S.later n.close.toNat)).life ⟨id,(k:Int),0⟩ n):=by
 unfold En.hand En.handT;simp only[Int.toNat_natCast]
 rfl
theorem Ok.hand {S:En} (h:Ok S) {id k:Nat} {q:List Pl} (Y:S.Lx=⟨id,(k:Int),0⟩::q) {R:Rn} {s:Sp} {n:Node} (K:S.getR id=some R) (I:R.Lv[k]?=some s) (O:R.fl.Lw[k]?=some n):Ok (S.hand ⟨id,(k:Int),0⟩ q R s n):=by
 obtain⟨h2,hk⟩:=h.handT Y K I O;rw[ri];have E:=((h.run id R K).sp k s n I O).running ai;have T:(S.handT id k q R s).getR id=some (R.setS k ⟨3,s.Lu+1,S.Ls+1⟩):=dG K;exact Ok.life (hk.setT (R:=R.setS k ⟨3,s.Lu+1,S.Ls+1⟩) (m4 _ _) T ⟨E,.inr ⟨k,_,rfl,dM I,.inl ⟨rfl,.inl rfl⟩⟩⟩) n T (dM I) rfl
end
section
variable {T:List Nat} {S:En} {ns:List Node} {f:Flow} {id k:Nat} {l:List Sp}
theorem Ok.fresh:Ok En.fresh where
 now:=by decide
 seed:=by decide
 ids:=by simp[En.fresh]
 low:=by simp[En.fresh]
 six:=by simp[En.fresh]
 run:=by simp[En.fresh,En.getR]
 tkeys:=by simp[En.fresh]
 tlow:=by simp[En.fresh]
 Ly:=by simp[En.fresh,En.stp,En.getR]
 qnd:=by simp[En.fresh]
 Lx:=by simp[En.fresh,En.stp,En.getR]
 knd:=by simp[En.fresh]
 tms:=by simp[En.fresh]
def En.roomy (S:En):Bool:=S.runs.any (λr=>decide (0<r.2.ended))||decide (S.runs.length<6)
theorem oT (h:(S.runs.map (·.1)).Nodup) {R:Rn} (E:(id,R)∈S.runs):S.getR id=some R:=by
 unfold En.getR;cases hf:S.runs.find? (·.1==id) with
 | none=>
  rw[List.find?_eq_none] at hf;have:=hf _ E;simp at this
 | some x=>
  have I:=List.mem_of_find?_eq_some hf;have h3:x.1=id:=by simpa using List.find?_some hf
  have:=fX h I E h3;rw[this]
  rfl
theorem kr {R:Rn} (E:S.getR id=some R):(id,R)∈S.runs:=by
 unfold En.getR at E;cases hf:S.runs.find? (·.1==id) with
 | none=>rw[hf] at E;cases E
 | some x=>
  rw[hf] at E;injection E with E;have O:=List.mem_of_find?_eq_some hf;have h3:=List.find?_some hf;obtain⟨I,K⟩:=x;have:I=id:=by simpa using h3
  subst this;have:K=R:=E;subst this;exact O
theorem p8 (h:Ok S) (fl:Flow) (a:Nat):(S.begin fl).getR a=if a=S.Lt+1 then some (Rn.begun fl) else S.getR a:=by
 by_cases I:a=S.Lt+1
 · subst I
   rw[if_pos rfl];exact tH λr E=>(h.low r.1 (List.mem_map_of_mem (f:=(·.1)) E)).2
 · rw[if_neg I]
   unfold En.getR En.begin;simp only;rw[List.find?_append];have:([(S.Lt+1,Rn.begun fl)]:List (Nat×Rn)).find? (·.1==a)=none:=by
    rw[List.find?_eq_none];intro r E;rw[List.mem_singleton] at E;subst E;simp;omega
   rw[this];simp
theorem sI {fl:Flow} {s:Sp} (h:(Rn.begun fl).Lv[k]?=some s):s=s1:=by
 have:=du h;exact List.eq_of_mem_replicate this
theorem Ok.begin {S:En} (h:Ok S) (h5:S.runs.length<=5) {fl:Flow} (hf:Fit fl):Ok (S.begin fl):=by
 have hg:=p8 h fl;have Y:S.getR (S.Lt+1)=none:=by
  cases hR:S.getR (S.Lt+1) with
  | none=>rfl
  | some R=>
   have:=(h.low _ (List.mem_map_of_mem (f:=(·.1)) (kr hR))).2;simp only at this;omega
 have d6:∀(a j:Nat) (s:Sp),(S.begin fl).stp a j=some s->s=s1\/S.stp a j=some s:=λa j s hs=>by
  obtain⟨R,hR,h4⟩:=jO hs;rw[hg] at hR
  split at hR
  · injection hR with hR
    subst hR;exact .inl (sI h4)
  · exact .inr (iy hR h4)
 have K:∀(a j:Nat) (s:Sp),S.stp a j=some s->(S.begin fl).stp a j=some s:=λa j s hs=>by
  obtain⟨R,hR,h4⟩:=jO hs;refine iy ?_ h4;rw[hg,if_neg]
  · exact hR
  · rintro rfl
    rw[Y] at hR;cases hR
 refine⟨h.now,h.seed,?_,λi hi=>?_,?_,λa Ra ha=>?_,h.tkeys,h.tlow,λt p=>?_,h.qnd,λp=>?_,h.knd,λx hx=>?_⟩
 · show((S.runs++[(S.Lt+1,Rn.begun fl)]).map (·.1)).Nodup
   rw[List.map_append,List.nodup_append];refine⟨h.ids,by simp,?_⟩;intro x hx y hy;simp at hy;subst hy;have:=h.low x hx;omega
 · show 1<=i/\i<=S.Lt+1
   have E:i∈(S.runs++[(S.Lt+1,Rn.begun fl)]).map (·.1):=hi;rw[List.map_append,List.mem_append] at E;rcases E with E|E
   · have:=h.low i E
     omega
   · simp at E
     omega
 · show(S.runs++[_]).length<=6
   simp;omega
 · rw[hg] at ha
   split at ha
   · injection ha with ha
     subst ha;refine⟨hf,by simp[Rn.begun],λk s n hs hn=>?_,by simp[Rn.begun],Nat.zero_le _⟩;rw[sI hs];have hb:=(hf.Lw k n (cB hn) hn).1;obtain⟨b1,b2,_⟩:=hb;exact⟨by decide,by decide,by decide,by show 0<=n.Lz;omega,λ_=>by show 0<n.Lz;omega,λ_=>rfl,λe=>absurd e di,λ_=>rfl,λe=>absurd e di,λe=>absurd rfl e⟩
   · exact h.run a Ra ha
 · show(t,p)∈S.Ly<->_
   rw[h.Ly];constructor
   · rintro⟨a,j,s,rfl,I,O,h3⟩
     exact⟨a,j,s,rfl,K a j s I,O,h3⟩
   · rintro⟨a,j,s,rfl,I,O,h3⟩
     rcases d6 a j s I with rfl|I
     · exact absurd O di
     · exact⟨a,j,s,rfl,I,O,h3⟩
 · show p∈S.Lx<->_
   rw[h.Lx];constructor
   · rintro⟨a,j,s,rfl,I,O⟩
     exact⟨a,j,s,rfl,K a j s I,O⟩
   · rintro⟨a,j,s,rfl,I,O⟩
     rcases d6 a j s I with rfl|I
     · exact absurd O di
     · exact⟨a,j,s,rfl,I,O⟩
 · obtain⟨hb,R1,d7,d8⟩:=h.tms x hx
   refine⟨hb,R1,?_,d8⟩;rw[hg,if_neg]
   · exact d7
   · intro e
     rw[e,Y] at d7;cases d7
theorem Ok.submit {S:En} (h:Ok S) (E:S.runs.length<=5) {fl:Flow} (I:Fit fl):Ok (S.submit fl):=by
 have K:=h.begin E I;have O:(S.begin fl).getR (S.Lt+1)=some (Rn.begun fl):=by rw[p8 h,if_pos rfl]
 exact(K.setT (p:=⟨S.Lt+1,-1,0⟩) (m4 S _) O ⟨rfl,.inl ⟨rfl,rfl⟩⟩).wake _
theorem lF {α:Type} [DecidableEq α]:∀{l m:List α},l.Nodup->(∀x∈l,x∈m)->l.length<=m.length
 | [],_,_,_=>Nat.zero_le _
 | x::l,m,hn,hs=>by
  rw[List.nodup_cons] at hn;have I:=hs x (.head _);have:=lF (l:=l) (m:=m.erase x) hn.2 λy E=>by
   refine(List.mem_erase_of_ne ?_).2 (hs y (.tail _ E));rintro rfl;exact hn.1 E
  rw[List.length_erase_of_mem I] at this;have:=List.length_pos_of_mem I;simp only[List.length_cons];omega
theorem flat_len {α β:Type} {f:α->List β} {n:Nat}:∀(l:List α),(∀x,(f x).length=n)->(l.flatMap f).length=l.length*n
 | [],_=>by simp
 | x::l,h=>by
  rw[List.flatMap_cons,List.length_append,h,flat_len l h,List.length_cons,Nat.succ_mul,Nat.add_comm]
theorem Fv (h:Ok S) {s:Sp} (K:S.stp id k=some s):id∈S.runs.map (·.1)/\k<12:=by
 obtain⟨R,E,O⟩:=jO K;have I:=h.run id R E;have:=(gfGet.1 O).1;have:=I.fl.head.2.2;have:=I.len;exact⟨List.mem_map_of_mem (f:=(·.1)) (kr E),ai⟩
theorem Ok.queueLe (h:Ok S):S.Lx.length<=72:=by
 have:=lF (m:=(S.runs.map (·.1)).flatMap λi=>(List.range 12).map λ(k:Nat)=>(⟨i,(k:Int),0⟩:Pl)) h.qnd λp E=>by
  obtain⟨a,j,s,rfl,I,O⟩:=(h.Lx p).1 E;obtain⟨h3,K⟩:=Fv h I;exact List.mem_flatMap.2 ⟨a,h3,List.mem_map.2 ⟨j,List.mem_range.2 K,rfl⟩⟩
 rw[flat_len (n:=12) _ (λ_=>by simp)] at this;have Y:=h.six;rw[List.length_map] at this;omega
theorem Ok.tmsLe (h:Ok S):S.tms.length<=150:=by
 have:=lF (m:=(S.runs.map (·.1)).flatMap λi=>(⟨i,-1,0⟩:Pl)::((List.range 12).map λ(k:Nat)=>(⟨i,(k:Int),1⟩:Pl))++(List.range 12).map λ(k:Nat)=>(⟨i,(k:Int),2⟩:Pl)) h.knd λp O=>by
  obtain⟨x,Y,rfl⟩:=List.mem_map.1 O;obtain⟨_,R,K,_,E⟩:=h.tms x Y;obtain⟨⟨p1,p2,p3⟩,x2⟩:=x;simp only at K E;refine List.mem_flatMap.2 ⟨p1,List.mem_map_of_mem (f:=(·.1)) (kr K),?_⟩;rcases E with⟨rfl,rfl⟩|⟨k,s,rfl,h1,h2⟩
  · simp
  · have I:=(Fv h (iy K h1)).2
    rw[List.mem_append,List.mem_cons];rcases h2 with⟨rfl,_⟩|⟨rfl,_⟩
    · exact .inl (.inr (List.mem_map.2 ⟨k,List.mem_range.2 I,rfl⟩))
    · exact .inr (List.mem_map.2 ⟨k,List.mem_range.2 I,rfl⟩)
 rw[flat_len (n:=25) _ (λ_=>by simp),List.length_map,List.length_map] at this;have h6:=h.six;omega
theorem l7 {l':List Sp} {x:Int} (h:l[k]?=l'[k]?):df l k x=df l' k x:=by
 unfold df;rw[h]
theorem ER {n:Node} (K:ns[k]?=some n) (l:List Sp):(n.after.any λu=>df l u.toNat 6||df l u.toNat 7)=true<->∃u∈fP ns k,df l u 6=true\/df l u 7=true:=by
 unfold fP;rw[K];simp only[List.any_eq_true,Bool.or_eq_true,List.mem_map];constructor
 · rintro⟨u,E,I⟩
   exact⟨u.toNat,⟨u,E,rfl⟩,I⟩
 · rintro⟨_,⟨u,E,rfl⟩,I⟩
   exact⟨u,E,I⟩
def rN (ns:List Node) (T:List Nat):Prop:=T.Nodup/\∀a i b,T=a++i::b->∀u∈fP ns i,u∈a
theorem oO {ns:List Node} {l:List Sp} (hl:l.length=ns.length):∀(m:Nat) (T:List Nat),T.length=m->rN ns T->∀(j:Nat) (s:Sp),l[j]?=some s->(j∈T/\s.state=1/\(∃u∈fP ns j,df (T.foldl (dt ns) l) u 6=true\/df (T.foldl (dt ns) l) u 7=true)->(T.foldl (dt ns) l)[j]?=some {s with state:=7})/\(¬(j∈T/\s.state=1/\(∃u∈fP ns j,df (T.foldl (dt ns) l) u 6=true\/df (T.foldl (dt ns) l) u 7=true))->(T.foldl (dt ns) l)[j]?=some s)
 | 0,T,hm,_,j,s,hs=>by
  have:T=[]:=List.eq_nil_of_length_eq_zero hm;subst this;exact⟨λh=>by simp at h,λ_=>hs⟩
 | m+1,T,hm,hb,j,s,hs=>by
  obtain⟨a,k,rfl⟩:∃a k,T=a++[k]:=⟨T.dropLast,T.getLast (by rintro rfl;simp at hm),(List.dropLast_concat_getLast _).symm⟩;have hk:k∉a:=by
   have:=hb.1;rw[List.nodup_append] at this;intro hk;exact this.2.2 k hk k cP rfl
  have d7:rN ns a:=⟨(List.nodup_append.1 hb.1).1,λx i y e u I=>hb.2 x i (y++[k]) (by rw[e];simp) u I⟩;have ih:=oO hl m a (by simpa using hm) d7;have hF:(a++[k]).foldl (dt ns) l=dt ns (a.foldl (dt ns) l) k:=by rw[List.foldl_append];rfl
  rw[hF];obtain⟨A,hA⟩:∃A,A=a.foldl (dt ns) l:=⟨_,rfl⟩;rw[<-hA] at ih ⊢;have K:∀i,i≠k->(dt ns A k)[i]?=A[i]?:=λi hi=>by
   unfold dt
   split
   · split
     · rw[List.getElem?_set_ne (Ne.symm hi)]
     · rfl
   · rfl
  have d8:∀u∈fP ns k,u∈a:=hb.2 a k [] rfl;have d9:∀i∈a++[k],∀u∈fP ns i,u≠k:=λi hi u I=>by
   rcases List.mem_append.1 hi with hi|hi
   · obtain⟨x,y,e⟩:=List.append_of_mem hi
     have:u∈x:=d7.2 x i y e u I;rintro rfl;exact hk (by rw[e];exact List.mem_append_left _ this)
   · rw[List.mem_singleton] at hi
     subst hi;rintro rfl;exact hk (d8 _ I)
  by_cases hj:j=k
  · subst hj
    have O:A[j]?=some s:=(ih j s hs).2 (λh=>hk h.1);obtain⟨n,hn⟩:∃n,ns[j]?=some n:=⟨ns[j]'(by rw[<-hl];exact(gfGet.1 hs).1),by simp⟩;have E:∀u∈fP ns j,∀x,df (dt ns A j) u x=df A u x:=λu I x=>l7 (K u (d9 j cP u I));have Y:(∃u∈fP ns j,df (dt ns A j) u 6=true\/df (dt ns A j) u 7=true)<->∃u∈fP ns j,df A u 6=true\/df A u 7=true:=by
     constructor
     · rintro⟨u,I,h⟩
       rw[E u I,E u I] at h;exact⟨u,I,h⟩
     · rintro⟨u,I,h⟩
       refine⟨u,I,?_⟩;rw[E u I,E u I];exact h
    rw[Y];have f7:=(gfGet.1 O).1;unfold dt;rw[O,hn];simp only;have ha:=ER hn A;constructor
    · rintro⟨_,h2,h3⟩
      rw[if_pos ⟨h2,ha.2 h3⟩,List.getElem?_set_self f7]
    · intro h
      rw[if_neg λh'=>h ⟨by simp,h'.1,ha.1 h'.2⟩];exact O
  · have f8:j∈a++[k]<->j∈a:=by simp[hj]
    rw[f8,K j hj]
    by_cases d6:j∈a
    · have E:∀u∈fP ns j,∀x,df (dt ns A k) u x=df A u x:=λu I x=>l7 (K u (d9 j (by simp[d6]) u I))
      have Y:(∃u∈fP ns j,df (dt ns A k) u 6=true\/df (dt ns A k) u 7=true)<->∃u∈fP ns j,df A u 6=true\/df A u 7=true:=by
       constructor
       · rintro⟨u,I,h⟩
         rw[E u I,E u I] at h;exact⟨u,I,h⟩
       · rintro⟨u,I,h⟩
         refine⟨u,I,?_⟩;rw[E u I,E u I];exact h
      rw[Y];exact ih j s hs
    · refine⟨λh=>absurd h.1 d6,λ_=>(ih j s hs).2 λh=>d6 h.1⟩
theorem Gm (Y:l.length=ns.length) {I:List Nat} (hb:rN ns T) (d6:rN ns I) (hT:∀j,j<ns.length->j∈T) (d7:∀j,j<ns.length->j∈I) (hv:∀i,∀k∈fP ns i,k<ns.length) (d8:∀i,i<ns.length->Ac ns i):T.foldl (dt ns) l=I.foldl (dt ns) l:=by
 have key:∀j,Ac ns j->j<ns.length->(T.foldl (dt ns) l)[j]?=(I.foldl (dt ns) l)[j]?:=by
  intro j h
  induction h with
  | mk i _ ih=>
   intro hi;obtain⟨s,hs⟩:∃s,l[i]?=some s:=⟨l[i]'(by rw[Y];exact hi),by simp⟩;have a1:=oO Y T.length T rfl hb i s hs;have a2:=oO Y I.length I rfl d6 i s hs;have O:(∃u∈fP ns i,df (T.foldl (dt ns) l) u 6=true\/df (T.foldl (dt ns) l) u 7=true)<->∃u∈fP ns i,df (I.foldl (dt ns) l) u 6=true\/df (I.foldl (dt ns) l) u 7=true:=by
    constructor
    · rintro⟨u,E,h⟩
      refine⟨u,E,?_⟩;rw[<-l7 (x:=6) (ih u E (hv i u E)),<-l7 (x:=7) (ih u E (hv i u E))];exact h
    · rintro⟨u,E,h⟩
      refine⟨u,E,?_⟩;rw[l7 (x:=6) (ih u E (hv i u E)),l7 (x:=7) (ih u E (hv i u E))];exact h
   by_cases hc:s.state=1/\∃u∈fP ns i,df (I.foldl (dt ns) l) u 6=true\/df (I.foldl (dt ns) l) u 7=true
   · rw[a1.1 ⟨hT i hi,hc.1,O.2 hc.2⟩,a2.1 ⟨d7 i hi,hc⟩]
   · rw[a1.2 λh=>hc ⟨h.2.1,O.1 h.2.2⟩,a2.2 λh=>hc h.2]
 have K:∀(T:List Nat),(T.foldl (dt ns) l).length=ns.length:=λT=>by rw[nD,Y]
 apply List.ext_getElem?;intro j
 by_cases hj:j<ns.length
 · exact key j (d8 j hj) hj
 · rw[List.getElem?_eq_none (by rw[K];omega),List.getElem?_eq_none (by rw[K];omega)]
noncomputable def qM (ns:List Node):List Nat:=open Classical in if h:∃T,Ordering ns 0 T then h.choose else[]
theorem wA (h:Fit f):∀i,∀k∈fP f.Lw i,k<f.Lw.length:=λi k I=>by
 unfold fP at I
 split at I
 · rename_i n K
   obtain⟨x,E,rfl⟩:=List.mem_map.1 I;have O:=(h.Lw i n (cB K) K).2;have:∀(l:List Int) (p:Int),-1<=p->EdgesOk f.Lw.length p l->∀x∈l,0<=x/\x<f.Lw.length:=by
    intro l
    induction l with
    | nil=>intro _ _ _ x E;simp at E
    | cons y l Y=>
     intro p hp h x E;obtain⟨h1,h2,h3⟩:=h;rcases List.mem_cons.1 E with rfl|E
     · omega
     · exact Y y ai h3 x E
   have:=this _ _ ai O x E;omega
 · cases I
theorem Ordering.full (h:Ordering ns 0 T):(∀j,j<ns.length->j∈T):=λj E=>by
 refine Classical.byContradiction λI=>?_;have:=(h.bits j).2 ⟨E,I⟩;simp at this
theorem Ordering.beh (I:Fit f) {left:Nat} (h:Ordering f.Lw left T):rN f.Lw T:=⟨h.nodup,λa i b e u E=>h.behind a i b e u E (wA I i u E)⟩
theorem Ordering.zero (E:Fit f) {left:Nat} (h:Ordering f.Lw left T) (I:∀i,left.testBit i=true->∃k∈fP f.Lw i,left.testBit k=true):left=0:=by
 refine Nat.eq_of_testBit_eq λi=>?_;rw[Nat.zero_testBit];cases hb:left.testBit i with
 | false=>rfl
 | true=>
  have:=(h.stuck (wA E) I i).1 hb;exact absurd (E.ac i this.1) this.2
theorem IF (E:Fit f) {left:Nat} (h:Ordering f.Lw left T) (O:∀i,left.testBit i=true->∃k∈fP f.Lw i,left.testBit k=true) (l:List Sp) (Y:l.length=f.Lw.length):T.foldl (dt f.Lw) l=(qM f.Lw).foldl (dt f.Lw) l:=by
 have h0:=h.zero E O;subst h0;have I:∃T,Ordering f.Lw 0 T:=⟨T,h⟩;have K:Ordering f.Lw 0 (qM f.Lw):=by
  unfold qM;rw[dif_pos I];exact I.choose_spec
 exact Gm Y (h.beh E) (K.beh E) h.full K.full (wA E) E.ac
end
def fk (E I K k seed:Int):Int:=(if k<=1 then E else if k<22 then min I (E*2 ^ (k.toNat-1)) else I)+seed%(K+1)
noncomputable def En.failed (S:En) (id k:Nat):En:=match S.getR id with
 | some R=>match R.Lv[k]?,R.fl.Lw[k]? with
  | some s,some n=>if s.Lu<n.Lz then S.rests id k R s (fk n.base n.cap n.LA s.Lu S.seed).toNat else S.dies id k R s (qM R.fl.Lw)
  | _,_=>S
 | none=>S
noncomputable def En.fail (S:En) (t:Nat):En:=match (S.Ly.find? (·.1==t)).map (·.2) with
 | some p=>S.failed p.run p.node.toNat
 | none=>S
theorem ku {S:En} {id k:Nat} {R:Rn} {s:Sp} {n:Node} (E:S.getR id=some R) (I:R.Lv[k]?=some s) (K:R.fl.Lw[k]?=some n):S.failed id k=if s.Lu<n.Lz then S.rests id k R s (fk n.base n.cap n.LA s.Lu S.seed).toNat else S.dies id k R s (qM R.fl.Lw):=by
 unfold En.failed;rw[E];simp only[I,K]
theorem Ok.failed {S:En} (h:Ok S) {id k:Nat} {R:Rn} {s:Sp} (E:S.getR id=some R) (I:R.Lv[k]?=some s) (h3:s.state=3):Ok (S.failed id k):=by
 obtain⟨n,K,O⟩:=h.node E I;rw[ku E I K]
 split
 · rename_i T
   exact h.rests E I K h3 T _
 · exact h.dies E I K h3 (by have:=O.trb;omega) _
theorem oJ {S:En} {t id k:Nat} {w:Int} (E:(S.Ly.find? (·.1==t)).map (·.2)=some ⟨id,(k:Int),w⟩):S.fail t=S.failed id k:=by
 unfold En.fail;rw[E]
 rfl
theorem Ok.fail {S:En} (h:Ok S) (t:Nat):Ok (S.fail t):=by
 cases hf:(S.Ly.find? (·.1==t)).map (·.2) with
 | none=>unfold En.fail;rw[hf];exact h
 | some p=>
  obtain⟨id,k,R,s,n,rfl,E,I,K,h3,_⟩:=h.find hf;rw[oJ hf];exact h.failed E I h3
theorem JR {S:En} (h:Ok S) {id k:Nat} {R:Rn} {s:Sp} (I:S.getR id=some R) {left:Nat} {T:List Nat} (K:Ordering R.fl.Lw left T) (O:∀i,left.testBit i=true->∃j∈fP R.fl.Lw i,left.testBit j=true):S.dies id k R s T=S.dies id k R s (qM R.fl.Lw):=by
 have E:=h.run id R I;unfold En.dies Rn.skips;have:T.foldl (dt (R.turned k s 6).fl.Lw) (R.turned k s 6).Lv=(qM R.fl.Lw).foldl (dt (R.turned k s 6).fl.Lw) (R.turned k s 6).Lv:=IF E.fl K O _ (by simpa[Rn.turned,Rn.setS] using E.len);rw[this]
noncomputable def En.due (S:En) (p:Pl):En:=if p.what=0 then S.finish p.run 5 else match S.stp p.run p.node.toNat with
 | some s=>if s.state=4 then S.ready p.run p.node.toNat else S.failed p.run p.node.toNat
 | none=>S
inductive Ticks (up:Nat):En->En->Prop where
 | done {S:En}:(∀y∈S.tms,up<y.2)->Ticks up S {S with now:=up}
 | step {S U:En} {x:KD} {tms':List KD}:IsMin S.tms x tms'->x.2<=up->Ticks up ({S with now:=x.2,tms:=tms'}.due x.1) U->Ticks up S U
section
variable {S:En} {f g:Nat->Nat} {l:List Nat} {R:Rn}
theorem Ticks.unique {up:Nat} {S A B:En} (h:Ticks up S A):Ticks up S B->A=B:=by
 induction h with
 | done h=>
  intro k;cases k with
  | done _=>rfl
  | step E K _=>
   have:=h _ E.mem;omega
 | step E K _ O=>
  intro k;cases k with
  | done h=>
   have:=h _ E.mem;omega
  | step I _ k=>
   obtain⟨rfl,rfl⟩:=E.unique I;exact O k
theorem Ok.pop (h:Ok S) {x:KD} {tms':List KD} (K:IsMin S.tms x tms'):Ok {S with now:=x.2,tms:=tms'}/\(∀y∈tms',y.1≠x.1)/\∃R,S.getR x.1.run=some R/\Dl R x.1:=by
 have O:=K.perm;have T:=h.tms x K.mem;have Y:=h.knd;have E:((x::tms').map (·.1)).Nodup:=(O.map (·.1)).nodup_iff.1 Y;rw[List.map_cons,List.nodup_cons] at E;refine⟨h.times (sets:=S.sets) T.1 E.2 λy I=>h.tms y (O.mem_iff.2 (.tail _ I)),λy I e=>E.1 (by rw[<-e];exact List.mem_map_of_mem (f:=(·.1)) I),T.2⟩
theorem lU {p:Pl} (T:S.getR p.run=some R) (Y:Dl R p):(p=⟨p.run,-1,0⟩/\S.due p=S.finish p.run 5)\/∃(k:Nat) (s:Sp),R.Lv[k]?=some s/\((p=⟨p.run,(k:Int),1⟩/\s.state=4/\S.due p=S.ready p.run k)\/((p=⟨p.run,(k:Int),1⟩\/p=⟨p.run,(k:Int),2⟩)/\s.state=3/\S.due p=S.failed p.run k)):=by
 obtain⟨id,nd,wh⟩:=p;obtain⟨_,⟨K,I⟩|⟨k,s,K,I,h3⟩⟩:=Y
 · simp only at K I
   subst K;subst I;exact .inl ⟨rfl,by unfold En.due;rfl⟩
 · simp only at K I h3 T
   subst K;have O:=iy T I;refine .inr ⟨k,s,I,?_⟩;have hd:wh≠0->En.due S ⟨id,(k:Int),wh⟩=if s.state=4 then S.ready id k else S.failed id k:=λhw=>by
    unfold En.due;simp only[Int.toNat_natCast,O];rw[if_neg hw]
   rcases h3 with⟨rfl,E⟩|⟨rfl,E⟩
   · rcases E with E|E
     · exact .inr ⟨.inl rfl,E,by rw[hd di,if_neg ai]⟩
     · exact .inl ⟨rfl,E,by rw[hd di,if_pos E]⟩
   · exact .inr ⟨.inr rfl,E,by rw[hd di,if_neg ai]⟩
theorem Ok.due {S:En} (h:Ok S) {p:Pl} {R:Rn} (E:S.getR p.run=some R) (O:Dl R p) (I:∀y∈S.tms,y.1≠p):Ok (S.due p):=by
 rcases lU E O with⟨_,e⟩|⟨k,s,K,⟨e1,h4,e⟩|⟨_,h3,e⟩⟩
 · rw[e]
   exact h.finish E di
 · rw[e]
   exact h.ready E K (.inr ⟨h4,λy T Y=>I y T (by rw[Y,e1])⟩)
 · rw[e]
   exact h.failed E K h3
theorem Ticks.ok {up:Nat} {U:En} (h:Ticks up S U) (E:up<=4611686018427387904):Ok S->Ok U:=by
 induction h with
 | done _=>exact λh=>h.times (sets:=_) E h.knd h.tms
 | step Y hx _ ih=>
  intro h;obtain⟨I,K,R,O,T⟩:=h.pop Y;exact ih (I.due O T K)
def qf (s:Sp):Nat:=if s.state=3 then 2 else if s.state=4 then 1 else 0
def tU (R:Rn):Nat:=if R.state=1 then 1+(R.Lv.map qf).sum else 0
def wor:Option Rn->Nat
 | some R=>tU R
 | none=>0
def En.mass (S:En):Nat:=((S.runs.map (·.1)).map λid=>wor (S.getR id)).sum
theorem KE (h:∀a∈l,f a<=g a):(l.map f).sum<=(l.map g).sum:=by
 induction l with
 | nil=>exact cm _
 | cons x l I=>
  have K:=h x (.head _);have O:=I λa E=>h a (.tail _ E);simp only[List.map_cons,List.sum_cons];omega
theorem KC (h:∀a∈l,f a<=g a) {i:Nat} (hi:i∈l) (I:f i<g i):(l.map f).sum<(l.map g).sum:=by
 induction l with
 | nil=>cases hi
 | cons x l O=>
  have T:=h x (.head _);simp only[List.map_cons,List.sum_cons];rcases List.mem_cons.1 hi with rfl|hi
  · have K:=KE λa E=>h a (.tail _ E)
    omega
  · have K:=O (λa E=>h a (.tail _ E)) hi
    omega
theorem rf {U:En} (T:U.runs.map (·.1)=S.runs.map (·.1)) {id:Nat} {R':Rn} (K:S.getR id=some R) (E:U.getR id=some R') (Y:∀a,a≠id->U.getR a=S.getR a) (I:tU R'<tU R):U.mass<S.mass:=by
 unfold En.mass;rw[T];refine KC (i:=id) (λa _=>?_) (List.mem_map_of_mem (f:=(·.1)) (kr K)) ?_
 · by_cases O:a=id
   · subst O
     rw[K,E];exact Nat.le_of_lt I
   · rw[Y a O]
     exact cm _
 · show wor (U.getR id)<wor (S.getR id)
   rw[K,E];exact I
theorem v6:∀{l:List Sp} {k:Nat} {s s':Sp},l[k]?=some s->((l.set k s').map qf).sum+qf s=(l.map qf).sum+qf s'
 | [],_,_,_,h=>by simp at h
 | x::l,0,s,s',h=>by
  simp at h;subst h;simp only[List.set_cons_zero,List.map_cons,List.sum_cons];omega
 | x::l,k+1,s,s',h=>by
  have:=v6 (l:=l) (k:=k) (s:=s) (s':=s') (by simpa using h);simp only[List.set_cons_succ,List.map_cons,List.sum_cons];omega
theorem DE (ns:List Node) (l:List Sp) (k:Nat):((dt ns l k).map qf).sum=(l.map qf).sum:=by
 unfold dt
 split
 · rename_i s n E I
   split
   · rename_i hc
     have:=v6 (s':={s with state:=7}) E;have K:qf s=0:=by unfold qf;rw[hc.1];rfl
     have O:qf {s with state:=7}=0:=rfl;omega
   · rfl
 · rfl
theorem uL (ns:List Node):∀(T:List Nat) (l:List Sp),((T.foldl (dt ns) l).map qf).sum=(l.map qf).sum
 | [],_=>rfl
 | k::T,l=>by rw[List.foldl_cons,uL ns T,DE]
theorem Ks (s:Sp):qf s<=2:=by unfold qf;split<;>(try split)<;>omega
theorem v8 {α:Type} {f:α->Nat} {n:Nat} (h:∀a,f a<=n):∀l:List α,(l.map f).sum<=l.length*n
 | []=>by simp
 | x::l=>by
  have:=v8 h l;have:=h x;simp only[List.map_cons,List.sum_cons,List.length_cons,Nat.succ_mul];omega
theorem Ok.massLe (h:Ok S):S.mass<=150:=by
 have hw:∀a,wor (S.getR a)<=25:=λa=>by
  cases hR:S.getR a with
  | none=>exact Nat.zero_le _
  | some R=>
   show tU R<=25;have E:=h.run a R hR;have:=v8 Ks R.Lv;have:=E.len;have:=E.fl.head.2.2;unfold tU
   split<;>omega
 have:=v8 hw (S.runs.map (·.1));have I:=h.six;rw[List.length_map] at this;unfold En.mass;omega
theorem wI {id:Nat} (E:S.getR id=some R):S.settle id=S\/∃st,(st=2\/st=3)/\S.settle id=S.finish id st:=by
 unfold En.settle;rw[E];simp only
 split
 · refine .inr ⟨_,?_,rfl⟩
   split
   · exact .inl rfl
   · exact .inr rfl
 · exact .inl rfl
end
structure Less (S U:En):Prop where
 mass:U.mass<S.mass
 sets:U.sets<=S.sets+1
 ends:U.ends<=S.ends+1
 Lt:U.Lt=S.Lt
 Ls:U.Ls=S.Ls
 now:U.now=S.now
 seed:U.seed=S.seed
theorem Ok.finish_less {S:En} (h:Ok S) {id:Nat} {R:Rn} (K:S.getR id=some R) (O:R.state=1) {st:Int} (I:st≠1):Less S (S.finish id st):=by
 have E:=h.ended K st;obtain⟨R',T,g2,Y,g4,g5,g6⟩:=E.run;refine⟨rf E.keys K T E.others ?_,by rw[E.sets];omega,by rw[E.ends];exact cm _,E.Lt,E.Ls,E.now,E.seed⟩;have h1:tU R'=0:=by unfold tU;rw[Y,if_neg I]
 have h2:1<=tU R:=by unfold tU;rw[if_pos O];omega
 omega
theorem vZ {R:Rn} {k:Nat} {s s':Sp} (I:R.Lv[k]?=some s) (E:R.state=1) (K:qf s'<qf s):tU (R.setS k s')<tU R:=by
 have:=v6 (s':=s') I;have O:tU (R.setS k s')=1+((R.Lv.set k s').map qf).sum:=by unfold tU;exact if_pos E
 have T:tU R=1+(R.Lv.map qf).sum:=by unfold tU;rw[if_pos E]
 omega
theorem Ok.due_less {S:En} (h:Ok S) {p:Pl} {R:Rn} (I:S.getR p.run=some R) (ht:Dl R p):Less S (S.due p):=by
 have E:=ht.1;rcases lU I ht with⟨_,e⟩|⟨k,s,K,⟨e1,h4,e⟩|⟨_,h3,e⟩⟩
 · rw[e]
   exact h.finish_less I E di
 · rw[e,kH I K]
   refine⟨rf (U:={S.setR p.run (R.setS k {s with state:=2}) with Lx:=_}) setR_keys I (dG I) (λa ha=>fI ha) (vZ K E ?_),Nat.le_succ _,Nat.le_succ _,rfl,rfl,rfl,rfl⟩;have h5:qf s=1:=by unfold qf;rw[h4];rfl
   rw[h5];show 0<1;decide
 · rw[e]
   obtain⟨n,hn,hp⟩:=h.node I K;rw[ku I K hn];obtain⟨id,f9⟩:∃id,id=p.run:=⟨_,rfl⟩;rw[<-f9] at I ⊢;have O:∀(st:Int),(S.leave id k).setR id (R.turned k s st)={S.setR id (R.setS k ⟨st,s.Lu,0⟩) with Ly:=S.Ly.eraseP (·.1==s.token),tms:=(S.tms.filter λx=>x.1 !=⟨id,(k:Int),1⟩).filter λx=>x.1 !=⟨id,(k:Int),2⟩}:=λst=>wg I K
   split
   · have d8:=O 4
     have Y:(S.leave id k).sets=S.sets/\(S.leave id k).ends=S.ends/\(S.leave id k).Lt=S.Lt/\(S.leave id k).Ls=S.Ls/\(S.leave id k).now=S.now/\(S.leave id k).seed=S.seed:=by
      rw[fY I K];exact⟨rfl,rfl,rfl,rfl,rfl,rfl⟩
     refine⟨?_,by show(S.leave id k).sets+1<=_;omega,by show(S.leave id k).ends<=_;omega,Y.2.2.1,Y.2.2.2.1,Y.2.2.2.2.1,Y.2.2.2.2.2⟩;refine rf (U:=S.rests id k R s _) (id:=id) (R:=R) (R':=R.setS k ⟨4,s.Lu,0⟩) ?_ I ?_ (λa ha=>?_) (vZ K E ?_)
     · show((S.leave id k).setR id (R.turned k s 4)).runs.map (·.1)=_
       rw[d8];exact setR_keys
     · show((S.leave id k).setR id (R.turned k s 4)).getR id=_
       rw[d8];exact dG I
     · show((S.leave id k).setR id (R.turned k s 4)).getR a=_
       rw[d8];exact fI ha
     · have h5:qf s=2:=by unfold qf;rw[h3];rfl
       rw[h5];show 1<2;decide
   · rename_i hb
     obtain⟨T,hT⟩:∃T,T=qM R.fl.Lw:=⟨_,rfl⟩;rw[<-hT];have d9:s.Lu=n.Lz:=by have:=hp.trb;omega
     obtain⟨D,hD⟩:∃D,D=(S.leave id k).setR id ((R.turned k s 6).skips T):=⟨_,rfl⟩;have f7:Ok D:=by
      have h1:=h.part I K hn h3 (st:=6) (.inr (.inr ⟨rfl,d9⟩));have h2:=Ok.skips (id:=id) T h1 (nJ I K);rw[gJ] at h2;rw[hD];exact h2
     have d6:D={S.setR id ((R.turned k s 6).skips T) with Ly:=S.Ly.eraseP (·.1==s.token),tms:=(S.tms.filter λx=>x.1 !=⟨id,(k:Int),1⟩).filter λx=>x.1 !=⟨id,(k:Int),2⟩}:=by
      rw[hD,fY I K];show((({S with Ly:=S.Ly.eraseP (·.1==s.token)}.setR id (R.setS k {s with token:=0})).setR id _).unset _).unset _=_;rw[gJ]
      rfl
     have d7:D.getR id=some ((R.turned k s 6).skips T):=by rw[d6];exact dG I
     have hw:tU ((R.turned k s 6).skips T)<tU R:=by
      have h1:tU ((R.turned k s 6).skips T)=1+((R.turned k s 6).Lv.map qf).sum:=by
       unfold tU Rn.skips;rw[uL];exact if_pos E
      have h2:tU (R.setS k ⟨6,s.Lu,0⟩)=1+((R.setS k ⟨6,s.Lu,0⟩).Lv.map qf).sum:=by unfold tU;exact if_pos E
      have h5:R.turned k s 6=R.setS k ⟨6,s.Lu,0⟩:=by unfold Rn.turned;rw[nE]
      rw[h1,h5,<-h2];refine vZ K E ?_;have h6:qf s=2:=by unfold qf;rw[h3];rfl
      rw[h6];show 0<2;decide
     have hm:D.mass<S.mass:=rf (by rw[d6];exact setR_keys) I d7 (λa ha=>by rw[d6];exact fI ha) hw;have f8:S.dies id k R s T=D.settle id:=by rw[hD];rfl
     rw[f8];have hl:D.sets=S.sets/\D.ends=S.ends/\D.Lt=S.Lt/\D.Ls=S.Ls/\D.now=S.now/\D.seed=S.seed:=by rw[d6];exact⟨rfl,rfl,rfl,rfl,rfl,rfl⟩
     rcases wI d7 with e|⟨st,mt,e⟩
     · rw[e]
       exact⟨hm,ai,ai,hl.2.2.1,hl.2.2.2.1,hl.2.2.2.2.1,hl.2.2.2.2.2⟩
     · rw[e]
       have:=f7.finish_less d7 E (st:=st) ai;exact⟨Nat.lt_trans this.mass hm,by have:=(f7.ended d7 st).sets;omega,by have:=this.ends;omega,this.Lt.trans hl.2.2.1,this.Ls.trans hl.2.2.2.1,this.now.trans hl.2.2.2.2.1,this.seed.trans hl.2.2.2.2.2⟩
end FK
