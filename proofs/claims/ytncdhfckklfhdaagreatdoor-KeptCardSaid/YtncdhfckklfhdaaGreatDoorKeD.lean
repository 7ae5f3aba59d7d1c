/- A small logic of what memory a walk holds: facts on blocks that stand apart from one another; what the slots of a frame hold; and one judgement, 'At', over both. -/
import Derived.Test.YtncdhfckklfhdaaGreatDoorKeA
import Derived.WalkKit
import Derived.WalkLawsBesides
import Derived.WalkSpells
import Derived.WalkSmall
import Derived.Laws.OwnMore
import Derived.Maps.AppendAt
import Derived.Orders
import Derived.ScopeJumps
import Derived.KernelRfl
import Derived.Test.YtncdhfckklfhdaaGreatDoorChecked
import Derived.Outline
import Derived.BigQuiet
import Derived.Deep.QuietTactic
import Derived.Deep.Draws
import Derived.RegionTactic
import Derived.ChangeAlike
import Derived.Below
import Derived.Lib.Hide
import Derived.Laws.Rows
import Derived.OwnWalk
import Derived.Laws.BitsAllLaws
import Derived.Shelf.Spec.TrailingZeros
set_option linter.defProp false
set_option maxHeartbeats 1000000
set_option maxRecDepth 10000
variable{x y:Go.Operand}{ts:List (Nat×Go.Value)}{u v z:Go.Value}{Q:Go.Exit->Go.Act->Go.World->Prop}{K:Go.Act->Go.World->Prop}{P:Go.Program}{g:Option (Nat×Bool)}{D:List Go.Deferred}{cs:Array Go.Value}{af:Array Go.Edge}{B b d i id j k m n:Nat}{S:List (Nat×(Go.World->Prop))}{φ:Go.World->Prop}{s t tb ty:Go.TypeId}{r:Int}{vs:List Go.Value}{w w':Go.World}{p:Prop}{o:Go.Oper}{os:List Go.Oper}{xs:List Go.Operand}{f:Go.FuncId}{X:Type}{I:Nat×Nat}{c:Go.Code}{a:Go.Act}{A:Option Go.Addr}
namespace Go.SL
open Go.RowKit
structure Env where
 os:Os
 tape:Nat->Question->Nat
 output:Array (Nat×ByteArray)
 fixed:List (Nat×Obj)
def Env.free(E:Env)(w:World)(k:Nat):Prop:=k<w.heap.size/\∀p∈E.fixed,p.1≠k
structure HP where
 sat:World->(Nat->Prop)->Prop
 loc:∀{w w':World} {F G:Nat->Prop},(∀k,F k->G k)->(∀k,F k->w'.heap[k]?=w.heap[k]?)->sat w F->sat w' G
def Star(w:World):List HP->(Nat->Prop)->Prop
 | [],_=>True
 |p::l,F=>∃F1 F2:Nat->Prop,(∀k,F1 k->F k)/\(∀k,F2 k->F k)/\(∀k,F1 k->F2 k->False)/\p.sat w F1/\Star w l F2
def Star.loc{w w':World}{l:List HP}:∀{F G:Nat->Prop},(∀k,F k->G k)->(∀k,F k->w'.heap[k]?=w.heap[k]?)->Star w l F->Star w' l G:=by
 induction l with
 |nil=>exact λ_ _ _=>trivial
 |cons p l ih=>
  intro F G I hk ⟨F1,F2,J,K,O,T,Y⟩;exact⟨F1,F2,λk h=>I k (J k h),λk h=>I k (K k h),O,p.loc (λ_ h=>h) (λk h=>hk k (J k h)) T,ih (λ_ h=>h) (λk h=>hk k (K k h)) Y⟩
def Star.mono{l:List HP}{F G:Nat->Prop}(h:∀k,F k->G k)(s:Star w l F):Star w l G:=s.loc h λ_ _=>rfl
def Star.swap{p q:HP}{l:List HP}{F:Nat->Prop}(h:Star w (p::q::l) F):Star w (q::p::l) F:=by
 obtain⟨F1,F2,Y,J,K,hp,F3,O,h3,T,I,hq,hl⟩:=h;refine⟨F3,λk=>F1 k\/O k,λk h=>J k (h3 k h),λk h=>h.elim (Y k) (λh=>J k (T k h)),?_,hq,F1,O,λk h=>.inl h,λk h=>.inr h,λk a b=>K k a (T k b),hp,hl⟩;intro k a b;rcases b with b|b
 ·exact K k b (h3 k a)
 ·exact I k a b
def Star.perm{l m:List HP}(h:l.Perm m):∀{F:Nat->Prop},Star w l F->Star w m F:=by
 induction h with
 |nil=>exact λh=>h
 |cons x _ ih=>exact λ⟨F1,F2,K,O,T,Y,hl⟩=>⟨F1,F2,K,O,T,Y,ih hl⟩
 |swap x y l=>exact λh=>h.swap
 |trans _ _ I J=>exact λh=>J (I h)
def Star.append{w:World}:∀{l m:List HP} {F:Nat->Prop},Star w (l++m) F->∃F1 F2:Nat->Prop,(∀k,F1 k->F k)/\(∀k,F2 k->F k)/\(∀k,F1 k->F2 k->False)/\Star w l F1/\Star w m F2
 | [],m,F,h=>⟨λ_=>False,F,λ_ h=>h.elim,λ_ h=>h,λ_ h=>h.elim,trivial,h⟩
 |p::l,m,F,h=>by
  obtain⟨F1,F2,Y,I,J,hp,hl⟩:=h;obtain⟨K,G2,O,T,gd,gl,gm⟩:=Star.append (l:=l) (m:=m) hl;refine⟨λk=>F1 k\/K k,G2,λk h=>h.elim (Y k) (λh=>I k (O k h)),λk h=>I k (T k h),?_,⟨F1,K,λk h=>.inl h,λk h=>.inr h,λk a b=>J k a (O k b),hp,gl⟩,gm⟩;intro k a b;rcases a with a|a
  ·exact J k a (T k b)
  ·exact gd k a b
def Star.join{w:World}{m:List HP}:∀{l:List HP} {F F1 F2:Nat->Prop},(∀k,F1 k->F k)->(∀k,F2 k->F k)->(∀k,F1 k->F2 k->False)->Star w l F1->Star w m F2->Star w (l++m) F
 | [],F,F1,F2,_,h2,_,_,hm=>hm.mono h2
 |p::l,F,F1,F2,h1,h2,hd,⟨G1,G2,g1,g2,gd,hp,hl⟩,hm=>by
  refine⟨G1,λk=>G2 k\/F2 k,λk h=>h1 k (g1 k h),λk h=>h.elim (λh=>h1 k (g2 k h)) (h2 k),?_,hp,Star.join (λk h=>.inl h) (λk h=>.inr h) (λk a b=>hd k (g2 k a) b) hl hm⟩;intro k a b;rcases b with b|b
  ·exact gd k a b
  ·exact hd k (g1 k a) b
inductive Sel(p:HP):List HP->List HP->Prop where
 |head {l:List HP}:Sel p (p::l) l
 |tail {q:HP} {l r:List HP}:Sel p l r->Sel p (q::l) (q::r)
def Sel.perm{p:HP}{l r:List HP}(h:Sel p l r):l.Perm (p::r):=by
 induction h with
 |head=>exact List.Perm.refl _
 |tail _ I=>exact(List.Perm.cons _ I).trans (List.Perm.swap _ _ _)
structure Env.is(E:Env)(w:World):Prop where
 os:w.os=E.os
 tape:w.tape=E.tape
 output:w.output=E.output
 fixed:∀p∈E.fixed,w.heap[p.1]?=some p.2
structure Holds(E:Env)(w:World)(l:List HP):Prop where
 is:E.is w
 star:Star w l (E.free w)
def Holds.perm{E:Env}{w:World}{l m:List HP}(h:Holds E w l)(p:l.Perm m):Holds E w m:=⟨h.is,h.star.perm p⟩
def ob(b:Nat)(o:Obj):HP where
 sat w F:=F b/\w.heap[b]?=some o
 loc hFG hk h:=⟨hFG _ h.1,(hk _ h.1).trans h.2⟩
abbrev blk(b:Nat)(t:TypeId)(cs:Array Value):HP:=ob b (.cells cs t)
def old(E:Env)(w0:World):HP where
 sat w F:=∀k,E.free w0 k->F k/\w.heap[k]?=w0.heap[k]?
 loc hFG hk h:=λk I=>⟨hFG _ (h k I).1,(hk _ (h k I).1).trans (h k I).2⟩
namespace HP
def ex{α:Sort _}(f:α->HP):HP where
 sat w F:=∃x,(f x).sat w F
 loc hFG hk h:=let⟨x,h⟩:=h;⟨x,(f x).loc hFG hk h⟩
def pure(p:Prop):HP where
 sat _ _:=p
 loc _ _ h:=h
def all(l:List HP):HP where
 sat w F:=Star w l F
 loc hFG hk h:=h.loc hFG hk
end HP
section
variable{w0:World}{E:Env}{a b m r:List HP}
def Ent(l m:List HP):Prop:=∀w F,Star w l F->Star w m F
def Ent.refl(l:List HP):Ent l l:=λ_ _ h=>h
def Ent.trans{c:List HP}(h:Ent a b)(k:Ent b c):Ent a c:=λw F s=>k w F (h w F s)
def Ent.perm{a b:List HP}(h:a.Perm b):Ent a b:=λ_ _ s=>s.perm h
def Ent.cons{p:HP}(h:Ent a b):Ent (p::a) (p::b):=λw _ ⟨F1,F2,I,J,K,O,T⟩=>⟨F1,F2,I,J,K,O,h w F2 T⟩
def Ent.append{a b:List HP}(h:Ent a b)(c:List HP):Ent (a++c) (b++c):=λw F s=>by
 obtain⟨F1,F2,I,J,K,O,hc⟩:=s.append;exact Star.join I J K (h w F1 O) hc
def Ent.drop{p:HP}:Ent (p::a) a:=λ_ _ ⟨_,_,_,I,_,_,J⟩=>J.mono I
def Ent.ex{α:Sort _}{f:α->HP}(x:α){a:List HP}:Ent (f x::a) (HP.ex f::a):=λ_ _ ⟨F1,F2,I,J,K,O,T⟩=>⟨F1,F2,I,J,K,⟨x,O⟩,T⟩
def Ent.pure{p:Prop}(I:p){a:List HP}:Ent a (HP.pure p::a):=λ_ F s=>⟨λ_=>False,F,λ_ h=>h.elim,λ_ h=>h,λ_ h=>h.elim,I,s⟩
def Ent.all{m a:List HP}:Ent (m++a) (HP.all m::a):=λ_ _ s=>by
 obtain⟨F1,F2,I,J,K,O,hc⟩:=s.append;exact⟨F1,F2,I,J,K,O,hc⟩
def Ent.unall:Ent (HP.all m::a) (m++a):=λ_ _ ⟨_,_,I,J,K,O,T⟩=>Star.join I J K O T
def Holds.ent{l:List HP}(h:Holds E w l)(e:Ent l m):Holds E w m:=⟨h.is,e _ _ h.star⟩
def Holds.sel{l:List HP}{p:HP}(h:Holds E w l)(s:Sel p l r):Holds E w (p::r):=h.perm s.perm
def Holds.ob{l:List HP}{b:Nat}{o:Obj}(h:Holds E w l)(s:Sel (ob b o) l r):w.heap[b]?=some o/\b<w.heap.size:=by
 obtain⟨F1,F2,J,_,_,I,_⟩:=(h.sel s).star;exact⟨I.2,(J _ I.1).1⟩
def Env.is.set(h:E.is w)(I:w'.os=w.os)(K:w'.tape=w.tape)(O:w'.output=w.output)(hk:∀p∈E.fixed,w'.heap[p.1]?=w.heap[p.1]?):E.is w':=
 ⟨I.trans h.os,K.trans h.tape,O.trans h.output,λp J=>(hk p J).trans (h.fixed p J)⟩
def Env.is.lt(h:E.is w){p:Nat×Obj}(I:p∈E.fixed):p.1<w.heap.size:=(Array.getElem?_eq_some_iff.1 (h.fixed p I)).1
def Holds.turn{p q:HP}(h:Holds E w (p::r))(d6:w'.os=w.os)(ht:w'.tape=w.tape)(ho:w'.output=w.output)(hz:w.heap.size<=w'.heap.size)
(step:∀F1:Nat->Prop,p.sat w F1->(∀k,F1 k->E.free w k)->∃T:Nat->Prop,(∀k,T k->(F1 k\/w.heap.size<=k)/\k<w'.heap.size)/\q.sat w' T/\∀k,k<w.heap.size->¬F1 k->w'.heap[k]?=w.heap[k]?):Holds E w' (q::r):=by
 obtain⟨F1,F2,h1,Y,hd,K,hl⟩:=h.star;obtain⟨T,hG,hq,hk⟩:=step F1 K h1;have O:∀p∈E.fixed,¬F1 p.1:=λp K hf=>(h1 _ hf).2 p K rfl;refine⟨h.is.set d6 ht ho λp K=>hk _ (h.is.lt K) (O p K),T,F2,λk I=>⟨(hG k I).2,λp K e=>?_⟩,λk I=>⟨Nat.lt_of_lt_of_le (Y k I).1 hz,(Y k I).2⟩,λk d7 J=>?_,hq,?_⟩
 ·rcases(hG k I).1 with h3|h3
  ·exact(h1 k h3).2 p K e
  ·have:=h.is.lt K
   omega
 ·rcases(hG k d7).1 with h3|h3
  ·exact hd k h3 J
  ·have:=(Y k J).1
   omega
 ·exact hl.loc (λ_ h=>h) λk J=>hk k (Y k J).1 λhf=>hd k hf J
def Holds.set{b:Nat}{o o':Obj}(h:Holds E w (SL.ob b o::r))(I:w'.os=w.os)(T:w'.tape=w.tape)(Y:w'.output=w.output)(K:w'.heap.size=w.heap.size)
(hb:w'.heap[b]?=some o')(hk:∀k,k≠b->w'.heap[k]?=w.heap[k]?):Holds E w' (SL.ob b o'::r):=
 h.turn I T Y (Nat.le_of_eq K.symm) λF1 O hF=>⟨F1,λk hk=>⟨.inl hk,by rw[K];exact(hF k hk).1⟩,⟨O.1,hb⟩,λk _ J=>hk k (by rintro rfl;exact J O.1)⟩
def Holds.alloc{E:Env}{w:World}{l:List HP}(h:Holds E w l)(o:Obj):Holds E (w.alloc o) (SL.ob w.heap.size o::l):=by
 have I:Holds E w (HP.pure True::l):=⟨h.is,λ_=>False,E.free w,λ_ h=>h.elim,λ_ h=>h,λ_ h=>h.elim,trivial,h.star⟩;refine I.turn rfl rfl rfl di λF1 _ _=>⟨λk=>k=w.heap.size,λk hk=>⟨.inr am,by simp;omega⟩,⟨rfl,?_⟩,λk hk _=>Below.heap_alloc _ _ _ hk⟩;show(w.heap.push o)[w.heap.size]?=some o;simp
def Holds.drawn{E:Env}{w:World}{l:List HP}(h:Holds E w l)(n:Nat):Holds E {w with drawn:=n} l:=⟨⟨h.is.os,h.is.tape,h.is.output,h.is.fixed⟩,Star.loc (w:=w) (λ_ h=>h) (λ_ _=>rfl) h.star⟩
def Env.is.below(h:E.is w)(I:Below w.heap.size w w'):E.is w':=h.set I.os I.tape I.output λ_ J=>I.block _ (h.lt J)
def Holds.below{E:Env}{w w':World}{l:List HP}(h:Holds E w l)(I:Below w.heap.size w w'):Holds E w' l:=
 ⟨h.is.below I,h.star.loc (λ_ hk=>⟨Nat.lt_of_lt_of_le hk.1 I.size,hk.2⟩) λk hk=>I.block k hk.1⟩
def Holds.start(h:E.is w):Holds E w [old E w]:=
 ⟨h,E.free w,λ_=>False,λ_ h=>h,λ_ h=>h.elim,λ_ _ h=>h.elim,λ_ hk=>⟨hk,rfl⟩,trivial⟩
def Holds.old{l:List HP}(h:Holds E w l)(s:Sel (SL.old E w0) l r)(I:E.is w0):Below w0.heap.size w0 w:=by
 obtain⟨F1,F2,h1,_,_,T,_⟩:=(h.sel s).star;have hk:∀k,k<w0.heap.size->w.heap[k]?=w0.heap[k]?:=λk hk=>by
  by_cases K:∃p∈E.fixed,p.1=k
  ·obtain⟨p,J,rfl⟩:=K
   rw[h.is.fixed p J,I.fixed p J]
  ·exact(T k ⟨hk,λp J e=>K ⟨p,J,e⟩⟩).2
 refine⟨h.is.os.trans I.os.symm,h.is.tape.trans I.tape.symm,h.is.output.trans I.output.symm,?_,hk⟩;rcases Nat.eq_zero_or_pos w0.heap.size with h3|h3
 ·omega
 ·have O:=hk (w0.heap.size-1) am
  have Y:w0.heap[w0.heap.size-1]?=some (w0.heap[w0.heap.size-1]'am):=Array.getElem?_eq_getElem _;rw[Y]at O;have:=(Array.getElem?_eq_some_iff.1 O).1;omega
def Holds.later{l:List HP}(K:Holds E w0 l)(h:Holds E w (m++[SL.old E w0])):Holds E w (m++l):=by
 refine⟨h.is,?_⟩;obtain⟨F1,F2,O,T,Y,hm,G1,G2,J,g2,gd,I,_⟩:=h.star.append;refine Star.join (F2:=E.free w0) O (λk hk=>T _ (J _ (I k hk).1)) (λk a b=>Y k a (J _ (I k b).1)) hm<|K.star.loc (λ_ h=>h) λk hk=>(I k hk).2
def look:Nat->List (Nat×Value)->Option Value
 |_,[]=>none
 |i,(j,v)::l=>bif Nat.beq i j then some v else look i l
def ev(ts:List (Nat×Value)):Operand->Option Value
 |.tmp t=>look t ts
 |.const v=>some v
 |.global g=>some (.pointer (some ⟨g,0,none⟩))
 |.func f=>some (.func (.func f) #[] #[])
end
structure Fits(n:Nat)(D:List Deferred)(ts:List (Nat×Value))(a:Act):Prop where
 size:a.tmps.size=n
 defers:a.defers=D
 get:∀i v,look i ts=some v->a.tmps[i]?=some v
def Fits.eval{n:Nat}{D:List Deferred}{ts:List (Nat×Value)}{a:Act}(h:Fits n D ts a){x:Operand}{v:Value}(I:ev ts x=some v):a.eval x=v:=by
 cases x with
 |tmp t=>simp[Act.eval,h.get t v I]
 |const u=>simpa[ev,Act.eval]using I
 |global g=>simpa[ev,Act.eval]using I
 |func f=>simpa[ev,Act.eval]using I
def Fits.put{n:Nat}{D:List Deferred}{ts:List (Nat×Value)}{a:Act}(h:Fits n D ts a)(i:Nat)(hi:i<n)(v:Value):Fits n D ((i,v)::ts) (a.put (some i) v):=by
 refine⟨by simp[Act.put,h.size],by simp[Act.put,h.defers],λj u J=>?_⟩;simp only[look]at J
 by_cases I:j=i
 ·subst I
  simp at J;subst J;simp[Act.put,h.size,hi]
 ·have:Nat.beq j i=false:=by cases hb:Nat.beq j i with|false=>rfl|true=>exact absurd (Nat.eq_of_beq_eq_true hb) I
  rw[this]at J;simp only[cond_false]at J;simp[Act.put,Array.getElem?_setIfInBounds_ne (Ne.symm I),h.get j u J]
inductive Put(n:Nat)(v:Value)(ts:List (Nat×Value)):Option Tmp->List (Nat×Value)->Prop where
 |none:Put n v ts none ts
 |some {i:Nat} (h:Nat.blt i n=true):Put n v ts (some i) ((i,v)::ts)
def At(E:Env)(n:Nat)(D:List Deferred)(ts:List (Nat×Value))(l:List HP)(K:Act->World->Prop):Prop:=∀a w,Fits n D ts a->Holds E w l->K a w
def aQ{l:List HP}:Ent l l:=Ent.refl l
section
variable{p q0 q1 q2 q3 q4 q5 q6 q7 q8 q9:HP}{l:List HP}
def bJ:Sel p (q0::p::l) (q0::l):=.tail .head
def dm:Sel p (q0::q1::p::l) (q0::q1::l):=.tail (.tail .head)
def gP:Sel p (q0::q1::q2::p::l) (q0::q1::q2::l):=.tail (.tail (.tail .head))
def kK:Sel p (q0::q1::q2::q3::p::l) (q0::q1::q2::q3::l):=.tail (.tail (.tail (.tail .head)))
def Cu:Sel p (q0::q1::q2::q3::q4::p::l) (q0::q1::q2::q3::q4::l):=.tail (.tail (.tail (.tail (.tail .head))))
def oX:Sel p (q0::q1::q2::q3::q4::q5::p::l) (q0::q1::q2::q3::q4::q5::l):=.tail (.tail (.tail (.tail (.tail (.tail .head)))))
def zg:Sel p (q0::q1::q2::q3::q4::q5::q6::p::l) (q0::q1::q2::q3::q4::q5::q6::l):=.tail (.tail (.tail (.tail (.tail (.tail (.tail .head))))))
def gfT8:Sel p (q0::q1::q2::q3::q4::q5::q6::q7::p::l) (q0::q1::q2::q3::q4::q5::q6::q7::l):=.tail (.tail (.tail (.tail (.tail (.tail (.tail (.tail .head)))))))
def KA:Sel p (q0::q1::q2::q3::q4::q5::q6::q7::q8::p::l) (q0::q1::q2::q3::q4::q5::q6::q7::q8::l):=.tail (.tail (.tail (.tail (.tail (.tail (.tail (.tail (.tail .head))))))))
end
open Go.RowKit
def Knows(ts:List (Nat×Value))(a:Act):Prop:=∀i v,look i ts=some v->a.tmps[i]?=some v
def Fits.knows(h:Fits n D ts a):Knows ts a:=h.get
def Knows.eval{ts:List (Nat×Value)}{a:Act}(h:Knows ts a){x:Operand}{v:Value}(E:ev ts x=some v):a.eval x=v:=by
 cases x with
 |tmp t=>simp[Act.eval,h t v E]
 |const u=>simpa[ev,Act.eval]using E
 |global g=>simpa[ev,Act.eval]using E
 |func f=>simpa[ev,Act.eval]using E
def Any(_:World):Prop:=True
def cw(p:Addr)(v:Value)(w:World):Prop:=w.cell? p=some v
def Ev(P:Program)(ts:List (Nat×Value))(op:Op)(v:Value)(φ:World->Prop):Prop:=
 ∀a w (d:Option Tmp) (E:TypeId) (pos:String) (I:Array Edge) (g:Option (Nat×Bool)),Knows ts a->φ w->(execOp a.eval ⟨d,op,E,pos,I,g⟩).run P w=.ok (.value v) w
def bg(E:ev ts x=some v):Ev P ts (.move x) v Any:=by
 intro a w _ _ _ _ _ k _;simp[execOp,k.eval E]
theorem aX(E:ev ts x=some v):Ev P ts (.assign x) v Any:=by
 intro a w _ _ _ _ _ k _;simp[execOp,k.eval E]
theorem aF{c:Operand}{b:Bool}(hc:ev ts c=some (.bool b))(E:ev ts x=some u)(I:ev ts y=some v):Ev P ts (.pick c x y) (if b then u else v) Any:=by
 intro a w _ _ _ _ _ k _;cases b<;>simp[execOp,k.eval hc,k.eval E,k.eval I,asBool]
theorem cI{p:Addr}(E:ev ts x=some (.pointer (some p))):Ev P ts (.nilCheck x) (.pointer (some p)) Any:=by
 intro a w _ _ _ _ _ k _;simp[execOp,k.eval E]
theorem ev_load{p:Addr}{d:TypeDesc}(E:P.underlying t=some d)(O:(match d with | .struct _ | .array _ _=>true|_=>false)=false)
(I:ev ts x=some (.pointer (some p))):Ev P ts (.load t x) v (cw p v):=by
 intro a w _ _ _ _ _ k hc;have J:(underlying t).run P w=.ok d w:=run_underlying E w;have K:(isAgg t).run P w=.ok false w:=by
  unfold isAgg;simp only[Sem.run_bind,J,Result.andThen_ok];cases d<;>simp_all
 unfold cw at hc;simp[execOp,k.eval I,Instr.loadAt,Instr.sureAddr,loadVar,K,hc]
end Go.SL
variable{R:Go.Value->List Go.SL.HP->Prop}{fr l:List Go.SL.HP}{E:Go.SL.Env}{G:Go.SL.Env->Prop}
namespace Go.SL
open Go.RowKit
section
variable{d e t':TypeId}{k k':IntKind}{a b:Int}{r:Bool}{ms:Array (String×TypeId)}{p:Option Addr}{c o off z:Nat}
def bH{r:Int}(I:ev ts x=some (.int k a))(J:ev ts y=some (.int k b))(K:k.wrap (a+b)=r):Ev P ts (.binOp .add t x y t') (.int k r) Any:=by
 intro ac w _ _ _ _ _ E _;subst K;simp[execOp,E.eval I,E.eval J,binOp,Op.intArith,eqGuard]
theorem dd{r:Int}(I:ev ts x=some (.int k a))(J:ev ts y=some (.int k b))(K:k.wrap (a-b)=r):Ev P ts (.binOp .sub t x y t') (.int k r) Any:=by
 intro ac w _ _ _ _ _ E _;subst K;simp[execOp,E.eval I,E.eval J,binOp,Op.intArith,eqGuard]
theorem lq{r:Int}(I:ev ts x=some (.int k a))(J:ev ts y=some (.int k b))(K:k.wrap (a*b)=r):Ev P ts (.binOp .mul t x y t') (.int k r) Any:=by
 intro ac w _ _ _ _ _ E _;subst K;simp[execOp,E.eval I,E.eval J,binOp,Op.intArith,eqGuard]
theorem Nu{r:Int}(I:ev ts x=some (.int k a))(J:ev ts y=some (.int k b))(K:b≠0)(O:k.wrap (a.tdiv b)=r):Ev P ts (.binOp .quo t x y t') (.int k r) Any:=by
 intro ac w _ _ _ _ _ E _;subst O;simp[execOp,E.eval I,E.eval J,binOp,Op.intDiv,eqGuard,K]
theorem mK{r:Int}(I:ev ts x=some (.int k a))(J:ev ts y=some (.int k b))(K:b≠0)(O:a.tmod b=r):Ev P ts (.binOp .rem t x y t') (.int k r) Any:=by
 intro ac w _ _ _ _ _ E _;subst O;simp[execOp,E.eval I,E.eval J,binOp,Op.intDiv,eqGuard,K]
theorem nF{r:Int}(I:ev ts x=some (.int k a))(J:ev ts y=some (.int k' b))(O:0<=b)(K:k.wrap (a*2 ^ min b.toNat k.bits)=r):Ev P ts (.binOp .shl t x y t') (.int k r) Any:=by
 intro ac w _ _ _ _ _ E _;subst K;have:¬b<0:=am;simp[execOp,E.eval I,E.eval J,binOp,Op.shift,eqGuard,this]
theorem gH{r:Int}(I:ev ts x=some (.int k a))(J:ev ts y=some (.int k' b))(O:0<=b)(K:a.fdiv (2 ^ min b.toNat k.bits)=r):Ev P ts (.binOp .shr t x y t') (.int k r) Any:=by
 intro ac w _ _ _ _ _ E _;subst K;have:¬b<0:=am;simp[execOp,E.eval I,E.eval J,binOp,Op.shift,eqGuard,this]
theorem ID{r:Int}(I:ev ts x=some (.int k a))(J:ev ts y=some (.int k b))(K:bits .and k a b=r):Ev P ts (.binOp .and t x y t') (.int k r) Any:=by
 intro ac w _ _ _ _ _ E _;subst K;simp[execOp,E.eval I,E.eval J,binOp,intBits_and,eqGuard]
theorem zm{r:Int}(I:ev ts x=some (.int k a))(J:ev ts y=some (.int k b))(K:bits .or k a b=r):Ev P ts (.binOp .or t x y t') (.int k r) Any:=by
 intro ac w _ _ _ _ _ E _;subst K;simp[execOp,E.eval I,E.eval J,binOp,intBits_or,eqGuard]
theorem Nt{r:Int}(I:ev ts x=some (.int k a))(J:ev ts y=some (.int k b))(K:bits .xor k a b=r):Ev P ts (.binOp .xor t x y t') (.int k r) Any:=by
 intro ac w _ _ _ _ _ E _;subst K;simp[execOp,E.eval I,E.eval J,binOp,intBits_xor,eqGuard]
theorem xh{r:Int}(I:ev ts x=some (.int k a))(J:ev ts y=some (.int k b))(K:bits .andNot k a b=r):Ev P ts (.binOp .andNot t x y t') (.int k r) Any:=by
 intro ac w _ _ _ _ _ E _;subst K;simp[execOp,E.eval I,E.eval J,binOp,intBits_andNot,eqGuard]
theorem bq(I:ev ts x=some (.int k a))(J:ev ts y=some (.int k b))(K:decide (a<b)=r):Ev P ts (.binOp .lss t x y t') (.bool r) Any:=by
 intro ac w _ _ _ _ _ E _;subst K;simp[execOp,E.eval I,E.eval J,binOp,Op.intCmp,eqGuard]
theorem nG(I:ev ts x=some (.int k a))(J:ev ts y=some (.int k b))(K:decide (a<=b)=r):Ev P ts (.binOp .leq t x y t') (.bool r) Any:=by
 intro ac w _ _ _ _ _ E _;subst K;simp[execOp,E.eval I,E.eval J,binOp,Op.intCmp,eqGuard]
theorem dX(I:ev ts x=some (.int k a))(J:ev ts y=some (.int k b))(K:decide (b<a)=r):Ev P ts (.binOp .gtr t x y t') (.bool r) Any:=by
 intro ac w _ _ _ _ _ E _;subst K;simp[execOp,E.eval I,E.eval J,binOp,Op.intCmp,eqGuard]
theorem nH(I:ev ts x=some (.int k a))(J:ev ts y=some (.int k b))(K:decide (b<=a)=r):Ev P ts (.binOp .geq t x y t') (.bool r) Any:=by
 intro ac w _ _ _ _ _ E _;subst K;simp[execOp,E.eval I,E.eval J,binOp,Op.intCmp,eqGuard]
theorem bc(I:ev ts x=some (.int k a))(J:ev ts y=some (.int k b))(K:decide (a=b)=r):Ev P ts (.binOp .eql t x y t') (.bool r) Any:=by
 intro ac w _ _ _ _ _ E _;subst K
 by_cases h:a=b<;>simp[execOp,E.eval I,E.eval J,binOp,Op.intCmp,eqGuard,h]
theorem cy(I:ev ts x=some (.int k a))(J:ev ts y=some (.int k b))(K:decide (a≠b)=r):Ev P ts (.binOp .neq t x y t') (.bool r) Any:=by
 intro ac w _ _ _ _ _ E _;subst K
 by_cases h:a=b<;>simp[execOp,E.eval I,E.eval J,binOp,Op.intCmp,eqGuard,h]
theorem ff{op:BinOp}{r:Value}{a:Act}{d:Option Tmp}{pos:String}(J:a.eval x=u)(K:a.eval y=v)
(O:(eqGuard op t x y u v).run P w=.ok () w)(T:(binOp op t u v).run P w=.ok r w):(execOp a.eval ⟨d,.binOp op t x y t',ty,pos,af,g⟩).run P w=.ok (.value r) w:=by
 simp[execOp,J,K,O,T]
theorem mQ(E:binOp .eql t u v=(do pure (.bool (<-Op.equal t u v))))(h:∀d,(Op.equalIn (d+1) t u v).run P w=.ok r w):(binOp .eql t u v).run P w=.ok (.bool r) w:=by
 rw[E];simp only[Op.equal,Op.maxDepth,Sem.run_bind,h 9999,Result.andThen_ok,Sem.run_pure]
theorem tF(E:binOp .neq t u v=(do pure (.bool (!(<-Op.equal t u v)))))(h:∀d,(Op.equalIn (d+1) t u v).run P w=.ok r w):(binOp .neq t u v).run P w=.ok (.bool (!r)) w:=by
 rw[E];simp only[Op.equal,Op.maxDepth,Sem.run_bind,h 9999,Result.andThen_ok,Sem.run_pure]
theorem cA{a:Bool}(E:ev ts x=some (.bool a))(I:(!a)=r):Ev P ts (.unOp .not t x) (.bool r) Any:=by
 intro ac w _ _ _ _ _ J _;subst I;simp[execOp,J.eval E,Op.unary]
theorem Nv{r:Int}(E:ev ts x=some (.int k a))(I:k.wrap (0-a)=r):Ev P ts (.unOp .neg t x) (.int k r) Any:=by
 intro ac w _ _ _ _ _ J _;subst I;simp[execOp,J.eval E,Op.unary,Op.intArith]
theorem cD{E:TypeDesc}{r:Int}(I:P.underlying s=some E)(J:P.underlying d=some (.int k))(K:ev ts x=some (.int k' a))(O:k.wrap a=r):Ev P ts (.convert s d x) (.int k r) Any:=by
 intro ac w _ _ _ _ _ T _;subst O;simp[execOp,T.eval K,convert,run_underlying I,run_underlying J,Conv.intToInt]
theorem eu(I:P.underlying t=some (.interface ms))(J:ev ts x=some (.iface d v)):Ev P ts (.binOp .eql t x (.const (.nilIface)) t') (.bool false) Any:=by
 intro ac w _ _ _ _ _ E _;exact ff (E.eval J) (E.eval (x:=.const _) rfl) (by simp[eqGuard]) (mQ rfl λd=>by simp[Op.equalIn,run_underlying I])
def fk(I:P.underlying t=some (.interface ms))(J:ev ts x=some (.iface d v)):Ev P ts (.binOp .neq t x (.const (.nilIface)) t') (.bool true) Any:=by
 intro ac w _ _ _ _ _ E _;exact ff (E.eval J) (E.eval (x:=.const _) rfl) (by simp[eqGuard]) (tF (r:=false) rfl λd=>by simp[Op.equalIn,run_underlying I])
def lE(I:P.underlying t=some (.interface ms))(J:ev ts x=some (.nilIface)):Ev P ts (.binOp .eql t x (.const (.nilIface)) t') (.bool true) Any:=by
 intro ac w _ _ _ _ _ E _;exact ff (E.eval J) (E.eval (x:=.const _) rfl) (by simp[eqGuard]) (mQ rfl λd=>by simp[Op.equalIn,run_underlying I])
def dF(I:P.underlying t=some (.interface ms))(J:ev ts x=some (.nilIface)):Ev P ts (.binOp .neq t x (.const (.nilIface)) t') (.bool false) Any:=by
 intro ac w _ _ _ _ _ E _;exact ff (E.eval J) (E.eval (x:=.const _) rfl) (by simp[eqGuard]) (tF (r:=true) rfl λd=>by simp[Op.equalIn,run_underlying I])
def eo(I:P.underlying t=some (.pointer e))(J:ev ts x=some (.pointer p))(K:p.isNone=r):Ev P ts (.binOp .eql t x (.const (.pointer none)) t') (.bool r) Any:=by
 intro ac w _ _ _ _ _ E _;subst K;exact ff (E.eval J) (E.eval (x:=.const _) rfl) (by simp[eqGuard]) (mQ rfl λd=>by cases p<;>simp[Op.equalIn,run_underlying I])
def Ed(I:P.underlying t=some (.pointer e))(J:ev ts x=some (.pointer p))(K:(!p.isNone)=r):Ev P ts (.binOp .neq t x (.const (.pointer none)) t') (.bool r) Any:=by
 intro ac w _ _ _ _ _ E _;subst K;exact ff (E.eval J) (E.eval (x:=.const _) rfl) (by simp[eqGuard]) (tF rfl λd=>by cases p<;>simp[Op.equalIn,run_underlying I])
def io(K:P.underlying t=some (.slice e))(O:ev ts x=some (.slice p n c))(T:p.isNone=r):Ev P ts (.binOp .eql t x (.const (Value.slice none i id)) t') (.bool r) Any:=by
 intro ac w _ _ _ _ _ E _;subst T;exact ff (E.eval O) (E.eval (x:=.const _) rfl) (by simp[eqGuard]) (mQ rfl λd=>by cases p<;>simp[Op.equalIn,run_underlying K])
def pA(K:P.underlying t=some (.slice e))(O:ev ts x=some (.slice p n c))(T:(!p.isNone)=r):Ev P ts (.binOp .neq t x (.const (Value.slice none i id)) t') (.bool r) Any:=by
 intro ac w _ _ _ _ _ E _;subst T;exact ff (E.eval O) (E.eval (x:=.const _) rfl) (by simp[eqGuard]) (tF rfl λd=>by cases p<;>simp[Op.equalIn,run_underlying K])
def add_plain(b o n:Nat):(⟨b,o,none⟩:Addr).add n=⟨b,o+n,none⟩:=by
 unfold Addr.add;split<;>simp_all
def kl(P:Program)(s:TypeId)(j:Nat):Option Nat:=
 match P.underlying s with
 |some (.struct fields)=>match fields[j]? with
  |some f=>match P.info? f.type with
   |some i=>if i.size=0 then none else some f.offset
   |none=>none
  |none=>none
 |_=>none
def AZ(h:kl P s j=some off)(b o:Nat)(w:World):(Instr.fieldAt s (.pointer (some ⟨b,o,none⟩)) j).run P w=.ok (.pointer (some ⟨b,o+off,none⟩)) w:=by
 unfold kl at h
 split at h
 ·rename_i E I
  split at h
  ·rename_i f J
   split at h
   ·rename_i i hi
    split at h
    ·cases h
    ·rename_i K
     injection h with h;subst h;simp[Instr.fieldAt,run_underlying I,J,Instr.sureAddr,fieldPlace,sizeOf,typeInfo,hi,K,add_plain]
   ·cases h
  ·cases h
 ·cases h
def uA{b:Nat}(h:kl P s j=some off)(E:ev ts x=some (.pointer (some ⟨b,o,none⟩))):Ev P ts (.fieldAddr s x j) (.pointer (some ⟨b,o+off,none⟩)) Any:=by
 intro ac w _ _ _ _ _ I _;simp[execOp,I.eval E,AZ h]
def dq(P:Program)(t:TypeId)(n:Nat):Prop:=(P.info? t).map (·.size)=some n
def dD(h:dq P t n)(w:World):(sizeOf t).run P w=.ok n w:=by
 unfold dq at h;cases hi:P.info? t with
 |none=>simp[hi]at h
 |some i=>simp[hi]at h;simp[sizeOf,typeInfo,hi,h]
theorem Nw{i:Int}{b:Nat}(I:P.underlying t=some (.slice e))(J:dq P e z)(K:ev ts x=some (.slice (some ⟨b,o,none⟩) n c))(O:ev ts y=some (.int k i))(T:0<=i)(Y:i<n) :
 Ev P ts (.indexAddr t x y) (.pointer (some ⟨b,o+i.toNat*z,none⟩)) Any:=by
 intro ac w _ _ _ _ _ E _;simp[execOp,E.eval K,E.eval O,Instr.indexAt,asIntOf,run_underlying I,dD J,T,Y,add_plain]
theorem aV{b:Nat}(E:P.underlying t=some (.slice e))(I:dq P e z)(J:ev ts x=some (.slice (some ⟨b,o,none⟩) n c))(K:ev ts y=some (.int k (i:Int)))(O:i<n) :
 Ev P ts (.indexAddr t x y) (.pointer (some ⟨b,o+i*z,none⟩)) Any:=Nw E I J K am am
def Ny{i:Int}{b:Nat}(I:P.underlying t=some (.array n e))(J:dq P e z)(K:ev ts x=some (.pointer (some ⟨b,o,none⟩)))(O:ev ts y=some (.int k i))(T:0<=i)(Y:i<n) :
 Ev P ts (.indexAddr t x y) (.pointer (some ⟨b,o+i.toNat*z,none⟩)) Any:=by
 intro ac w _ _ _ _ _ E _;simp[execOp,E.eval K,E.eval O,Instr.indexAt,asIntOf,run_underlying I,Instr.sureAddr,dD J,T,Y,add_plain]
def ky(P:Program)(t:TypeId):Option Bool:=
 match P.underlying t with
 |some (.struct _)|some (.array _ _)=>some true
 |some _=>some false
 |none=>none
def lA{b:Bool}(h:ky P t=some b)(w:World):(isAgg t).run P w=.ok b w:=by
 unfold ky at h;unfold isAgg;cases hu:P.underlying t with
 |none=>rw[hu]at h;cases h
 |some d=>
  rw[hu]at h;rw[Sem.run_bind,run_underlying hu,Result.andThen_ok];cases d<;>(injection h with h;subst h;rfl)
def Ai{p:Addr}(E:ky P t=some false)(I:ev ts x=some (.pointer (some p))):Ev P ts (.load t x) v (cw p v):=by
 intro a w _ _ _ _ _ k hc;unfold cw at hc;simp[execOp,k.eval I,Instr.loadAt,Instr.sureAddr,loadVar,lA E,hc]
def ie(b o:Nat)(vs:List Value)(w:World):Prop:=∀j v,vs[j]?=some v->w.cell? ⟨b,o+j,none⟩=some v
def ia{b o:Nat}{w:World}:∀(vs:List Value) (i:Nat) (E:Array Value),(∀j v,vs[j]?=some v->w.cell? ⟨b,o+(i+j),none⟩=some v)->(loadCellsFrom ⟨b,o,none⟩ i vs.length E).run P w=.ok (E++vs.toArray) w
 | [],i,E,_=>by simp[loadCellsFrom]
 |v::vs,i,E,h=>by
  have I:=h 0 v di;rw[Nat.add_zero]at I;have K:=ia vs (i+1) (E.push v) λj u J=>by
   have:=h (j+1) u (by simpa using J);rw[show i+1+j=i+(j+1) by omega];exact this
  simp[loadCellsFrom,add_plain,I,K]
theorem p9{b:Nat}(E:ky P t=some true)(I:dq P t n)(J:vs.length=n)(K:ev ts x=some (.pointer (some ⟨b,o,none⟩))):Ev P ts (.load t x) (.agg vs.toArray) (ie b o vs):=by
 intro a w _ _ _ _ _ k hc;subst J;have:=ia (P:=P) vs 0 #[] (λj v O=>by simpa using hc j v O);simp[execOp,k.eval K,Instr.loadAt,Instr.sureAddr,loadVar,lA E,dD I,loadCells,this]
end
section
variable{k:IntKind}{t':TypeId}{a b:Int}
def g8(E:ev ts x=some (.int k a))(I:ev ts y=some (.int k b))(J:(a<b)):Ev P ts (.binOp .lss t x y t') (.bool true) Any:=bq E I (decide_eq_true J)
def cK(E:ev ts x=some (.int k a))(I:ev ts y=some (.int k b))(J:¬(a<b)):Ev P ts (.binOp .lss t x y t') (.bool false) Any:=bq E I (decide_eq_false J)
def iT(E:ev ts x=some (.int k a))(I:ev ts y=some (.int k b))(J:(b<a)):Ev P ts (.binOp .gtr t x y t') (.bool true) Any:=dX E I (decide_eq_true J)
def mN(E:ev ts x=some (.int k a))(I:ev ts y=some (.int k b))(J:¬(b<a)):Ev P ts (.binOp .gtr t x y t') (.bool false) Any:=dX E I (decide_eq_false J)
def dg(E:ev ts x=some (.int k a))(I:ev ts y=some (.int k b))(J:(a=b)):Ev P ts (.binOp .eql t x y t') (.bool true) Any:=bc E I (decide_eq_true J)
def eE(E:ev ts x=some (.int k a))(I:ev ts y=some (.int k b))(J:¬(a=b)):Ev P ts (.binOp .eql t x y t') (.bool false) Any:=bc E I (decide_eq_false J)
def yc(E:ev ts x=some (.int k a))(I:ev ts y=some (.int k b))(J:(a≠b)):Ev P ts (.binOp .neq t x y t') (.bool true) Any:=cy E I (decide_eq_true J)
end
class Has(b:Nat)(l:List HP)(o:outParam Obj)(r:outParam (List HP)):Prop where
 sel:Sel (ob b o) l r
instance Has.head{b:Nat}{o:Obj}{l:List HP}:Has b (ob b o::l) o l:=⟨.head⟩
instance (priority:=low) Has.tail{b:Nat}{o:Obj}{l r:List HP}{p:HP}[h:Has b l o r]:Has b (p::l) o (p::r):=⟨.tail h.sel⟩
section
variable{ops:Array Oper}{rest:List Oper}
section
variable{pre r:List HP}{fn:Func}{c:Operand}{y:Code}{d:Option Tmp}{b:Bool}
def NJ{I:Act->World->Prop}(h:At E n D ts l K)(hk:∀a w,K a w->I a w):At E n D ts l I:=λa w f s=>hk a w (h a w f s)
def ao{l':List HP}(e:Ent l l')(h:At E n D ts l' K):At E n D ts l K:=λa w f s=>h a w f (s.ent e)
def Sub:List (Nat×Value)->List (Nat×Value)->Prop
 | [],_=>True
 | (i,v)::t,ts=>look i ts=some v/\Sub t ts
def Sub.look:∀{t ts:List (Nat×Value)},Sub t ts->∀{i:Nat} {v:Value},SL.look i t=some v->SL.look i ts=some v
 | [],_,_,_,_,h=>by simp[SL.look]at h
 | (j,u)::t,ts,⟨h0,h1⟩,i,v,h=>by
  simp only[SL.look]at h;cases hb:Nat.beq i j with
  |true=>
   rw[hb]at h;simp at h;rw[Nat.eq_of_beq_eq_true hb,<-h];exact h0
  |false=>rw[hb]at h;exact h1.look h
def Fits.sub{t:List (Nat×Value)}(h:Fits n D ts a)(s:Sub t ts):Fits n D t a:=⟨h.size,h.defers,λi v hi=>h.get i v (s.look hi)⟩
def df{α:Sort _}{g:α->HP}(s:Sel (HP.ex g) l r)(h:∀x,At E n D ts (g x::r) K):At E n D ts l K:=λa w f hw=>by
 have Y:=hw.sel s;obtain⟨F1,F2,I,h3,J,⟨x,O⟩,T⟩:=Y.star;exact h x a w f ⟨hw.is,F1,F2,I,h3,J,O,T⟩
def eW(s:Sel (HP.pure p) l r)(h:p->At E n D ts r K):At E n D ts l K:=λa w f hw=>by
 have O:=hw.sel s;obtain⟨F1,F2,T,h3,Y,I,J⟩:=O.star;exact h I a w f ⟨hw.is,J.mono h3⟩
def gf_At_all{m:List HP}(s:Sel (HP.all m) l r)(h:At E n D ts (m++r) K):At E n D ts l K:=λa w f hw=>h a w f ((hw.sel s).ent Ent.unall)
def bA(I:∀w,Holds E w l->p)(h:p->At E n D ts l K):At E n D ts l K:=λa w f hw=>h (I w hw) a w f hw
def ap(h:At E n D ts l (Q .normal)):At E n D ts l (wpList P ops Q []):=h
def dL(I:o.guard=none)(h:At E n D ts l (λa w=>o.wp P a w (wpList P ops Q rest) Q)):At E n D ts l (wpList P ops Q (o::rest)):=λa w f hw=>by
 unfold wpList;rw[if_pos (by simp[Region.wanted,I])];exact .inl (h a w f hw)
def Ev.wp{op:Op}{v:Value}{φ:World->Prop}(h:Ev P ts op v φ){a:Act}{w:World}{d:Option Tmp}{ty:TypeId}{pos:String}{af:Array Edge}{g:Option (Nat×Bool)}{K:Act->World->Prop}(k:Knows ts a)(I:φ w)(hk:K (a.put d v) w) :
 (Oper.mk d op ty pos af g).wp P a w K Q:=by
 unfold Oper.wp;rw[h a w d ty pos af g k I];exact hk
def mo{op:Op}{pos:String}(hi:Nat.blt i n=true)(I:Ev P ts op v φ)(J:∀w,Holds E w l->φ w)(h:At E n D ((i,v)::ts) l (wpList P ops Q rest)) :
 At E n D ts l (wpList P ops Q (⟨some i,op,ty,pos,af,none⟩::rest)):=
 dL rfl λ_a w f hw=>I.wp f.knows (J w hw) (h _ w (f.put i (Nat.le_of_ble_eq_true hi) v) hw)
def je{op:Op}{pos:String}(hi:Nat.blt i n=true)(I:Ev P ts op v Any)(h:At E n D ((i,v)::ts) l (wpList P ops Q rest)) :
 At E n D ts l (wpList P ops Q (⟨some i,op,ty,pos,af,none⟩::rest)):=mo hi I (λ_ _=>trivial) h
def iS{t:Nat}(I:o.guard=some (j,b))(J:(ops[j]?).bind (·.dst)=some t)(O:look t ts=some (.bool b))(h:At E n D ts l (λa w=>o.wp P a w (wpList P ops Q rest) Q)):At E n D ts l (wpList P ops Q (o::rest)):=λa w f hw=>by
 unfold wpList;rw[if_pos (by simp[Region.wanted,I,yielded,J,f.get t _ O])];exact .inl (h a w f hw)
def zY{t:Nat}{c:Bool}(I:o.dst=some i)(hi:Nat.blt i n=true)(J:o.guard=some (j,b))(O:(ops[j]?).bind (·.dst)=some t)(T:look t ts=some (.bool c))(Y:c=!b)(h:At E n D ((i,undef)::ts) l (wpList P ops Q rest)):At E n D ts l (wpList P ops Q (o::rest)):=λa w f hw=>by
 unfold wpList;rw[if_neg (by subst Y;cases b<;>simp[Region.wanted,J,yielded,O,f.get t _ T]),I];exact h _ w (f.put i (Nat.le_of_ble_eq_true hi) _) hw
def kW{op:Op}{pos:String}(hi:Nat.blt i n=true)(I:Ev P ts op v φ)(J:∀w,Holds E w l->φ w)(h:At E n D ((i,v)::ts) l K) :
 At E n D ts l (λa w=>(Oper.mk (some i) op ty pos af g).wp P a w K Q):=λ_a w f hw=>I.wp f.knows (J w hw) (h _ w (f.put i (Nat.le_of_ble_eq_true hi) v) hw)
def ah{b:Nat}[h:Has b l (.cells cs t I) r](J:cs[i]?=some v):∀w,Holds E w l->cw ⟨b,i,none⟩ v w:=λw hw=>by
 have:=(hw.ob h.sel).1;simp[cw,World.cell?,this,J]
theorem kF{b:Nat}[h:Has b l (.cells cs t I) r](J:∀j v,vs[j]?=some v->cs[i+j]?=some v):∀w,Holds E w l->ie b i vs w:=λw hw j v O=>by
 have:=(hw.ob h.sel).1;simp[World.cell?,this,J j v O]
theorem H8(I:o.dst=some i)(hi:Nat.blt i n=true)
(J:(execOp a.eval o).run P w=.ok (.value (.pointer (some ⟨w.heap.size,0,none⟩))) (w.alloc (.cells cs t)))
(h:∀b,At E n D ((i,.pointer (some ⟨b,0,none⟩))::ts) (blk b t cs::l) K)(f:Fits n D ts a)(hw:Holds E w l):o.wp P a w K Q:=by
 unfold Oper.wp;rw[J];show K (a.put o.dst _) _;rw[I];exact h _ _ _ (f.put i (Nat.le_of_ble_eq_true hi) _) (hw.alloc _)
def iV(P:Program)(t:TypeId)(z:Value):Prop:=(P.info? t).bind (·.zero)=some z
def iZ(h:iV P t z)(w:World):(zeroValue t).run P w=.ok z w:=by
 unfold iV at h;cases hi:P.info? t with
 |none=>simp[hi]at h
 |some i=>simp[hi]at h;simp[zeroValue,typeInfo,hi,h]
theorem Li{pos:String}(hi:Nat.blt i n=true)(I:iV P t z)
(h:∀b,At E n D ((i,.pointer (some ⟨b,0,none⟩))::ts) (blk b t z.cells::l) K):At E n D ts l (λa w=>(Oper.mk (some i) (.alloc t) ty pos af g).wp P a w K Q):=λa w f hw=>
 H8 rfl hi (by simp[execOp,Instr.alloc,iZ I,newVar,newRow]) h f hw
def cP{pos:String}(hi:Nat.blt i n=true)(I:ev ts x=some v)
(h:∀b,At E n D ((i,.pointer (some ⟨b,0,none⟩))::ts) (blk b t v.cells::l) K):At E n D ts l (λa w=>(Oper.mk (some i) (.box t x) ty pos af g).wp P a w K Q):=λa w f hw=>
 H8 rfl hi (by simp[execOp,Instr.box,f.eval I,newVar,newRow]) h f hw
def Holds.store{E:Env}{l:List HP}{b:Nat}(h:Holds E w l)(s:Sel (blk b t cs) l r):Holds E (w.setCell ⟨b,i,none⟩ v) (blk b t (cs.setIfInBounds i v)::r):=by
 have I:=h.sel s;have J:=(h.ob s).1;refine Holds.set (w:=w) I rfl rfl rfl (by simp[World.setCell]) ?_ λk hk=>Below.heap_setCell _ _ _ _ (by simpa using hk);simp[World.setCell,J,Array.getElem?_modify]
theorem lz{b:Nat}(I:w.heap[b]?=some (.cells cs t))(hi:i<cs.size)(J:v.oneCell'=true):(store ⟨b,i,none⟩ v).run P w=.ok () (w.setCell ⟨b,i,none⟩ v):=by
 rw[run_store P w _ _ _ J];simp[World.cell?,World.frozen?,I,hi]
theorem la(h:v.oneCell'=true):v.cells=#[v]:=by cases v<;>simp_all[Value.oneCell',Value.cells]
theorem cq{pos:String}{y:Operand}{b:Nat}[hh:Has b l (.cells cs tb) r]
(J:d=none)(O:dq P t 1)(T:ev ts x=some (.pointer (some ⟨b,i,none⟩)))(Y:ev ts y=some v)(I:v.oneCell'=true)(hi:i<cs.size)
(h:At E n D ts (blk b tb (cs.setIfInBounds i v)::r) K):At E n D ts l (λa w=>(Oper.mk d (.store t x y) ty pos af g).wp P a w K Q):=λa w f hw=>by
 subst J;have hb:=(hw.ob hh.sel).1;have:(execOp a.eval ⟨none,.store t x y,ty,pos,af,g⟩).run P w=.ok .skip (w.setCell ⟨b,i,none⟩ v):=by
  simp[execOp,f.eval T,f.eval Y,Instr.storeAt,Instr.sureAddr,storeVar,dD O,la I,storeCells,add_plain,lz hb hi I]
 unfold Oper.wp;rw[this];exact h _ _ f (hw.store hh.sel)
def iW(cs:Array Value)(i:Nat):List Value->Array Value
 | []=>cs
 |v::vs=>iW (cs.setIfInBounds i v) (i+1) vs
def ir:∀(vs:List Value) (cs:Array Value) (i:Nat),(iW cs i vs).size=cs.size
 | [],_,_=>rfl
 |v::vs,cs,i=>by simp[iW,ir vs]
theorem jx{b:Nat}{t:TypeId}:∀(vs:List Value) (w:World) (cs:Array Value) (o i:Nat),w.heap[b]?=some (.cells cs t)->o+i+vs.length<=cs.size->(∀v∈vs,v.oneCell'=true)->
 ∃w',(storeCells ⟨b,o,none⟩ vs i).run P w=.ok () w'/\w'.heap[b]?=some (.cells (iW cs (o+i) vs) t)/\w'.os=w.os/\w'.tape=w.tape/\w'.output=w.output/\w'.heap.size=w.heap.size/\(∀k,k≠b->w'.heap[k]?=w.heap[k]?)
 | [],w,cs,o,i,hb,_,_=>⟨w,by simp[storeCells],by simpa[iW]using hb,rfl,rfl,rfl,rfl,λ_ _=>rfl⟩
 |v::vs,w,cs,o,i,hb,hl,hv=>by
  simp only[List.length_cons]at hl;have h1:=lz (P:=P) (i:=o+i) hb am (hv v di);have I:(w.setCell ⟨b,o+i,none⟩ v).heap[b]?=some (.cells (cs.setIfInBounds (o+i) v) t):=by simp[World.setCell,hb,Array.getElem?_modify]
  obtain⟨w',O,T,h3,Y,h5,h6,h7⟩:=jx vs _ _ o (i+1) I (by simp;omega) (λu J=>hv u (by simp[J]));refine⟨w',?_,?_,h3,Y,h5,by rw[h6];simp[World.setCell],λk hk=>(h7 k hk).trans (Below.heap_setCell _ _ _ _ (by simpa using hk))⟩
  ·simp[storeCells,add_plain,h1,O]
  ·rw[T];simp[iW,Nat.add_assoc]
theorem bk{pos:String}{y:Operand}{b:Nat}[hh:Has b l (.cells cs tb) r]
(I:d=none)(J:dq P t m)(O:ev ts x=some (.pointer (some ⟨b,i,none⟩)))(T:ev ts y=some (.agg vs.toArray))(Y:vs.length=m)(hv:∀v∈vs,v.oneCell'=true)(hi:i+vs.length<=cs.size)
(h:At E n D ts (blk b tb (iW cs i vs)::r) K):At E n D ts l (λa w=>(Oper.mk d (.store t x y) ty pos af g).wp P a w K Q):=λa w f hw=>by
 subst I;subst Y;have h0:=hw.sel hh.sel;have hb:=(hw.ob hh.sel).1;obtain⟨w',hr,h2,h3,h4,h5,h6,h7⟩:=jx (P:=P) vs w cs i 0 hb (by simpa using hi) hv;have:(execOp a.eval ⟨none,.store t x y,ty,pos,af,g⟩).run P w=.ok .skip w':=by
  simp[execOp,f.eval O,f.eval T,Instr.storeAt,Instr.sureAddr,storeVar,dD J,Value.cells,hr]
 unfold Oper.wp;rw[this];exact h _ _ f (Holds.set h0 h3 h4 h5 h6 (by simpa using h2) h7)
def rf{x:Code}(h:At E n D ts l (x.wp P (Exit.then (y.wp P Q) Q))):At E n D ts l ((Code.seq x y).wp P Q):=λa w f hw=>wp_seq (h a w f hw)
def aa(h:At E n D ts l (Q .normal)):At E n D ts l (Code.skip.wp P Q):=λa w f hw=>wp_skip (h a w f hw)
def aM(h:At E n D ts l (Q (.exit id))):At E n D ts l ((Code.exit id).wp P Q):=λa w f hw=>wp_exit (h a w f hw)
def an(h:At E n D ts l (Q .ret)):At E n D ts l (Code.ret.wp P Q):=λa w f hw=>wp_ret (h a w f hw)
def BQ(h:At E n D ts l (Q .normal)):At E n D ts l ((Code.label k).wp P Q):=λa w f hw=>wp_label (h a w f hw)
def ai{c:Code}(h:At E n D ts l (c.wp P (Exit.inBlock id Q))):At E n D ts l ((Code.block id c).wp P Q):=λa w f hw=>wp_block (h a w f hw)
def m7(h:At E n D ts l (wpList P os.toArray Q os)):At E n D ts l ((Code.region id os.toArray false).wp P Q):=λa w f hw=>wp_region_lit (h a w f hw)
def cf{x:Code}(hc:ev ts c=some (.bool b))(I:b=true->At E n D ts l (x.wp P Q))(J:b=false->At E n D ts l (y.wp P Q)):At E n D ts l ((Code.cond c x y).wp P Q):=λa w f hw=>
 wp_cond_split (f.eval hc) (λh=>I h a w f hw) (λh=>J h a w f hw)
def aC{x:Code}[Decidable p](hc:ev ts c=some (.bool (decide p)))(I:p->At E n D ts l (x.wp P Q))(J:¬p->At E n D ts l (y.wp P Q)):At E n D ts l ((Code.cond c x y).wp P Q):=
 cf hc (λh=>I (of_decide_eq_true h)) (λh=>J (of_decide_eq_false h))
def aK{x:Code}(hc:ev ts c=some (.bool true))(h:At E n D ts l (x.wp P Q)):At E n D ts l ((Code.cond c x y).wp P Q):=λa w f hw=>wp_cond_true (f.eval hc) (h a w f hw)
def ag{x:Code}(hc:ev ts c=some (.bool false))(h:At E n D ts l (y.wp P Q)):At E n D ts l ((Code.cond c x y).wp P Q):=λa w f hw=>wp_cond_false (f.eval hc) (h a w f hw)
def uq{p:Nat->Prop}(h:∃m,p m):∃m,p m/\∀k,p k->m<=k:=by
 obtain⟨m,O⟩:=h
 induction m using Nat.strongRecOn with
 |_ m Y=>
  by_cases I:∃k,k<m/\p k
  ·obtain⟨k,hk,T⟩:=I
   exact Y k hk T
  ·exact⟨m,O,λk hk=>Nat.le_of_not_lt λJ=>I ⟨k,J,hk⟩⟩
def zo{X:Type}(n:Nat)(D:List Deferred)(E:Env)(T:X->List (Nat×Value))(L:X->List HP)(I:X->Prop)(μ:X->Nat)(m:Nat)(Q:Exit->Act->World->Prop):Exit->Act->World->Prop
 |.normal,a,w=>∃x,I x/\μ x<m/\Fits n D (T x) a/\Holds E w (L x)
 |e,a,w=>Q e a w
def aO{c:Code}(T:X->List (Nat×Value))(L:X->List HP)(I:X->Prop)(μ:X->Nat)(Y:X)(h0:I Y)(hs:Sub (T Y) ts)(hl:Ent l (L Y))
(h:∀x,I x->At E n D (T x) (L x) (c.wp P (zo n D E T L I μ (μ x) Q))):At E n D ts l ((Code.loop c).wp P Q):=λa w f hw=>by
 classical
 let J:Act->World->Nat->Prop:=λa w m=>∃x,I x/\μ x=m/\Fits n D (T x) a/\Holds E w (L x)
 have key:∀m a w,J a w m->(Code.loop c).wp P Q a w:=by
  intro m a w hJ;refine wp_loop (λa w=>∃m,J a w m) (λa w=>if h:∃m,J a w m then Classical.choose (uq h) else 0) ⟨m,hJ⟩ ?_;intro a w d9;obtain⟨hm,f8⟩:=Classical.choose_spec (uq d9);obtain⟨x,hI,hμ,hf,hH⟩:=hm;refine Code.wp_mono ?_ (h x hI a w hf hH);intro e a' w' hq;cases e with
  |normal=>
   obtain⟨x',d6,f7,d7,d8⟩:=hq;have O:∃m,J a' w' m:=⟨μ x',x',d6,rfl,d7,d8⟩;refine⟨O,?_⟩;rw[dif_pos O,dif_pos d9];refine Nat.lt_of_le_of_lt ((Classical.choose_spec (uq O)).2 _ ⟨x',d6,rfl,d7,d8⟩) ?_;rw[<-hμ];exact f7
  |_=>exact hq
 exact key (μ Y) a w ⟨Y,h0,rfl,f.sub hs,hw.ent hl⟩
def aH{T:X->List (Nat×Value)}{L:X->List HP}{I:X->Prop}{μ:X->Nat}(x:X)(J:I x)(O:μ x<m)(Y:Sub (T x) ts)(hl:Ent l (L x)):At E n D ts l (zo n D E T L I μ m Q .normal):=
 λ_ _ f hw=>⟨x,J,O,f.sub Y,hw.ent hl⟩
def vl(h:At E n D ts l K):At E n D ts l (Exit.then K Q .normal):=h
def aw(h:At E n D ts l (Q (.exit id))):At E n D ts l (Exit.then K Q (.exit id)):=h
def aD(h:At E n D ts l (Q .ret)):At E n D ts l (Exit.then K Q .ret):=h
def al(h:At E n D ts l (Q .normal)):At E n D ts l (Exit.inBlock id Q .normal):=h
def aJ(h:At E n D ts l (Q .ret)):At E n D ts l (Exit.inBlock id Q .ret):=h
def aq(h:At E n D ts l (Q .normal)):At E n D ts l (Exit.inBlock id Q (.exit id)):=λa w f hw=>by simpa[Exit.inBlock]using h a w f hw
def er(I:Nat.beq k id=false)(h:At E n D ts l (Q (.exit k))):At E n D ts l (Exit.inBlock id Q (.exit k)):=λa w f hw=>by
 have:k≠id:=λe=>by subst e;simp at I
 simpa[Exit.inBlock,this]using h a w f hw
def az{T:X->List (Nat×Value)}{L:X->List HP}{I:X->Prop}{μ:X->Nat}(h:At E n D ts l (Q (.exit id))):At E n D ts l (zo n D E T L I μ m Q (.exit id)):=h
def bM{T:X->List (Nat×Value)}{L:X->List HP}{I:X->Prop}{μ:X->Nat}(h:At E n D ts l (Q .ret)):At E n D ts l (zo n D E T L I μ m Q .ret):=h
def Does(P:Program)(G:Env->Prop)(f:FuncId)(args:Array Value)(pre:List HP)(R:Value->List HP->Prop):Prop:=
 ∀E w fr,G E->Holds E w (pre++fr)->Calls P f args w λe w'=>∃v m,e=.returned v/\R v m/\Holds E w' (m++fr)
def Does.mono{G:Env->Prop}{f:FuncId}{args:Array Value}{pre:List HP}{R R':Value->List HP->Prop}(h:Does P G f args pre R)(J:∀v m,R v m->∃I,R' v I/\Ent m I):Does P G f args pre R':=
 λE w fr O hw=>(h E w fr O hw).mono λ_ _ ⟨v,m,T,Y,hh⟩=>let⟨I,hr',hm⟩:=J v m Y;⟨v,I,T,hr',hh.ent (hm.append fr)⟩
def nt(P:Program)(fn:Func)(E:Env)(fr:List HP)(R:Value->List HP->Prop):Exit->Act->World->Prop:=
 bodyPost P fn λe w'=>∃v m,e=.returned v/\R v m/\Holds E w' (m++fr)
def fU:Nat->List Value->List (Nat×Value)
 |_,[]=>[]
 |i,v::vs=>(i,v)::fU (i+1) vs
def fV:∀(vs:List Value) (i:Nat) (j:Nat) (v:Value),look j (fU i vs)=some v->i<=j/\vs[j-i]?=some v
 | [],_,_,_,h=>by simp[fU,look]at h
 |u::vs,i,j,v,h=>by
  simp only[fU,look]at h;cases hb:Nat.beq j i with
  |true=>
   rw[hb]at h;simp at h;have:=Nat.eq_of_beq_eq_true hb;subst this;exact⟨cx _,by simpa using h⟩
  |false=>
   rw[hb]at h;obtain⟨J,I⟩:=fV vs (i+1) j v h;refine⟨am,?_⟩;rw[show j-i=(j-(i+1))+1 by omega];simpa using I
def Does.body{c:Code}{args:List Value}{R:Value->List HP->Prop}(O:P.funcs[f]?=some fn)(T:fn.body=some c)(Y:Nat.ble args.length fn.ntmps=true)
(h:∀E fr,G E->At E fn.ntmps [] (fU 0 args) (pre++fr) (c.wp P (nt P fn E fr R))):Does P G f args.toArray pre R:=by
 intro E w fr hE hw;refine calls_of_wp O T (h E fr hE _ _ ⟨?_,rfl,?_⟩ hw)
 ·have:=Nat.le_of_ble_eq_true Y
  simp;omega
 ·intro i v hi
  obtain⟨_,I⟩:=fV args 0 i v hi;rw[Nat.sub_zero]at I;have J:i<args.length:=(gfGet.1 I).1;simp[Array.getElem?_append,J,(gfGet.1 I).2]
theorem bt(m:List HP)(I:fn.results=#[])(J:R (.tuple #[]) m)(O:Ent l (m++fr)):At E n [] ts l (nt P fn E fr R .normal):=λ_ _ f hw=>
 ⟨f.defers,_,results_none I _ _ _,_,m,rfl,J,hw.ent O⟩
def dt(m:List HP)(I:fn.results=#[])(J:R (.tuple #[]) m)(O:Ent l (m++fr)):At E n [] ts l (nt P fn E fr R .ret):=λ_ _ f hw=>
 ⟨f.defers,_,results_none I _ _ _,_,m,rfl,J,hw.ent O⟩
def fQ(h:a.tmps[i]?=some v):a.tmps.getD i undef=v:=by simp[h]
theorem ar(m:List HP)(I:fn.results=#[.tmp i])(J:look i ts=some v)(O:R v m)(T:Ent l (m++fr)):At E n [] ts l (nt P fn E fr R .ret):=λ_ _ f hw=>
 ⟨f.defers,v,by rw[results_tmp I,fQ (f.get i v J)],_,m,rfl,O,hw.ent T⟩
def dr(m:List HP)(I:fn.results=#[.tmp i,.tmp j])(J:look i ts=some u)(O:look j ts=some v)(T:R (.tuple #[u,v]) m)(Y:Ent l (m++fr)):At E n [] ts l (nt P fn E fr R .ret):=λ_ _ f hw=>
 ⟨f.defers,_,by rw[results_tmp2 I,fQ (f.get i u J),fQ (f.get j v O)],_,m,rfl,T,hw.ent Y⟩
def yy{i j k:Tmp}(h:fn.results=#[.tmp i,.tmp j,.tmp k])(tmps:Array Value)(P:Program)(w:World) :
 (results fn tmps).run P w=.ok (.tuple #[tmps.getD i undef,tmps.getD j undef,tmps.getD k undef]) w:=by
 simp[results,h]
theorem eV{x:Value}(m:List HP)(I:fn.results=#[.tmp i,.tmp j,.tmp k])(J:look i ts=some u)(O:look j ts=some v)(T:look k ts=some x)(Y:R (.tuple #[u,v,x]) m)(hm:Ent l (m++fr)):At E n [] ts l (nt P fn E fr R .ret):=λ_ _ f hw=>
 ⟨f.defers,_,by rw[yy I,fQ (f.get i u J),fQ (f.get j v O),fQ (f.get k x T)],_,m,rfl,Y,hw.ent hm⟩
def rE(ts:List (Nat×Value)):List Operand->Option (List Value)
 | []=>some []
 |x::xs=>match ev ts x,rE ts xs with
  |some v,some vs=>some (v::vs)
  |_,_=>none
def eU{a:Act}(k:Knows ts a):∀{xs:List Operand} {vs:List Value},rE ts xs=some vs->xs.map a.eval=vs
 | [],vs,h=>by simp[rE]at h;subst h;rfl
 |x::xs,vs,h=>by
  simp only[rE]at h
  split at h
  ·rename_i v I J O
   injection h with h;subst h;simp[k.eval J,eU k O]
  ·cases h
def eT(P:Program)(f:FuncId):Bool:=match P.funcs[f]? with
 |some fn=>fn.body.isSome&&!(fn.name== "runtime.NumGoroutine")
 |none=>false
def eZ(I:eT P f=true)(args:Array Value)(w:World):(callFunc f args).run P w=.ok (.enter f args) w:=by
 unfold eT at I
 split at I
 ·rename_i fn J
  simp only[Bool.and_eq_true,Bool.not_eq_true']at I;unfold callFunc;simp only[Sem.run_bind,run_program,Result.andThen_ok,J];rw[I.2];simp only[Bool.false_eq_true,if_false];have:fn.body.isNone=false:=by cases h:fn.body<;>simp_all
  rw[this]
  rfl
 ·cases I
def tY{args:Array Value}(I:(execOp a.eval o).run P w=.ok (.enter f args) w)(J:G E)(O:Does P G f args pre R)(hw:Holds E w (pre++fr))
(hk:∀v m w',R v m->Holds E w' (m++fr)->K (a.put o.dst v) w'):o.wp P a w K Q:=by
 unfold Oper.wp;rw[I];refine(O E w fr J hw).mono λe w' ⟨v,m,T,Y,hm⟩=>?_;subst T;exact hk v m w' Y hm
def pk{pos:String}{at_:Array TypeId}{args:List Value}(hi:Nat.blt i n=true)
(J:eT P f=true)(O:rE ts xs=some args)(T:G E)(Y:Does P G f args.toArray pre R)(hl:Ent l (pre++fr))(h:∀v m,R v m->At E n D ((i,v)::ts) (m++fr) K) :
 At E n D ts l (λa w=>(Oper.mk (some i) (.call {callee:=.value (.func f),args:=xs.toArray,argTypes:=at_}) ty pos af g).wp P a w K Q):=λa w I hw=>by
 refine tY (f:=f) (args:=args.toArray) ?_ T Y (hw.ent hl) λv m w' hR hm=>h v m hR _ w' (I.put i (Nat.le_of_ble_eq_true hi) v) hm;have:=eU I.knows O;simp[execOp,resolve,Deferred.ofValue,Act.eval,invoke,this,eZ J]
theorem iR{pos:String}{first:Array Value}{at_:Array TypeId}{args:List Value}(hi:Nat.blt i n=true)
(O:ev ts x=some (.func (.func f) first cs))(T:eT P f=true)(Y:rE ts xs=some args)(hE:G E)(hs:Does P G f (first++args.toArray++cs) pre R)(hl:Ent l (pre++fr))(h:∀v m,R v m->At E n D ((i,v)::ts) (m++fr) K) :
 At E n D ts l (λa w=>(Oper.mk (some i) (.call {callee:=.value x,args:=xs.toArray,argTypes:=at_}) ty pos af g).wp P a w K Q):=λa w J hw=>by
 refine tY (f:=f) (args:=first++args.toArray++cs) ?_ hE hs (hw.ent hl) λv m w' hR hm=>h v m hR _ w' (J.put i (Nat.le_of_ble_eq_true hi) v) hm;have:=eU J.knows Y;simp[execOp,resolve,Deferred.ofValue,J.eval O,invoke,this,eZ T]
end
end
def bW{T:List (Nat×Value)}(h:Sub T ts:=by repeat (first|exact trivial|refine⟨rfl,?_⟩)):Sub T ts:=h
abbrev aA(n:Int):Value:=.int .i64 n
abbrev cB:Value:=.slice none 0 0
abbrev dQ(g n c:Nat):Value:=.slice (some ⟨g,0,none⟩) n c
abbrev cd(n:Int):Value:=.int .u64 n
abbrev zb(n:Int):Value:=.int .u8 n
abbrev eg(b o:Nat):Value:=.pointer (some ⟨b,o,none⟩)
def ec{α β:Sort _}{a:α}{b:β}:a=a/\b=b:=⟨rfl,rfl⟩
section
variable{ops:Array Oper}
def gQ(ops:Array Oper)(j i:Nat):Bool:=
 match ops[j]? with
 |some o=>o.after.any λe=>Region.binds .any e&&e.on==i
 |none=>false
def Sure(P:Program)(ops:Array Oper)(o:Oper)(v:Value)(φ:World->Prop)(a:Act):Prop:=
 (Region.wanted o (yielded ops a.tmps)=true/\∀w,φ w->(execOp a.eval o).run P w=.ok (.value v) w)\/(Region.wanted o (yielded ops a.tmps)=false/\v=undef)
def Sure.wpOp{i:Nat}{o:Oper}{v:Value}{φ:World->Prop}{a:Act}(hi:ops[i]?=some o)(J:Sure P ops o v φ a){K:Act->World->Prop}{w:World}(hw:φ w)(h:K (a.put o.dst v) w):wpOp P ops Q i K a w:=by
 unfold Go.wpOp;simp only[hi];rcases J with⟨I,O⟩|⟨I,rfl⟩
 ·simp only[I,if_true,Oper.wp,O w hw,Oper.upon];exact .inl h
 ·simp only[I,Bool.false_eq_true,if_false];exact h
def AJ{oi:Oper}(hj:ops[j]?=some o)(O:oi.apart ops o=true)(T:∀cs b,oi.op≠.select cs b)(h:wpOp P ops Q j K a w) :
 wpOp P ops Q j (λY w'=>K Y w'/\execOp Y.eval oi=execOp a.eval oi/\Region.wanted oi (yielded ops Y.tmps)=Region.wanted oi (yielded ops a.tmps)) a w:=by
 obtain⟨_,_,h3⟩:=Oper.apart_spec O;have keep:∀(b:Act) (u:Value),b.tmps=a.tmps->execOp (b.put o.dst u).eval oi=execOp a.eval oi/\Region.wanted oi (yielded ops (b.put o.dst u).tmps)=Region.wanted oi (yielded ops a.tmps):=λb u hb=>by
  have e1:=execOp_put (ops:=ops) oi T b o.dst u h3;have e2:=wanted_put (ops:=ops) oi b o.dst u h3;have e3:b.eval=a.eval:=by funext x;cases x<;>simp[Act.eval,hb]
  rw[e1,e2,e3,hb];exact ec
 unfold wpOp at *
 simp only[hj]at *
 split
 ·rename_i hw
  simp only[hw,if_true]at h;rcases h with h|h
  ·refine .inl ?_
   unfold Oper.wp at *
   generalize (execOp a.eval o).run P w=r at *
   cases r with
   |ok n w'=>
    cases n<;>simp only[Oper.upon]at h ⊢<;>first
     |exact⟨h,keep a _ rfl⟩
     |exact⟨h,keep {a with defers:=_} _ rfl⟩
     |exact Calls.mono h (λe d6 J=>by cases e<;>first|exact⟨J,keep a _ rfl⟩|exact J)
     |exact Rows.mono h (λv d6 J=>⟨J,keep a _ rfl⟩)
   |halt x w'=>cases x<;>simp only[Oper.upon]at h ⊢<;>exact h
  ·exact .inr h
 ·rename_i hw
  simp only[hw]at h;exact⟨h,keep a _ rfl⟩
def gt(P:Program)(ops:Array Oper)(Q:Exit->Act->World->Prop):Nat->Array Bool->List (Nat×(World->Prop))->Act->World->Prop
 |0,listed,_,a,w=>Region.ready .any ops listed=[]/\Q .normal a w
 |fuel+1,listed,S,a,w=>
  (Region.ready .any ops listed=[]->Q .normal a w)/\
  ∀j∈Region.ready .any ops listed,wpOp P ops Q j (λI w'=>(∀p∈S,gQ ops j p.1=false->p.2 w')/\gt P ops Q fuel (listed.setIfInBounds j true) (S.filter λp=>!gQ ops j p.1) I w') a w
def uH:∀(fuel:Nat) (listed:Array Bool) (S:List (Nat×(World->Prop))) (a:Act) (w:World),gt P ops Q fuel listed S a w->wpAny P .any ops Q fuel listed a w
 |0,_,_,_,_,h=>h
 |fuel+1,_listed,_S,_a,_w,h=>⟨h.1,λj I=>wpOp_mono (λJ w' K=>uH fuel _ _ J w' K.2) (h.2 j I)⟩
def rH:∀(fuel:Nat) (listed:Array Bool) (S S':List (Nat×(World->Prop))) (a:Act) (w:World),(∀p∈S',p∈S)->gt P ops Q fuel listed S a w->gt P ops Q fuel listed S' a w
 |0,_,_,_,_,_,_,h=>h
 |fuel+1,listed,S,S',a,w,hs,h=>⟨h.1,λj J=>wpOp_mono (λK w' ⟨O,T⟩=>⟨λp I=>O p (hs p I),rH fuel _ _ _ K w' (λp I=>by
  obtain⟨h3,Y⟩:=List.mem_filter.1 I;exact List.mem_filter.2 ⟨hs p h3,Y⟩) T⟩) (h.2 j J)⟩
def uJ:∀(fuel:Nat) (listed:Array Bool) (S S':List (Nat×(World->Prop))) (a:Act) (w:World),(∀p∈S',p∈S\/∀w,p.2 w)->gt P ops Q fuel listed S a w->gt P ops Q fuel listed S' a w
 |0,_,_,_,_,_,_,h=>h
 |fuel+1,listed,S,S',a,w,hs,h=>⟨h.1,λj J=>wpOp_mono (λK w' ⟨O,T⟩=>⟨λp I Y=>(hs p I).elim (λh=>O p h Y) (λh=>h w'),uJ fuel _ _ _ K w' (λp I=>by
  obtain⟨h3,h4⟩:=List.mem_filter.1 I;exact(hs p h3).imp_left λh=>List.mem_filter.2 ⟨h,h4⟩) T⟩) (h.2 j J)⟩
def nU(fuel:Nat)(listed:Array Bool)(S:List (Nat×(World->Prop)))(i:Nat)(a:Act)(w:World)(h:gt P ops Q fuel listed S a w):gt P ops Q fuel listed ((i,Any)::S) a w:=
 uJ fuel listed S _ a w (λp I=>by
  rcases List.mem_cons.1 I with rfl|I
  ·exact .inr λ_=>trivial
  ·exact .inl I) h
def ko{oi:Oper}(hi:ops[i]?=some oi)(d7:∀(j:Nat) (o:Oper) cs b,ops[j]?=some o->o.op≠.select cs b)
(hQ:∀c a w,Q (.panic c) (a.put oi.dst v) w->Q (.panic c) a w) :
 ∀(fuel:Nat) (listed:Array Bool) (S:List (Nat×(World->Prop))) (a:Act) (w:World),
  (∀j Y,ops[j]?=some Y->j≠i->listed.getD j true=false->(∀e∈Y.after,Region.binds .any e=true->e.on≠i)->oi.apart ops Y=true)->
  i∈Region.ready .any ops listed->Sure P ops oi v φ a->φ w->(∀p∈S,p.2 w)->
  gt P ops Q fuel (listed.setIfInBounds i true) ((i,φ)::S) (a.put oi.dst v) w->gt P ops Q (fuel+1) listed S a w:=by
 intro fuel
 induction fuel with
 |zero=>
  intro listed S a w _ hr hy hφ hS H;refine⟨λh=>(by rw[h]at hr;cases hr),λj hj=>?_⟩
  by_cases J:j=i
  ·subst J
   exact hy.wpOp hi hφ ⟨λp T _=>hS p T,H⟩
  ·have:=ready_mono hj J
   rw[H.1]at this;cases this
 |succ fuel ih=>
  intro listed S a w O hr hy hφ hS H;refine⟨λh=>(by rw[h]at hr;cases hr),λj hj=>?_⟩
  by_cases J:j=i
  ·subst J
   exact hy.wpOp hi hφ ⟨λp T _=>hS p T,rH _ _ _ _ _ _ (λp T=>List.mem_cons_of_mem _ (List.mem_filter.1 T).1) H⟩
  ·have h1:=H.2 j (ready_mono hj J)
   obtain⟨d8,Y,K,mt⟩:=mem_ready.1 hj;have d9:∀e∈Y.after,Region.binds .any e=true->e.on≠i:=λe he hb t8=>by
    have h1:=mt e he hb;have h0:=(mem_ready.1 hr).1;rw[t8]at h1;rcases Nat.lt_or_ge i listed.size with h'|h'
    ·simp[h']at h0 h1;rw[h0]at h1;cases h1
    ·simp[Array.getElem?_eq_none h']at h1
   have f7:=O j Y K J d8 d9;have hw:gQ ops j i=false:=by
    unfold gQ;rw[K];simp only[Array.any_eq_false];intro k hk;simp only[Bool.and_eq_true,beq_iff_eq,not_and];exact λhb=>d9 _ (Array.getElem_mem hk) hb
   let I:Oper:=⟨oi.dst,.move (.const v),0,"",#[],none⟩
   have f8:Yields P ops I v a:=.inl ⟨rfl,λw=>by simp[I,execOp,Act.eval]⟩;have t6:I.apart ops Y=true:=by
    simp only[Oper.apart,Bool.and_eq_true]at f7 ⊢;refine⟨f7.1,?_⟩;cases Y.dst<;>simp[I,Oper.looksAt,Op.operands]
   have h2:=wpOp_put (oi:=I) K t6 (λcs b=>by simp[I]) (λcs b=>d7 j Y cs b K) hQ f8 h1;have h3:=AJ (oi:=oi) K f7 (λcs b=>d7 i oi cs b hi) h2;have d6:∀k ok,ops[k]?=some ok->k≠i->(listed.setIfInBounds j true).getD k true=false->
    (∀e∈ok.after,Region.binds .any e=true->e.on≠i)->oi.apart ops ok=true:=λk ok hk wf f9 hno=>by
    refine O k ok hk wf ?_ hno
    by_cases t7:j=k
    ·subst t7;exact d8
    ·rw[getD_set_ne true t7]at f9;exact f9
   refine wpOp_mono (λa' w' ⟨⟨_,h5,h6⟩,h7,h8⟩=>⟨λp T BT=>h5 p (List.mem_cons_of_mem _ T) BT,?_⟩) h3;refine ih (listed.setIfInBounds j true) _ a' w' d6 (ready_mono hr (Ne.symm J)) ?_ (h5 (i,φ) (List.mem_cons_self ..) hw) ?_ ?_
   ·unfold Sure at hy ⊢
    rw[h7,h8];exact hy
   ·intro p T
    obtain⟨h9,Fd⟩:=List.mem_filter.1 T;exact h5 p (List.mem_cons_of_mem _ h9) (by simpa using Fd)
   ·rw[Array.setIfInBounds_comm _ _ J]
    simp only[List.filter_cons,hw,Bool.not_false,if_true]at h6;exact h6
def Kept(E:Env)(l:List HP):List (Nat×(World->Prop))->Prop
 | []=>True
 |p::S=>(∀w,Holds E w l->p.2 w)/\Kept E l S
def ak:Kept E l []:=trivial
def aj(h:∀w,Holds E w l->φ w)(k:Kept E l S):Kept E l ((i,φ)::S):=⟨h,k⟩
def Kept.all{E:Env}{l:List HP}:∀{S:List (Nat×(World->Prop))},Kept E l S->∀{w:World},Holds E w l->∀p∈S,p.2 w
 | [],_,_,_,p,hp=>by cases hp
 |q::S,⟨h1,h2⟩,w,hw,p,hp=>by
  rcases List.mem_cons.1 hp with rfl|hp
  ·exact h1 w hw
  ·exact Kept.all h2 hw p hp
def fH(P:Program)(ops:Array Oper)(Q:Exit->Act->World->Prop)(fuel:Nat)(listed:Array Bool)(S:List (Nat×(World->Prop)))(a:Act)(w:World):Prop:=
 (∀p∈S,p.2 w)->gt P ops Q fuel listed S a w
section
variable{fuel:Nat}{listed:Array Bool}
def bP(Q:Exit->Act->World->Prop):Exit->Act->World->Prop
 |.panic _,_,_=>False
 |e,a,w=>Q e a w
def BM(I:P.follows .mixedOrders=true)(h:At E n D ts l (fH P os.toArray (bP Q) os.length (Array.replicate os.length false) [])):At E n D ts l ((Code.region id os.toArray true).wp P Q):=λa w f hw=>by
 refine wp_mono (Q:=bP Q) (wp_region_any I ?_) λe a w h=>by cases e<;>first|exact h|exact h.elim
 simp only[List.size_toArray];exact uH _ _ _ _ _ (h a _ ⟨f.size,f.defers,f.get⟩ (hw.drawn _) (λp J=>by cases J))
def DV(i:Nat){op:Op}{pos:String}(T:Region.noSelect ops=true)(hi:ops[i]?=some ⟨some d,op,ty,pos,af,none⟩)(Y:Nat.blt d n=true)
(hr:(Region.ready .any ops listed).contains i=true)(hf:Region.free .any ops listed i=true)(I:Ev P ts op v φ)(K:∀w,Holds E w l->φ w)
(h:At E n D ((d,v)::ts) l (fH P ops (bP Q) fuel (listed.setIfInBounds i true) ((i,φ)::S))):At E n D ts l (fH P ops (bP Q) (fuel+1) listed S):=λa w f hw O=>
 ko hi (Region.noSelect_spec T) (λ_ _ _ h=>h.elim) fuel listed S a w (Region.free_spec hi hf) (by simpa using hr) (.inl ⟨rfl,λw hw=>I a w _ _ _ _ _ f.knows hw⟩) (K w hw) O
  (h _ w (f.put d (Nat.le_of_ble_eq_true Y) v) hw (λp J=>by
   rcases List.mem_cons.1 J with rfl|J
   ·exact K w hw
   ·exact O p J))
def DX(i:Nat){op:Op}{pos:String}(O:Region.noSelect ops=true)(hi:ops[i]?=some ⟨some d,op,ty,pos,af,none⟩)(T:Nat.blt d n=true)
(Y:(Region.ready .any ops listed).contains i=true)(hf:Region.free .any ops listed i=true)(I:Ev P ts op v Any)
(h:At E n D ((d,v)::ts) l (fH P ops (bP Q) fuel (listed.setIfInBounds i true) S)):At E n D ts l (fH P ops (bP Q) (fuel+1) listed S):=λa w f hw J=>by
 have d6:∀p∈(i,Any)::S,p.2 w:=λp K=>by
  rcases List.mem_cons.1 K with rfl|K
  ·trivial
  ·exact J p K
 refine ko hi (Region.noSelect_spec O) (λ_ _ _ h=>h.elim) fuel listed S a w (Region.free_spec hi hf) (by simpa using Y) (.inl ⟨rfl,λw hw=>I a w _ _ _ _ _ f.knows hw⟩) trivial J<|nU fuel _ S i _ w (h _ w (f.put d (Nat.le_of_ble_eq_true T) v) hw J)
def JK(i:Nat){_o:Oper}{op:Op}{pos:String}{t:Nat}{b:Bool}(T:Region.noSelect ops=true)(hi:ops[i]?=some ⟨some d,op,ty,pos,af,some (j,b)⟩)(Y:Nat.blt d n=true)(ht:(ops[j]?).bind (·.dst)=some t)(hv:look t ts=some (.bool b))
(hr:(Region.ready .any ops listed).contains i=true)(hf:Region.free .any ops listed i=true)(I:Ev P ts op v φ)(K:∀w,Holds E w l->φ w)
(h:At E n D ((d,v)::ts) l (fH P ops (bP Q) fuel (listed.setIfInBounds i true) ((i,φ)::S))):At E n D ts l (fH P ops (bP Q) (fuel+1) listed S):=λa w f hw O=>
 ko hi (Region.noSelect_spec T) (λ_ _ _ h=>h.elim) fuel listed S a w (Region.free_spec hi hf) (by simpa using hr) (.inl ⟨by simp[Region.wanted,yielded,ht,f.get t _ hv],λw hw=>I a w _ _ _ _ _ f.knows hw⟩) (K w hw) O
  (h _ w (f.put d (Nat.le_of_ble_eq_true Y) v) hw (λp J=>by
   rcases List.mem_cons.1 J with rfl|J
   ·exact K w hw
   ·exact O p J))
def re(j:Nat)(hi:ops[j]?=some o)(J:o.guard=none)(I:Region.ready .any ops listed=[j])
(h:At E n D ts l (λa w=>o.wp P a w (λK w'=>(∀p∈S,gQ ops j p.1=false->p.2 w')/\gt P ops (bP Q) fuel (listed.setIfInBounds j true) (S.filter λp=>!gQ ops j p.1) K w') (bP Q))) :
 At E n D ts l (fH P ops (bP Q) (fuel+1) listed S):=λa w f hw _=>by
 refine⟨λO=>(by rw[O]at I;cases I),?_⟩;rw[I];intro k hk;simp at hk;subst hk;unfold wpOp;simp only[hi,Region.wanted,J,if_true];exact .inl (h a w f hw)
def i7(j k:Nat){u:Oper}(hi:ops[j]?=some o)(O:o.guard=none)(hk:ops[k]?=some u)(T:u.guard=none)(I:Region.ready .any ops listed=[j,k])
(h:At E n D ts l (λa w=>o.wp P a w (λJ w'=>(∀p∈S,gQ ops j p.1=false->p.2 w')/\gt P ops (bP Q) fuel (listed.setIfInBounds j true) (S.filter λp=>!gQ ops j p.1) J w') (bP Q)))
(Y:At E n D ts l (λa w=>u.wp P a w (λJ w'=>(∀p∈S,gQ ops k p.1=false->p.2 w')/\gt P ops (bP Q) fuel (listed.setIfInBounds k true) (S.filter λp=>!gQ ops k p.1) J w') (bP Q))) :
 At E n D ts l (fH P ops (bP Q) (fuel+1) listed S):=λa w f hw _=>by
 refine⟨λh0=>(by rw[h0]at I;cases I),?_⟩;rw[I];intro x K;simp at K;unfold wpOp;rcases K with rfl|rfl
 ·simp only[hi,Region.wanted,O,if_true]
  exact .inl (h a w f hw)
 ·simp only[hk,Region.wanted,T,if_true]
  exact .inl (Y a w f hw)
def pick:List Bool->List (Nat×(World->Prop))->List (Nat×(World->Prop))
 |true::m,p::S=>p::pick m S
 |false::m,_::S=>pick m S
 |_,_=>[]
theorem nV{f:Nat->Bool}:∀{S:List (Nat×(World->Prop))} {mask:List Bool},(S.map λp=>f p.1)=mask->(S.filter λp=>f p.1)=pick mask S
 | [],mask,h=>by subst h;rfl
 |p::S,mask,h=>by
  subst h;simp only[List.map_cons,List.filter_cons];cases hf:f p.1 with
  |true=>simp only[if_true,pick];rw[nV rfl]
  |false=>simp only[Bool.false_eq_true,if_false,pick];rw[nV rfl]
theorem DY(mask:List Bool)(J:(S.map λp=>!gQ ops j p.1)=mask)(hk:Kept E l (pick mask S))(h:At E n D ts l (fH P ops (bP Q) fuel (listed.setIfInBounds j true) (pick mask S))) :
 At E n D ts l (λK w'=>(∀p∈S,gQ ops j p.1=false->p.2 w')/\gt P ops (bP Q) fuel (listed.setIfInBounds j true) (S.filter λp=>!gQ ops j p.1) K w'):=λa w f hw=>by
 have I:=nV (f:=λi=>!gQ ops j i) J;rw[I];have:=hk.all hw;refine⟨λp O T=>this p ?_,h a w f hw this⟩;rw[<-I];exact List.mem_filter.2 ⟨O,by simp[T]⟩
def DZ(I:Region.ready .any ops listed=[])(h:At E n D ts l (Q .normal)):At E n D ts l (fH P ops (bP Q) fuel listed S):=λa w f hw _=>by
 cases fuel with
 |zero=>exact⟨I,h a w f hw⟩
 |succ m=>exact⟨λ_=>h a w f hw,by rw[I];simp⟩
end
end
section
variable{ops:Array Oper}{rest:List Oper}{pos:String}
def aW(h:At E n D ts fr K):At E n D ts ([]++fr) K:=h
def ae{p:HP}(h:At E n D ts (p::fr) K):At E n D ts ([p]++fr) K:=h
def aE{p q:HP}(h:At E n D ts (p::q::fr) K):At E n D ts ([p,q]++fr) K:=h
def cF{p q r:HP}(h:At E n D ts (p::q::r::fr) K):At E n D ts ([p,q,r]++fr) K:=h
def bT{p q r s:HP}(h:At E n D ts (p::q::r::s::fr) K):At E n D ts ([p,q,r,s]++fr) K:=h
def du{p q r s t:HP}(h:At E n D ts (p::q::r::s::t::fr) K):At E n D ts ([p,q,r,s,t]++fr) K:=h
def tv(hi:Nat.blt i n=true)(I:ev ts x=some v)(h:At E n D ((i,v)::ts) l (wpList P ops Q rest)):At E n D ts l (wpList P ops Q (⟨some i,.move x,ty,pos,af,none⟩::rest)):=je hi (bg I) h
def Fl(hi:Nat.blt i n=true)(I:ev ts x=some v)(h:At E n D ((i,v)::ts) l (wpList P ops Q rest)):At E n D ts l (wpList P ops Q (⟨some i,.assign x,ty,pos,af,none⟩::rest)):=je hi (aX I) h
def Fj{p:Addr}(hi:Nat.blt i n=true)(I:ev ts x=some (.pointer (some p)))(h:At E n D ((i,.pointer (some p))::ts) l (wpList P ops Q rest)):At E n D ts l (wpList P ops Q (⟨some i,.nilCheck x,ty,pos,af,none⟩::rest)):=je hi (cI I) h
def Fk(off:Nat){o:Nat}(hi:Nat.blt i n=true)(I:kl P s j=some off)(J:ev ts x=some (eg b o))(h:At E n D ((i,eg b (o+off))::ts) l (wpList P ops Q rest)) :
 At E n D ts l (wpList P ops Q (⟨some i,.fieldAddr s x j,ty,pos,af,none⟩::rest)):=je hi (uA I J) h
def aL{o:Nat}{r:List HP}[hh:Has b l (.cells cs tb I) r](hi:Nat.blt i n=true)(J:ky P t=some false)(O:ev ts x=some (eg b o))(T:cs[o]?=some v)
(h:At E n D ((i,v)::ts) l (wpList P ops Q rest)):At E n D ts l (wpList P ops Q (⟨some i,.load t x,ty,pos,af,none⟩::rest)):=mo hi (Ai J O) (ah T) h
def bD{o:Nat}{r:List HP}[hh:Has b l (.cells cs tb) r](I:dq P t 1)(J:ev ts x=some (eg b o))(O:ev ts y=some v)(T:v.oneCell'=true)(hi:o<cs.size)
(h:At E n D ts (blk b tb (cs.setIfInBounds o v)::r) (wpList P ops Q rest)):At E n D ts l (wpList P ops Q (⟨none,.store t x y,ty,pos,af,none⟩::rest)):=dL rfl (cq rfl I J O T hi h)
def bZ{vs:Array Value}(I:ev ts x=some (.tuple vs))(J:vs[k]?=some v):Ev P ts (.extract x k) v Any:=by
 intro a w _ _ _ _ _ O _;simp[execOp,O.eval I,Instr.extract,J]
theorem Ly{vs:Array Value}(hi:Nat.blt i n=true)(I:ev ts x=some (.tuple vs))(J:vs[k]?=some v)(h:At E n D ((i,v)::ts) l (wpList P ops Q rest)):At E n D ts l (wpList P ops Q (⟨some i,.extract x k,ty,pos,af,none⟩::rest)):=je hi (bZ I J) h
def bh{p:Option Addr}{c:Nat}(J:P.underlying t=some (.slice s))(O:ev ts x=some (.slice p m c)):Ev P ts (.call {callee:=.builtin .len,args:=#[x],argTypes:=#[t]}) (aA m) Any:=by
 intro a w _ _ _ _ _ T _;simp[execOp,resolve,invoke,builtin,Builtin.len_,T.eval O,run_underlying J,goInt]
theorem LF{s:ByteArray}(I:P.underlying t=some .string)(J:ev ts x=some (.string s)):Ev P ts (.call {callee:=.builtin .len,args:=#[x],argTypes:=#[t]}) (aA s.size) Any:=by
 intro a w _ _ _ _ _ O _;simp[execOp,resolve,invoke,builtin,Builtin.len_,O.eval J,run_underlying I,goInt]
theorem em{d:TypeDesc}(I:P.underlying t=some d)(T:(match d with | .interface _=>true|_=>false)=false)(J:ev ts x=some v):Ev P ts (.makeInterface t x) (.iface t v) Any:=by
 intro a w _ _ _ _ _ O _;simp only[execOp,O.eval J,Instr.makeInterface,Sem.run_bind,run_underlying I,Result.andThen_ok];cases d<;>simp_all
def gj{I:Fn}{J:List Operand}{us:List Value}(T:rE ts xs=some us)(Y:rE ts J=some vs):Ev P ts (.makeFunc I xs.toArray J.toArray) (.func I us.toArray vs.toArray) Any:=by
 intro a w _ _ _ _ _ O _;simp[execOp,Instr.makeFunc,eU O T,eU O Y]
theorem iP{x:Int}(h:-9223372036854775808<=x/\x<=9223372036854775807):IntKind.i64.wrap x=x:=IntWalk.i64_in x h
def wu64{x:Int}(h:0<=x/\x<=18446744073709551615):IntKind.u64.wrap x=x:=IntWalk.u64_in x h
def wu8{x:Int}(h:0<=x/\x<=255):IntKind.u8.wrap x=x:=IntWalk.u8_in x h
def wu32{x:Int}(h:0<=x/\x<=4294967295):IntKind.u32.wrap x=x:=IntWalk.u32_in x h
def li(x:Int):IntKind.u64.wrap x=x%18446744073709551616:=by simp[IntKind.wrap,IntKind.bits,IntKind.signed]
def MI{X:Type}(n:Nat)(D:List Deferred)(E:Env)(T:X->List (Nat×Value))(L:X->List HP)(I:X->Prop)(Q:Exit->Act->World->Prop):Exit->Act->World->Prop
 |.normal,a,w=>∃x,I x/\Fits n D (T x) a/\Holds E w (L x)
 |e,a,w=>Q e a w
def cu(T:X->List (Nat×Value))(L:X->List HP)(I:X->Prop)(O:At E n D ts l (c.wp P (MI n D E T L I Q)))(Y:∀x,I x->At E n D (T x) (L x) K):At E n D ts l (c.wp P (Exit.then K Q)):=
 λa w f hw=>Code.wp_mono (λe a' w' J=>by
  cases e with
  |normal=>obtain⟨x,hI,hf,hH⟩:=J;exact Y x hI a' w' hf hH
  |_=>exact J) (O a w f hw)
def aT{T:X->List (Nat×Value)}{L:X->List HP}{I:X->Prop}(x:X)(J:I x)(O:Sub (T x) ts)(Y:Ent l (L x)):At E n D ts l (MI n D E T L I Q .normal):=λ_ _ f hw=>⟨x,J,f.sub O,hw.ent Y⟩
def pd{T:X->List (Nat×Value)}{L:X->List HP}{I:X->Prop}(h:At E n D ts l (Q .ret)):At E n D ts l (MI n D E T L I Q .ret):=h
end
section
variable{ops:Array Oper}{fuel:Nat}{listed:Array Bool}
def eY(ops:Array Oper)(listed:Array Bool)(i:Nat):Bool:=Region.noSelect ops&&(Region.ready .any ops listed).contains i&&Region.free .any ops listed i
def ox(i:Nat){op:Op}{pos:String}(hi:ops[i]?=some ⟨some d,op,ty,pos,af,none⟩)(O:Nat.blt d n=true)(I:eY ops listed i=true)(J:Ev P ts op v Any)
(h:At E n D ((d,v)::ts) l (fH P ops (bP Q) fuel (listed.setIfInBounds i true) S)):At E n D ts l (fH P ops (bP Q) (fuel+1) listed S):=by
 simp only[eY,Bool.and_eq_true]at I;exact DX i I.1.1 hi O I.1.2 I.2 J h
def zZ(i:Nat){op:Op}{pos:String}(hi:ops[i]?=some ⟨some d,op,ty,pos,af,none⟩)(O:Nat.blt d n=true)(I:eY ops listed i=true)(J:Ev P ts op v φ)(T:∀w,Holds E w l->φ w)
(h:At E n D ((d,v)::ts) l (fH P ops (bP Q) fuel (listed.setIfInBounds i true) ((i,φ)::S))):At E n D ts l (fH P ops (bP Q) (fuel+1) listed S):=by
 simp only[eY,Bool.and_eq_true]at I;exact DV i I.1.1 hi O I.1.2 I.2 J T h
end
section
variable{ops:Array Oper}{rest:List Oper}{pos:String}{fuel:Nat}{listed:Array Bool}{t:Nat}{b:Bool}{op:Op}
def Z{α:Sort _}{a:α}:a=a:=rfl
def dR(j:Nat)(hi:ops[j]?=some o)(I:o.guard=none)(h:At E n D ts l (λa w=>o.wp P a w (λO w'=>(∀p∈S,gQ ops j p.1=false->p.2 w')/\gt P ops (bP Q) fuel (listed.setIfInBounds j true) (S.filter λp=>!gQ ops j p.1) O w') (bP Q)))(J:Region.ready .any ops listed=[j]:=by kernel_rfl):At E n D ts l (fH P ops (bP Q) (fuel+1) listed S):=re j hi I J h
def dE(h:At E n D ts l (Q .normal))(I:Region.ready .any ops listed=[]:=by kernel_rfl):At E n D ts l (fH P ops (bP Q) fuel listed S):=DZ I h
def dK(mask:List Bool)(hk:Kept E l (pick mask S))(h:At E n D ts l (fH P ops (bP Q) fuel (listed.setIfInBounds j true) (pick mask S)))(I:(S.map λp=>!gQ ops j p.1)=mask:=by kernel_rfl):At E n D ts l (λJ w'=>(∀p∈S,gQ ops j p.1=false->p.2 w')/\gt P ops (bP Q) fuel (listed.setIfInBounds j true) (S.filter λp=>!gQ ops j p.1) J w'):=DY mask I hk h
end
section
variable{ops:Array Oper}{rest:List Oper}{pos:String}{y:Code}
def sQ{x:Code}(h:At E n D ts l (x.wp P (Exit.then (y.wp P Q) Q))):At E n D ts l ((Code.seq x y).wp P Q):=rf h
def sG(h:At E n D ts l (wpList P os.toArray Q os)):At E n D ts l ((Code.region id os.toArray false).wp P Q):=m7 h
def sS(h:At E n D ts l (wpList P os.toArray (Exit.then (y.wp P Q) Q) os)):At E n D ts l ((Code.seq (Code.region id os.toArray false) y).wp P Q):=rf (m7 h)
def sN(h:At E n D ts l K):At E n D ts l (wpList P ops (Exit.then K Q) []):=h
def sT(h:At E n D ts l K):At E n D ts l (Exit.then K Q .normal):=h
def sM(I:ev ts x=some v)(h:At E n D ((i,v)::ts) l (wpList P ops Q rest))(hi:Nat.blt i n=true:=by kernel_rfl):At E n D ts l (wpList P ops Q (⟨some i,.move x,ty,pos,af,none⟩::rest)):=tv hi I h
def sA(I:ev ts x=some v)(h:At E n D ((i,v)::ts) l (wpList P ops Q rest))(hi:Nat.blt i n=true:=by kernel_rfl):At E n D ts l (wpList P ops Q (⟨some i,.assign x,ty,pos,af,none⟩::rest)):=Fl hi I h
def sB(I:ev ts x=some v)(h:At E n D ((i,v)::ts) l K)(hi:Nat.blt i n=true:=by kernel_rfl):At E n D ts l (wpList P ops (Exit.then K Q) [⟨some i,.assign x,ty,pos,af,none⟩]):=Fl hi I h
def sP{op:Op}(I:Ev P ts op v Any)(h:At E n D ((i,v)::ts) l (wpList P ops Q rest))(hi:Nat.blt i n=true:=by kernel_rfl):At E n D ts l (wpList P ops Q (⟨some i,op,ty,pos,af,none⟩::rest)):=je hi I h
def sO(h:At E n D ts l (λa w=>o.wp P a w (wpList P ops Q rest) Q))(I:o.guard=none:=by kernel_rfl):At E n D ts l (wpList P ops Q (o::rest)):=dL I h
def sZ(I:P.follows .mixedOrders=true)(h:At E n D ts l (fH P os.toArray (bP Q) os.length (Array.replicate os.length false) [])):At E n D ts l ((Code.region id os.toArray true).wp P Q):=BM I h
end
section
variable{ops:Array Oper}{rest:List Oper}{pos:String}{op:Op}
def eS(h:p:=by kernel_rfl):p:=h
def ib(h:p:=by rw[iP (by omega)];omega):p:=h
def eG(h:p:=by simp[Value.oneCell']):p:=h
def aR{t:Nat}{b c:Bool}(I:o.dst=some i)(h:At E n D ((i,undef)::ts) l (wpList P ops Q rest))(hi:Nat.blt i n=true:=by kernel_rfl)(J:o.guard=some (j,b):=by rfl)(O:(ops[j]?).bind (·.dst)=some t:=by rfl)(T:look t ts=some (.bool c):=by rfl)(Y:c=!b:=by rfl):At E n D ts l (wpList P ops Q (o::rest)):=zY I hi J O T Y h
def bm(off:Nat){o:Nat}(I:ev ts x=some (eg b o))(h:At E n D ((i,eg b (o+off))::ts) l (wpList P ops Q rest))(J:kl P s j=some off:=by rfl)(hi:Nat.blt i n=true:=by kernel_rfl):At E n D ts l (wpList P ops Q (⟨some i,.fieldAddr s x j,ty,pos,af,none⟩::rest)):=Fk off hi J I h
def cZ{p:Addr}(I:ev ts x=some (.pointer (some p)))(h:At E n D ((i,.pointer (some p))::ts) l (wpList P ops Q rest))(hi:Nat.blt i n=true:=by kernel_rfl):At E n D ts l (wpList P ops Q (⟨some i,.nilCheck x,ty,pos,af,none⟩::rest)):=Fj hi I h
def bG{vs:Array Value}(I:ev ts x=some (.tuple vs))(J:vs[k]?=some v)(h:At E n D ((i,v)::ts) l (wpList P ops Q rest))(hi:Nat.blt i n=true:=by kernel_rfl):At E n D ts l (wpList P ops Q (⟨some i,.extract x k,ty,pos,af,none⟩::rest)):=Ly hi I J h
def bF(I:Ev P ts op v φ)(J:∀w,Holds E w l->φ w)(h:At E n D ((i,v)::ts) l (wpList P ops Q rest))(hi:Nat.blt i n=true:=by kernel_rfl):At E n D ts l (wpList P ops Q (⟨some i,op,ty,pos,af,none⟩::rest)):=mo hi I J h
def bR{o:Nat}(I:ev ts x=some (eg b o))(J:ky P t=some true:=by rfl)(O:dq P t m:=by rfl)(T:vs.length=m:=by rfl):Ev P ts (.load t x) (.agg vs.toArray) (ie b o vs):=p9 J O T I
def cO(I:iV P t z)(h:∀b,At E n D ((i,eg b 0)::ts) (blk b t z.cells::l) K)(hi:Nat.blt i n=true:=by kernel_rfl):At E n D ts l (λa w=>(Oper.mk (some i) (.alloc t) ty pos af g).wp P a w K Q):=Li hi I h
def bz{I:Func}{args:List Value}{pre:List HP}(J:P.funcs[f]?=some I)(O:I.body=some c)(h:∀E fr,G E->At E I.ntmps [] (fU 0 args) (pre++fr) (c.wp P (nt P I E fr R)))(T:Nat.ble args.length I.ntmps=true:=by rfl):Does P G f args.toArray pre R:=Does.body J O T h
def au{p:Addr}{v:Value}(I:ev ts x=some (.pointer (some p)))(J:ky P t=some false:=by rfl):Ev P ts (.load t x) v (cw p v):=Ai J I
def bd(off:Nat){o:Nat}(I:ev ts x=some (eg b o))(h:kl P s j=some off:=by rfl):Ev P ts (.fieldAddr s x j) (eg b (o+off)) Any:=uA h I
end
section
variable{ops:Array Oper}{rest:List Oper}{pos:String}{at_:Array TypeId}{args:List Value}{pre:List HP}
def dP(I:rE ts xs=some args)(J:Does P G f args.toArray pre R)(O:Ent l (pre++fr))(h:∀v m,R v m->At E n D ((i,v)::ts) (m++fr) K)(T:G E:=by assumption)(Y:eT P f=true:=by kernel_rfl)(hi:Nat.blt i n=true:=by kernel_rfl):At E n D ts l (λa w=>(Oper.mk (some i) (.call {callee:=.value (.func f),args:=xs.toArray,argTypes:=at_}) ty pos af g).wp P a w K Q):=pk hi Y I T J O h
def bQ(I:rE ts xs=some args)(J:Does P G f args.toArray pre R)(O:Ent l (pre++fr))(h:∀v m,R v m->At E n D ((i,v)::ts) (m++fr) (wpList P ops Q rest))(T:G E:=by assumption)(Y:eT P f=true:=by kernel_rfl)(hi:Nat.blt i n=true:=by kernel_rfl):At E n D ts l (wpList P ops Q (⟨some i,.call {callee:=.value (.func f),args:=xs.toArray,argTypes:=at_},ty,pos,af,none⟩::rest)):=dL rfl (pk hi Y I T J O h)
def bV{V:Value}{M:List HP}(I:rE ts xs=some args)(J:Does P G f args.toArray pre λv m=>v=V/\m=M)(O:Ent l (pre++fr))(h:At E n D ((i,V)::ts) (M++fr) (wpList P ops Q rest))(T:G E:=by assumption)(Y:eT P f=true:=by kernel_rfl)(hi:Nat.blt i n=true:=by kernel_rfl):At E n D ts l (wpList P ops Q (⟨some i,.call {callee:=.value (.func f),args:=xs.toArray,argTypes:=at_},ty,pos,af,none⟩::rest)):=dL rfl (pk hi Y I T J O λ_ _ h'=>by obtain⟨rfl,rfl⟩:=h';exact h)
end
section
variable{ops:Array Oper}{rest:List Oper}{pos:String}{fuel:Nat}{listed:Array Bool}{t:Nat}{b:Bool}{op:Op}
def dx(i:Nat)(hi:ops[i]?=some ⟨some d,op,ty,pos,af,none⟩)(I:Ev P ts op v Any)(h:At E n D ((d,v)::ts) l (fH P ops (bP Q) fuel (listed.setIfInBounds i true) S))(J:Nat.blt d n=true:=by kernel_rfl)(O:eY ops listed i=true:=by kernel_rfl):At E n D ts l (fH P ops (bP Q) (fuel+1) listed S):=ox i hi J O I h
def jW(i:Nat)(hi:ops[i]?=some ⟨some d,op,ty,pos,af,none⟩)(I:Ev P ts op v φ)(J:∀w,Holds E w l->φ w)(h:At E n D ((d,v)::ts) l (fH P ops (bP Q) fuel (listed.setIfInBounds i true) ((i,φ)::S)))(O:Nat.blt d n=true:=by kernel_rfl)(T:eY ops listed i=true:=by kernel_rfl):At E n D ts l (fH P ops (bP Q) (fuel+1) listed S):=zZ i hi O T I J h
def dI(j:Nat)(hi:ops[j]?=some o)(h:At E n D ts l (λa w=>o.wp P a w (λO w'=>(∀p∈S,gQ ops j p.1=false->p.2 w')/\gt P ops (bP Q) fuel (listed.setIfInBounds j true) (S.filter λp=>!gQ ops j p.1) O w') (bP Q)))(I:o.guard=none:=by rfl)(J:Region.ready .any ops listed=[j]:=by kernel_rfl):At E n D ts l (fH P ops (bP Q) (fuel+1) listed S):=re j hi I J h
def bB(hi:ops[i+1]?=some ⟨some d,op,ty,pos,af,none⟩)(I:Ev P ts op v Any)(h:At E n D ((d,v)::ts) l (fH P ops (bP Q) fuel ((listed.setIfInBounds i true).setIfInBounds (i+1) true) S))(J:Nat.blt d n=true:=by kernel_rfl)(O:eY ops (listed.setIfInBounds i true) (i+1)=true:=by kernel_rfl):At E n D ts l (fH P ops (bP Q) (fuel+1) (listed.setIfInBounds i true) S):=ox (i+1) hi J O I h
def bN(hi:ops[i+1]?=some ⟨some d,op,ty,pos,af,none⟩)(I:Ev P ts op v φ)(J:∀w,Holds E w l->φ w)(h:At E n D ((d,v)::ts) l (fH P ops (bP Q) fuel ((listed.setIfInBounds i true).setIfInBounds (i+1) true) ((i+1,φ)::S)))(O:Nat.blt d n=true:=by kernel_rfl)(T:eY ops (listed.setIfInBounds i true) (i+1)=true:=by kernel_rfl):At E n D ts l (fH P ops (bP Q) (fuel+1) (listed.setIfInBounds i true) S):=zZ (i+1) hi O T I J h
def xx(hi:ops[i+1]?=some o)(h:At E n D ts l (λa w=>o.wp P a w (λO w'=>(∀p∈S,gQ ops (i+1) p.1=false->p.2 w')/\gt P ops (bP Q) fuel ((listed.setIfInBounds i true).setIfInBounds (i+1) true) (S.filter λp=>!gQ ops (i+1) p.1) O w') (bP Q)))(I:o.guard=none:=by rfl)(J:Region.ready .any ops (listed.setIfInBounds i true)=[i+1]:=by kernel_rfl):At E n D ts l (fH P ops (bP Q) (fuel+1) (listed.setIfInBounds i true) S):=re (i+1) hi I J h
def fM{i:Nat}(I:Ev P ts op v φ)(J:∀w,Holds E w l->φ w)(h:At E n D ((i,v)::ts) l (wpList P ops Q rest))(O:(ops[j]?).bind (·.dst)=some t:=by rfl)(T:look t ts=some (.bool b):=by rfl)(hi:Nat.blt i n=true:=by kernel_rfl):At E n D ts l (wpList P ops Q (⟨some i,op,ty,pos,af,some (j,b)⟩::rest)):=iS rfl O T (kW hi I J h)
def bO{i:Nat}(I:Ev P ts op v Any)(h:At E n D ((i,v)::ts) l (wpList P ops Q rest))(J:(ops[j]?).bind (·.dst)=some t:=by rfl)(O:look t ts=some (.bool b):=by rfl)(hi:Nat.blt i n=true:=by kernel_rfl):At E n D ts l (wpList P ops Q (⟨some i,op,ty,pos,af,some (j,b)⟩::rest)):=iS rfl J O (kW hi I (λ_ _=>trivial) h)
end
section
variable{ops:Array Oper}{rest:List Oper}{ty' ty2 t0:TypeId}{pos pos' pos2:String}{af' af2:Array Edge}{fuel:Nat}{listed:Array Bool}{d1 t i1 i2 i3 o:Nat}{bb:Bool}{op:Op}{y:Code}
def cC(hi:ops[i+1]?=some ⟨some d,.move x,ty,pos,af,none⟩)(I:ev ts x=some v)(h:At E n D ((d,v)::ts) l (fH P ops (bP Q) fuel ((listed.setIfInBounds i true).setIfInBounds (i+1) true) S))(J:Nat.blt d n=true:=by kernel_rfl)(O:eY ops (listed.setIfInBounds i true) (i+1)=true:=by kernel_rfl):At E n D ts l (fH P ops (bP Q) (fuel+1) (listed.setIfInBounds i true) S):=ox (i+1) hi J O (bg I) h
def ea(hi:ops[0]?=some ⟨some d,.move x,ty,pos,af,none⟩)(I:ev ts x=some v)(h:At E n D ((d,v)::ts) l (fH P ops (bP Q) fuel (listed.setIfInBounds 0 true) S))(J:Nat.blt d n=true:=by kernel_rfl)(O:eY ops listed 0=true:=by kernel_rfl):At E n D ts l (fH P ops (bP Q) (fuel+1) listed S):=ox 0 hi J O (bg I) h
def dy(off:Nat)(I:ops[i+1]?=some ⟨some d1,.nilCheck x,ty,pos,af,none⟩)(J:ev ts x=some (eg b o))(O:ops[i+1+1]?=some ⟨some d,.fieldAddr s (.tmp d1) j,ty',pos',af',none⟩)(h:At E n D ((d,eg b (o+off))::(d1,eg b o)::ts) l (fH P ops (bP Q) fuel (((listed.setIfInBounds i true).setIfInBounds (i+1) true).setIfInBounds (i+1+1) true) S))(T:kl P s j=some off:=by rfl)(e1:Nat.blt d1 n=true:=by kernel_rfl)(e2:Nat.blt d n=true:=by kernel_rfl)(Y:eY ops (listed.setIfInBounds i true) (i+1)=true:=by kernel_rfl)(m2:eY ops ((listed.setIfInBounds i true).setIfInBounds (i+1) true) (i+1+1)=true:=by kernel_rfl):At E n D ts l (fH P ops (bP Q) (fuel+1+1) (listed.setIfInBounds i true) S):=ox (i+1) I e1 Y (cI J) (ox (i+1+1) O e2 m2 (uA T (by simp[ev,look])) h)
def cE(off:Nat){y:Operand}(I:ev ts x=some u)(J:ev ((i1,u)::ts) y=some (eg b o))(h:At E n D ((i3,eg b (o+off))::(i2,eg b o)::(i1,u)::ts) l (wpList P ops Q rest))(O:kl P s j=some off:=by rfl)(e1:Nat.blt i1 n=true:=by kernel_rfl)(e2:Nat.blt i2 n=true:=by kernel_rfl)(e3:Nat.blt i3 n=true:=by kernel_rfl):At E n D ts l (wpList P ops Q (⟨some i1,.move x,ty,pos,af,none⟩::⟨some i2,.nilCheck y,ty',pos',af',none⟩::⟨some i3,.fieldAddr s (.tmp i2) j,ty2,pos2,af2,none⟩::rest)):=tv e1 I (Fj e2 J (Fk off e3 O (by simp[ev,look]) h))
def bp(I:ev ts x=some v)(h:At E n D ((i,v)::ts) l (wpList P (⟨some i,.move x,ty,pos,af,none⟩::os).toArray (Exit.then (y.wp P Q) Q) os))(hi:Nat.blt i n=true:=by kernel_rfl):At E n D ts l ((Code.seq (Code.region id (⟨some i,.move x,ty,pos,af,none⟩::os).toArray false) y).wp P Q):=rf (m7 (tv hi I h))
def bY(J:ev ts x=some u)(I:Ev P ((i1,u)::ts) op v Any)(h:At E n D ((i2,v)::(i1,u)::ts) l (wpList P ops Q rest))(e1:Nat.blt i1 n=true:=by kernel_rfl)(e2:Nat.blt i2 n=true:=by kernel_rfl):At E n D ts l (wpList P ops Q (⟨some i1,.move x,ty,pos,af,none⟩::⟨some i2,op,ty',pos',af',none⟩::rest)):=tv e1 J (je e2 I h)
def cN(I:ev ts x=some v)(h:At E n D ((i,v)::ts) l (wpList P ops Q rest))(J:(ops[j]?).bind (·.dst)=some t:=by rfl)(O:look t ts=some (.bool bb):=by rfl)(hi:Nat.blt i n=true:=by kernel_rfl):At E n D ts l (wpList P ops Q (⟨some i,.move x,ty,pos,af,some (j,bb)⟩::rest)):=iS rfl J O (kW hi (bg I) (λ_ _=>trivial) h)
end
def dp{α:Sort _}{p:α->Prop}:∀a,p a->True:=λ_ _=>trivial
def gk(h:p:=by unfold maxLen;omega):p:=h
def fX(h:p:=by intro h;cases h):p:=h
def dM(J:ev ts x=some (.int .i64 (k:Int)))(O:ev ts y=some (.int .i64 1))(T:IntKind.i64.wrap ((k:Int)+1)=((k+1:Nat):Int):=by rw[iP (by omega)];omega):Ev P ts (.binOp .add t x y ty) (.int .i64 ((k+1:Nat):Int)) Any:=bH J O T
def row(e:TypeId)(size:Nat)(v:Value)(n:Nat)(xs:List Value):HP where
 sat w F:=w.ownsRow 0 e size v n xs/\∀k,v.ownBlock=some k->F k
 loc {w w' F G} hFG hk h:=by
  obtain⟨⟨T,J⟩,h3⟩:=h;refine⟨⟨T,?_⟩,λk I=>hFG _ (h3 k I)⟩;rcases J with J|⟨g,cap,O,rfl,Y,hg,rest⟩
  ·exact .inl J
  ·exact .inr ⟨g,cap,O,rfl,Y,(hk g (h3 g Z)).trans hg,rest⟩
def Ent.row0{e:TypeId}{size:Nat}:Ent l (row e size (.slice none 0 0) 0 []::l):=λw F s=>
 ⟨λ_=>False,F,λ_ h=>h.elim,λ_ h=>h,λ_ h=>h.elim,⟨World.ownsRow_nil _ _ _ _,λk hk=>by simp[Value.ownBlock]at hk⟩,s⟩
section
variable{ops:Array Oper}{rest:List Oper}{pos:String}
section
variable{r r':List HP}{e:TypeId}
def Holds.row{size:Nat}{v:Value}{m:Nat}{xs:List Value}(h:Holds E w l)(s:Sel (row e size v m xs) l r):w.ownsRow 0 e size v m xs:=by
 obtain⟨F1,F2,J,_,_,I,_⟩:=(h.sel s).star;exact I.1
def od{size:Nat}{v':Value}{xs:List Value}(h:Holds E w (SL.row e size v m xs::r))(O:w.grownBy w' v.ownBlock)(ho:w'.ownsRow 0 s id v' b vs)
(T:v'.ownBlock=v.ownBlock\/∃k,v'.ownBlock=some k/\w.heap.size<=k):Holds E w' (SL.row s id v' b vs::r):=by
 refine h.turn O.os O.tape O.output O.size λF1 hp hF=>⟨λk=>v'.ownBlock=some k,λk hk=>⟨?_,(ho.lt k hk).2⟩,⟨ho,λk hk=>hk⟩,λk hk Y=>O.block k hk λd6=>Y (hp.2 k d6.symm)⟩;rcases T with T|⟨j,hj,d7⟩
 ·exact .inl (hp.2 k (T▸hk))
 ·rw[hj]at hk
  injection hk with hk;subst hk;exact .inr d7
def fm(P:Program)(e:TypeId)(z:Value)(size I:Nat):Prop:=(P.info? e).map (λi=>(i.zero,i.size,i.bytes))=some (some z,size,I)
def nA(A:Option Addr)(news:List Value)(w:World):Prop:=∀I,A=some I->∀j u,news[j]?=some u->w.cell? (I.add j)=some u
def run_app_nothing(t J e:TypeId)(j:TypeInfo)(size:Nat)(T:P.underlying t=some (.slice e))(hi:P.info? e=some j)
(v:Value)(m:Nat)(xs:List Value)(I:w.ownsRow 0 e size v m xs)(c:Nat):(Builtin.append_ #[t,t] J #[v,.slice none 0 c]).run P w=.ok v w:=by
 rcases I.2 with⟨rfl,rfl⟩|⟨g,cap,Y,rfl,_,_,O,_⟩
 ·simp[Builtin.append_,run_underlying T,sizeOf,typeInfo,hi,Builtin.lenOf,Builtin.firstCells]
 ·simp[Builtin.append_,run_underlying T,sizeOf,typeInfo,hi,Builtin.lenOf,Builtin.firstCells,O,storeCells]
theorem ce{s:Operand}{size:Nat}{xs:List Value}{c:Nat}{news:List Value}(hi:Nat.blt i n=true)(ht:P.underlying t=some (.slice e))(f7:fm P e z size id)(f8:z.cells.size=size)(f9:0<size)
(hs:ev ts s=some v)(hx:ev ts x=some (.slice A m c))(O:Sel (row e size v k xs) l r)(hl:news.length=m*size)(d6:A=none->m=0)(T:∀w,Holds E w l->nA A news w)(h1:∀u∈news,u.oneCell'=true)
(d7:k+m<=maxLen)(mt:(k+m)*id<=140737488355328)
(h:∀v',(v'=.slice none 0 0<->v=.slice none 0 0/\m=0)->At E n D ((i,v')::ts) (row e size v' (k+m) (xs++news)::r) K) :
 At E n D ts l (λa w=>(Oper.mk (some i) (.call {callee:=.builtin .append,args:=#[s,x],argTypes:=#[t,t]}) ty pos af g).wp P a w K Q):=λa w f hw=>by
 obtain⟨ti,d8,e0,e1,e2⟩:=info_parts f7;have J:=hw.row O;have Y:=hw.sel O;have d9:=T w hw;have t6:∃v' w',(execOp a.eval (Oper.mk (some i) (.call {callee:=.builtin .append,args:=#[s,x],argTypes:=#[t,t]}) ty pos af g)).run P w=.ok (.value v') w'/\w'.ownsRow 0 e size v' (k+m) (xs++news)/\w.grownBy w' v.ownBlock/\(v'=.slice none 0 0<->v=.slice none 0 0/\m=0)/\(v'.ownBlock=v.ownBlock\/v'.ownBlock=some w.heap.size):=by
  rcases A with _|ad
  ·obtain rfl:m=0:=d6 rfl
   obtain rfl:news=[]:=List.eq_nil_of_length_eq_zero (by simpa using hl);have hr:=run_app_nothing (P:=P) (w:=w) t ty e ti size ht d8 v k xs J c;exact⟨v,w,by simp[execOp,resolve,invoke,builtin,f.eval hs,f.eval hx,hr],by simpa using J,World.grownBy.refl w _,by simp,.inl Z⟩
  ·obtain⟨v',w',hr,h2,h3,h4,h5⟩:=run_append_own_at (P:=P) w 0 t ty e ti z size id ht d8 e0 e1 e2 f8 f9 v k xs J ad m c news hl (d9 ad rfl) h1 d7 mt (Nat.zero_le _)
   exact⟨v',w',by simp[execOp,resolve,invoke,builtin,f.eval hs,f.eval hx,hr],h2,h3,h4,h5⟩
 obtain⟨v',w',hr,h2,h3,h4,h5⟩:=t6;unfold Oper.wp;rw[hr];exact h v' h4 _ w' (f.put i (Nat.le_of_ble_eq_true hi) v')<|od Y h3 h2 (h5.imp_right λh=>⟨_,h,cx _⟩)
def Ma{o:Nat}{J:Nat×Nat}{news:List Value}[h:Has b l (.cells cs tb J) r](O:∀j u,news[j]?=some u->cs[o+j]?=some u):∀w,Holds E w l->nA (some ⟨b,o,none⟩) news w:=λw hw Y I j u T=>by
 injection I with I;subst I;rw[add_plain];exact kF O w hw j u T
def dw{size:Nat}{ps:List (Nat×Operand)}(hi:Nat.blt i n=true)(T:P.underlying t=some (.slice e))(Y:dq P e size)(I:iV P e z)(h0:0<m*size)(hm:m*size<=16777216)
(J:rE ts (ps.map (·.2))=some vs)(O:Instr.fill (λi=>some (i*size,size)) ((Array.range (m*size)).map (z.cells[·%z.cells.size]!)) ((ps.map (·.1)).zip vs)=some cs)
(h:∀b,At E n D ((i,.slice (some ⟨b,0,none⟩) m m)::ts) (blk b e cs::l) K):At E n D ts l (λa w=>(Oper.mk (some i) (.buildSlice t m ps.toArray) ty pos af g).wp P a w K Q):=λa w f hw=>by
 have hp:(ps.toArray.map λp=>(p.1,a.eval p.2)).toList=(ps.map (·.1)).zip vs:=by
  have:=eU f.knows J;rw[<-this];simp;clear J O this h0 hm
  induction ps with
  |nil=>rfl
  |cons p ps ih=>simp;exact ih
 have hr:(execOp a.eval (Oper.mk (some i) (.buildSlice t m ps.toArray) ty pos af g)).run P w=.ok (.value (.slice (some ⟨w.heap.size,0,none⟩) m m)) (w.alloc (.cells cs e)):=by
  simp only[execOp,Instr.buildSlice,Sem.run_bind,run_underlying T,Result.andThen_ok,dD Y,hp];rw[if_neg am,if_neg am];simp[iZ I,O,newRow]
 show(Oper.mk (some i) (.buildSlice t m ps.toArray) ty pos af g).wp P a w K Q;unfold Oper.wp;rw[hr];exact h _ _ _ (f.put i (Nat.le_of_ble_eq_true hi) _)<|hw.alloc _
def fd(hi:Nat.blt i n=true)(J:P.underlying t=some (.slice e))(O:dq P e 1)(I:iV P e z)(T:ev ts x=some v)(Y:v.oneCell'=true)
(h:∀b,At E n D ((i,.slice (some ⟨b,0,none⟩) 1 1)::ts) (blk b e #[v]::l) K):At E n D ts l (λa w=>(Oper.mk (some i) (.buildSlice t 1 #[(0,x)]) ty pos af g).wp P a w K Q):=
 dw (ps:=[(0,x)]) (vs:=[v]) (cs:=#[v]) hi J O I am am (by simp[rE,T]) (by
  have e1:Array.range (1*1)=#[0]:=rfl;rw[e1];simp[Instr.fill,la Y]) h
def Nf{at_:Array TypeId}{args:List Value}{R:Value->Prop}(hi:Nat.blt i n=true)(O:eT P f=true)(T:rE ts xs=some args)
(Y:∀w,Holds E w l->Calls P f args.toArray w λe w'=>∃v,e=.returned v/\R v/\Below w.heap.size w w')(h:∀v,R v->At E n D ((i,v)::ts) l K) :
 At E n D ts l (λa w=>(Oper.mk (some i) (.call {callee:=.value (.func f),args:=xs.toArray,argTypes:=at_}) ty pos af g).wp P a w K Q):=λa w J hw=>by
 have:=eU J.knows T;have hr:(execOp a.eval (Oper.mk (some i) (.call {callee:=.value (.func f),args:=xs.toArray,argTypes:=at_}) ty pos af g)).run P w=.ok (.enter f args.toArray) w:=by
  simp[execOp,resolve,Deferred.ofValue,Act.eval,invoke,this,eZ O]
 show(Oper.mk (some i) (.call {callee:=.value (.func f),args:=xs.toArray,argTypes:=at_}) ty pos af g).wp P a w K Q;unfold Oper.wp;rw[hr];refine(Y w hw).mono λe w' ⟨v,he,hR,I⟩=>?_;subst he;exact h v hR _ w' (J.put i (Nat.le_of_ble_eq_true hi) v)<|hw.below I
def Does.frame{args:Array Value}{pre:List HP}(h:Does P G f args pre R)(c:List HP):Does P G f args (pre++c) λv m=>∃I,R v I/\m=I++c:=λE w fr J hw=>by
 rw[List.append_assoc]at hw;refine(h E w _ J hw).mono λe w' ⟨v,m,O,T,Y⟩=>⟨v,m++c,O,⟨m,T,rfl⟩,?_⟩;rw[List.append_assoc];exact Y
def gL{p:Addr}(I:ky P t=some false)(hc:w.cell? p=some v):(loadVar t p).run P w=.ok v w:=by
 simp[loadVar,lA I,hc]
theorem yr{o:Nat}(I:ky P t=some true)(J:dq P t m)(O:vs.length=m)(hc:ie b o vs w):(loadVar t ⟨b,o,none⟩).run P w=.ok (.agg vs.toArray) w:=by
 subst O;have:=ia (P:=P) vs 0 #[] (λj v T=>by simpa using hc j v T);simp[loadVar,lA I,dD J,loadCells,this]
theorem Aj{k:IntKind}{len:Nat}(J:P.underlying t=some (.array len e))(O:ky P e=some false)(T:dq P e 1)(Y:ev ts x=some (.agg cs))(hy:ev ts y=some (.int k (j:Int)))(hj:j<len)(hv:cs[j]?=some v) :
 Ev P ts (.index t x y) v Any:=by
 intro a w _ _ _ _ _ I _;simp[execOp,I.eval Y,I.eval hy,Instr.index,asIntOf,run_underlying J,dD T,part,lA O,hv];intro h;omega
def Ent.sel{p:HP}(s:Sel p l r):Ent l (p::r):=Ent.perm s.perm
def bo{p q:HP}(s:Sel p l r)(s':Sel q r r'):Ent l (p::q::r'):=(Ent.sel s).trans (Ent.cons (Ent.sel s'))
def cM{p q u:HP}(s:Sel p l r)(s':Sel q r r')(J:Sel u r' fr):Ent l (p::q::u::fr):=(Ent.sel s).trans (Ent.cons (bo s' J))
def Ent.drop1{p:HP}(s:Sel p l r):Ent l r:=(Ent.sel s).trans Ent.drop
def ez{lo hi:Option Operand}{len cap a z:Nat}(T:P.underlying t=some (.slice e))(Y:dq P e z)(hx:ev ts x=some (.slice A len cap))
(I:match lo with|some o=>∃k,ev ts o=some (.int k (a:Int))|none=>a=0)(J:match hi with|some o=>∃k,ev ts o=some (.int k (b:Int))|none=>b=len)(h1:a<=b)(h2:b<=cap) :
 Ev P ts (.slice t x lo hi none) (.slice (if cap=a then A else A.map (·.add (a*z))) (b-a) (cap-a)) Any:=by
 intro ac w _ _ _ _ _ O _;have hb:((b:Int)).toNat=b:=am;have ha:((a:Int)).toNat=a:=am;rcases lo with _|lo<;>rcases hi with _|hi
 ·simp only at I J
  subst I;subst J;simp[execOp,Instr.sliceAt,Instr.slice,run_underlying T,O.eval hx,Instr.sliceBounds,dD Y]
 ·obtain⟨k,hk⟩:=J
  simp only at I;subst I;simp[execOp,Instr.sliceAt,Instr.slice,run_underlying T,O.eval hx,O.eval hk,Instr.sliceBounds,Instr.sliceBound,asIntOf,dD Y,h2]
 ·obtain⟨k,hk⟩:=I
  simp only at J;subst J;simp[execOp,Instr.sliceAt,Instr.slice,run_underlying T,O.eval hx,O.eval hk,Instr.sliceBounds,Instr.sliceBound,asIntOf,dD Y,h1]
 ·obtain⟨k,hk⟩:=I
  obtain⟨k',d6⟩:=J;simp[execOp,Instr.sliceAt,Instr.slice,run_underlying T,O.eval hx,O.eval hk,O.eval d6,Instr.sliceBounds,Instr.sliceBound,asIntOf,dD Y,h1,h2]
end
end
section
variable{p q0 q1 q2 q3 q4 q5 q6 q7 q8 q9:HP}
def gfE1:Ent (q0::p::l) (p::q0::l):=Ent.sel (.tail .head)
def gfE2:Ent (q0::q1::p::l) (p::q0::q1::l):=Ent.sel (.tail (.tail .head))
def gfE3:Ent (q0::q1::q2::p::l) (p::q0::q1::q2::l):=Ent.sel (.tail (.tail (.tail .head)))
def gfE4:Ent (q0::q1::q2::q3::p::l) (p::q0::q1::q2::q3::l):=Ent.sel (.tail (.tail (.tail (.tail .head))))
def gfE5:Ent (q0::q1::q2::q3::q4::p::l) (p::q0::q1::q2::q3::q4::l):=Ent.sel (.tail (.tail (.tail (.tail (.tail .head)))))
def sw:Ent (q0::q1::q2::q3::q4::q5::q6::p::l) (p::q0::q1::q2::q3::q4::q5::q6::l):=Ent.sel (.tail (.tail (.tail (.tail (.tail (.tail (.tail .head)))))))
def zh:Ent (q0::q1::q2::q3::q4::q5::q6::q7::p::l) (p::q0::q1::q2::q3::q4::q5::q6::q7::l):=Ent.sel (.tail (.tail (.tail (.tail (.tail (.tail (.tail (.tail .head))))))))
def gfE9:Ent (q0::q1::q2::q3::q4::q5::q6::q7::q8::p::l) (p::q0::q1::q2::q3::q4::q5::q6::q7::q8::l):=Ent.sel (.tail (.tail (.tail (.tail (.tail (.tail (.tail (.tail (.tail .head)))))))))
end
def iy(h:p:=by exact Ma (λj u h=>by simpa using h)):p:=h
end Go.SL
namespace Go.Y
open Go.Proofs Tryz Go.RowKit
def pO{k:IntKind}{a b:Int}(h:a=b):Ending.returned (.int k a)=.returned (.int k b):=by rw[h]
def i64(x:Int):Prop:=-9223372036854775808<=x/\x<=9223372036854775807
def Same(B:Nat)(w w':World):Prop:=∀k,k<B->w'.heap[k]?=w.heap[k]?
def Same.cell{B:Nat}{w w':World}(h:Same B w w'){b o:Nat}(E:b<B):w'.cell? ⟨b,o,none⟩=w.cell? ⟨b,o,none⟩:=World.cell?_of_block (w:=w) (h b E)
def Same.refl(B:Nat)(w:World):Same B w w:=λ_ _=>rfl
def Same.trans{B:Nat}{a b c:World}(h:Same B a b)(k:Same B b c):Same B a c:=λi hi=>(k i hi).trans (h i hi)
def Same.mono(h:Same B w w')(E:i<=B):Same i w w':=λk hk=>h k (Nat.lt_of_lt_of_le hk E)
def _root_.Go.RowKit.Below.to_same(h:Below B w w'):Same B w w':=h.block
structure IntsAt(w:World)(B:Nat)(A:Option Addr)(c:Nat)(l:List Int):Prop where
 rng:∀x∈l,i64 x
 len:l.length<=c
 cap:c<=9223372036854775807
 cells:0<l.length->∃b off,A=some ⟨b,off,none⟩/\b<B/\∀i x,l[i]?=some x->w.cell? ⟨b,off+i,none⟩=some (.int .i64 x)
structure NodeAt(w:World)(B b off:Nat)(n:FK.Node):Prop where
 c0:w.cell? ⟨b,off,none⟩=some (.int .i64 n.NR)
 c1:w.cell? ⟨b,off+1,none⟩=some (.int .i64 n.close)
 c2:w.cell? ⟨b,off+2,none⟩=some (.int .i64 n.beat)
 c3:w.cell? ⟨b,off+3,none⟩=some (.int .i64 n.base)
 c4:w.cell? ⟨b,off+4,none⟩=some (.int .i64 n.cap)
 c5:w.cell? ⟨b,off+5,none⟩=some (.int .i64 n.NS)
 c6:∃A c,w.cell? ⟨b,off+6,none⟩=some (.slice A n.after.length c)/\IntsAt w B A c n.after
 rng:i64 n.NR/\i64 n.close/\i64 n.beat/\i64 n.base/\i64 n.cap/\i64 n.NS
structure NodesAt(w:World)(B:Nat)(A:Option Addr)(c:Nat)(l:List FK.Node):Prop where
 len:l.length<=c
 cap:c<=9223372036854775807
 cells:0<l.length->∃b off,A=some ⟨b,off,none⟩/\b<B/\∀i n,l[i]?=some n->NodeAt w B b (off+i*7) n
section
variable{B':Nat}{c:Nat}
def IntsAt.keep{l:List Int}(h:IntsAt w B A c l)(s:Same B w w'):IntsAt w' B A c l:=by
 obtain⟨K,O,T,h3⟩:=h;refine⟨K,O,T,λI=>?_⟩;obtain⟨b,off,rfl,E,hc⟩:=h3 I;exact⟨b,off,rfl,E,λi x J=>by rw[s.cell E];exact hc i x J⟩
def IntsAt.more{l:List Int}(h:IntsAt w B A c l)(O:B<=B'):IntsAt w B' A c l:=by
 obtain⟨I,J,K,h3⟩:=h;refine⟨I,J,K,λE=>?_⟩;obtain⟨b,off,rfl,T,hc⟩:=h3 E;exact⟨b,off,rfl,am,hc⟩
def NodeAt.keep{b off:Nat}{n:FK.Node}(h:NodeAt w B b off n)(s:Same B w w')(E:b<B):NodeAt w' B b off n:=by
 obtain⟨I,J,K,O,T,Y,⟨A,c,hv,hi⟩,hr⟩:=h;exact⟨by rw[s.cell E];exact I,by rw[s.cell E];exact J,by rw[s.cell E];exact K,by rw[s.cell E];exact O,by rw[s.cell E];exact T,by rw[s.cell E];exact Y,⟨A,c,by rw[s.cell E];exact hv,hi.keep s⟩,hr⟩
def NodeAt.more{b off:Nat}{n:FK.Node}(h:NodeAt w B b off n)(E:B<=B'):NodeAt w B' b off n:=by
 obtain⟨I,J,K,O,T,Y,⟨A,c,hv,hi⟩,hr⟩:=h;exact⟨I,J,K,O,T,Y,⟨A,c,hv,hi.more E⟩,hr⟩
def NodesAt.keep{l:List FK.Node}(h:NodesAt w B A c l)(s:Same B w w'):NodesAt w' B A c l:=by
 obtain⟨K,O,h3⟩:=h;refine⟨K,O,λI=>?_⟩;obtain⟨b,off,rfl,E,hc⟩:=h3 I;exact⟨b,off,rfl,E,λi x J=>(hc i x J).keep s E⟩
def NodesAt.more{l:List FK.Node}(h:NodesAt w B A c l)(E:B<=B'):NodesAt w B' A c l:=by
 obtain⟨K,O,h3⟩:=h;refine⟨K,O,λI=>?_⟩;obtain⟨b,off,rfl,T,hc⟩:=h3 I;exact⟨b,off,rfl,am,λi x J=>(hc i x J).more E⟩
end
def qG(h:p:=by repeat (first|assumption|exact Below.refl _ _|refine below_drewN ?_ _|refine Below.drew ?_|refine Below.alloc ?_ (by first|omega|(simp;done)|(simp;omega)) _|refine Below.setCell ?_ (by first|omega|(simp;done)|(simp;omega)) _)):p:=h
def nq{q:Prop}(H:q)(h:q->p:=by intro H;repeat (first|exact H|refine below_drewN ?_ _|refine Below.drew ?_|refine Below.alloc ?_ (by first|omega|(simp;done)|(simp;omega)) _|refine Below.setCell ?_ (by first|omega|(simp;done)|(simp;omega)) _)):p:=h H
def Cv(h:p:=by first|decide|(simp[Value.cells];done)|(simp[Value.cells];omega)):p:=h
def gG(E I ji k seed:Int):Int:=(if k<=1 then E else if k<22 then min I (E*2 ^ (k.toNat-1)) else I)+seed%(ji+1)
def Gp(n:Nat)(h:n<=21):(1:Int)<=2 ^ n/\(2:Int) ^ n<=2097152:=by
 have:∀n:Fin 22,(1:Int)<=2 ^ n.val/\(2:Int) ^ n.val<=2097152:=by decide
 exact this ⟨n,am⟩
def IJ(I:1<=r)(J:r<=1048576)(K:n<=21):wrap64 (r*2 ^ n)=r*2 ^ n/\1<=r*2 ^ n/\r*2 ^ n<=2199023255552:=by
 have⟨p1,p2⟩:=Gp n K;have O:1<=r*2 ^ n:=by have:=Int.mul_le_mul I p1 am am;omega
 have T:r*2 ^ n<=2199023255552:=by have:=Int.mul_le_mul J p2 am am;omega
 exact⟨IntWalk.wrap64_in _ ⟨am,am⟩,O,T⟩
def kf{seed ji:Int}(E:0<=ji)(I:ji<=1048576):0<=seed%(ji+1)/\seed%(ji+1)<=1048576:=by
 have J:=Int.emod_nonneg seed (show ji+1≠0 by omega);have K:=Int.emod_lt_of_pos seed (show 0<ji+1 by omega);omega
def sF(bu cl be E I ji:Int)(A:Option Addr)(n c:Nat)(k seed:Int)(w:World)
(h1:1<=E)(h2:E<=I)(h3:I<=1048576)(Y:0<=ji)(h5:ji<=1048576)(d6:0<=seed)(hs1:seed<18446744073709551616) :
 Calls prog 221 #[.agg #[.int .i64 bu,.int .i64 cl,.int .i64 be,.int .i64 E,.int .i64 I,.int .i64 ji,.slice A n c],.int .i64 k,.int .u64 seed] w
  λe w'=>e=.returned (.int .i64 (gG E I ji k seed))/\Below w.heap.size w w':=by
 have K:=kf (seed:=seed) Y h5;have HW:Hid (wrap64 (seed%(ji+1))=seed%(ji+1)):=IntWalk.wrap64_in _ ⟨am,am⟩
 by_cases J:k<=1
 ·have O:Hid (gG E I ji k seed=E+seed%(ji+1)):=by unfold gG;rw[if_pos J];rfl
  clear K
  go_enter func221,ntmps221
  go_wp2
  all_goals
   go_quiet (fail)
   go_wp2
   all_goals
    go_ret
    have K:=kf (seed:=seed) Y h5;refine⟨pO ?_,qG⟩;rw[O.out,HW.out];rw[IntWalk.wrap64_in _ ⟨am,am⟩]
    try omega
 ·by_cases T:k<22
  ·have hp:=IJ (n:=k.toNat-1) h1 am am
   have HP:=Lib.hid hp;have O:Hid (gG E I ji k seed=min I (E*2 ^ (k.toNat-1))+seed%(ji+1)):=by unfold gG;rw[if_neg J,if_pos T];rfl
   clear K hp
   go_enter func221,ntmps221
   go_wp2
   go_quiet (fail)
   go_wp2
   all_goals
    go_ret
    have K:=kf (seed:=seed) Y h5;have hp:=HP.out;refine⟨pO ?_,qG⟩;simp only[O.out,HW.out,hp.1]at *
    rw[IntWalk.wrap64_in _ ⟨am,am⟩]
    try omega
  ·have O:Hid (gG E I ji k seed=I+seed%(ji+1)):=by unfold gG;rw[if_neg J,if_neg T];rfl
   clear K
   go_enter func221,ntmps221
   go_wp2
   go_ret
   have K:=kf (seed:=seed) Y h5;refine⟨pO ?_,(Below.refl _ _).alloc (cx _) _⟩;rw[O.out,HW.out];rw[IntWalk.wrap64_in _ ⟨am,am⟩]
theorem qi{a:Nat}(h:a<=b):(2:Int) ^ a<=2 ^ b:=by
 have:(2:Nat) ^ a<=2 ^ b:=Nat.pow_le_pow_right am h;have e1:((2 ^ a:Nat):Int)=2 ^ a:=by simp
 have e2:((2 ^ b:Nat):Int)=2 ^ b:=by simp
 omega
def Dj{J ji k seed:Int}(Y:1<=r)(h2:r<=J)(h3:J<=1048576)(d6:r*2 ^ j<2*J)(hj:j=0\/(j:Int)+1<=k)
(he:¬((j:Int)+1<k/\r*2 ^ j<J)):gG r J ji k seed=min J (r*2 ^ j)+seed%(ji+1):=by
 unfold gG
 congr 1
 by_cases K:k<=1
 ·have:j=0:=am
  subst this;rw[if_pos K];simp;omega
 ·rw[if_neg K]
  have d7:(j:Int)+1<=k:=am;have hp:(0:Int)<2 ^ j:=Int.pow_pos am
  by_cases hx:(j:Int)+1<k
  ·have d8:J<=r*2 ^ j:=am
   by_cases E:k<22
   ·rw[if_pos E]
    have O:=qi (show j<=k.toNat-1 by omega);have:=Int.mul_le_mul_of_nonneg_left O (show 0<=r by omega);omega
   ·rw[if_neg E];omega
  ·have T:k.toNat-1=j:=am
   by_cases E:k<22
   ·rw[if_pos E,T]
   ·exfalso
    have O:=qi (show 21<=j by omega);have:=Int.mul_le_mul Y O fh am;have e:(2:Int) ^ 21=2097152:=by decide
    omega
def vE(bu cl be I J ji:Int)(A:Option Addr)(n c:Nat)(k seed:Int)(w:World)
(h1:1<=I)(h2:I<=J)(h3:J<=1048576)(O:0<=ji)(T:ji<=1048576)(hk:i64 k)(d8:0<=seed)(hs1:seed<18446744073709551616) :
 Calls prog 131 #[.agg #[.int .i64 bu,.int .i64 cl,.int .i64 be,.int .i64 I,.int .i64 J,.int .i64 ji,.slice A n c],.int .i64 k,.int .u64 seed] w
  λe w'=>e=.returned (.int .i64 (gG I J ji k seed))/\Below w.heap.size w w':=by
 have hm:=kf (seed:=seed) O T;have HW:Hid (wrap64 (seed%(ji+1))=seed%(ji+1)):=IntWalk.wrap64_in _ ⟨am,am⟩;obtain⟨k1,k2⟩:=hk;clear hm
 go_enter func131,ntmps131
 go_wp2
 go_loop [7,8] (λt i=>∃j:Nat,i=.int .i64 (j+1)/\t=.int .i64 (I*2 ^ j)/\1<=I*2 ^ j/\I*2 ^ j<2*J/\(j=0\/(j:Int)+1<=k)) (λ_ i=>(k-RowKit.intOf i).toNat)
 case atStart=>exact⟨0,rfl,by simp,by simp;omega,by simp;omega,.inl rfl⟩
 case round=>
  obtain⟨j,rfl,rfl,d9,Y,d6⟩:=hrel
  by_cases hc:(j:Int)+1<k/\I*2 ^ j<J
  ·obtain⟨K,d7⟩:=hc
   have e:I*2 ^ (j+1)=I*2 ^ j*2:=by rw[Int.pow_succ,Int.mul_assoc]
   have E:=Lib.hid e;clear e
   go_wp2
   go_round
   case rel=>exact⟨j+1,by go_num,by rw[E.out],by rw[E.out];omega,by rw[E.out];omega,.inr am⟩
   case measure=>simp[RowKit.intOf];omega
  ·have HE:=Lib.hid (Dj (ji:=ji) (seed:=seed) h1 h2 h3 Y d6 hc)
   by_cases K:(j:Int)+1<k
   ·have d7:¬(I*2 ^ j<J):=λh=>hc ⟨K,h⟩
    clear hc
    go_wp2
    all_goals
     go_ret
     have hm:=kf (seed:=seed) O T;refine⟨pO ?_,qG⟩;rw[HE.out,HW.out];rw[IntWalk.wrap64_in _ ⟨am,am⟩];omega
   ·clear hc
    go_wp2
    all_goals
     go_ret
     have hm:=kf (seed:=seed) O T;refine⟨pO ?_,qG⟩;rw[HE.out,HW.out];rw[IntWalk.wrap64_in _ ⟨am,am⟩];omega
def dj(l:List UInt8):List Value:=l.map λb=>.int .u8 b.toNat
def l7(l:List UInt8):(dj l).length=l.length:=by simp[dj]
theorem j8(a b:List UInt8):dj (a++b)=dj a++dj b:=by simp[dj]
def km(w:World)(base:Nat)(v:Value)(l:List UInt8):Prop:=w.ownsRow base 5 1 v l.length (dj l)
def Moved(B:Nat)(v v':Value):Prop:=v'.ownBlock=v.ownBlock\/∃k,v'.ownBlock=some k/\B<=k
def Moved.refl(B:Nat)(v:Value):Moved B v v:=.inl rfl
def Moved.trans{B:Nat}{a b c:Value}(h:Moved B a b)(k:Moved B b c):Moved B a c:=by
 rcases k with k|k
 ·rcases h with h|⟨x,h,E⟩
  ·exact .inl (k.trans h)
  ·exact .inr ⟨x,k.trans h,E⟩
 ·exact .inr k
def Moved.mono{a b:Value}(h:Moved B a b)(I:i<=B):Moved i a b:=by
 rcases h with h|⟨x,h,J⟩
 ·exact .inl h
 ·exact .inr ⟨x,h,am⟩
def DU{J:World}(h:w.grownBy w' v.ownBlock)(m:Moved w.heap.size v z)(k:w'.grownBy J z.ownBlock):w.grownBy J v.ownBlock:=by
 refine⟨k.os.trans h.os,k.tape.trans h.tape,k.output.trans h.output,Nat.le_trans h.size k.size,λi hi E=>?_⟩;rw[k.block i (Nat.lt_of_lt_of_le hi h.size) ?_,h.block i hi E];rcases m with m|⟨x,O,T⟩
 ·rw[m];exact E
 ·rw[O];intro e;injection e with e;omega
def kj:(prog.info? 5).map (λi=>(i.zero,i.size,i.bytes))=some (some (.int .u8 0),1,1):=by kernel_rfl
def sJ:∀(k n:Nat),n<128 ^ k->0<k->(FK.dJ n).length<=k:=by
 intro k
 induction k with
 |zero=>intro n _ h;omega
 |succ k J=>
  intro n I _
  by_cases h:n<128
  ·rw[FK.mO h];simp
  ·rw[FK.oy h]
   rcases Nat.eq_zero_or_pos k with E|E
   ·subst E;simp at I;omega
   ·have:=J (n/128) (by rw[Nat.div_lt_iff_lt_mul am];rwa [Nat.pow_succ]at I) E
    simp;omega
def gC(h:n<18446744073709551616):(FK.dJ n).length<=10:=sJ 10 n (Nat.lt_of_lt_of_le h fh) am
def yj(w:World)(base:Nat)(v:Value)(l:List UInt8)(e:Ending)(w':World):Prop:=
 ∃v',e=.returned v'/\km w' base v' l/\w.grownBy w' v.ownBlock/\Moved w.heap.size v v'
def zR(m:Nat):(m:Int)%256=((UInt8.ofNat m).toNat:Int):=by
 simp
def Nb(m:Nat):bits BinOp.or IntKind.u8 ((m:Int)%256) 128=((UInt8.ofNat (m%128+128)).toNat:Int):=by
 have e1:(m:Int)%256=((m%256:Nat):Int):=am;rw[e1];have:=u8_or_nat (m%256) 128 am am;rw[show((128:Int))=((128:Nat):Int) from rfl,this];have key:∀x:Fin 256,x.val|||128=x.val%128+128:=by decide +kernel
 have:=key ⟨m%256,am⟩;rw[this];have E:m%256%128=m%128:=am;rw[E];simp;omega
def oS{O:World}{base:Nat}{Y:List UInt8}{x:UInt8}{y:Int}{o:Obj}(hg:w.grownBy w' v.ownBlock)(hm:Moved w.heap.size v z)
(E:O.ownsRow base 5 1 u (Y.length+1) (dj Y++[.int .u8 y]))(hy:y=x.toNat)(d6:(w'.alloc o).grownBy O z.ownBlock)(J:u.ownBlock=z.ownBlock\/u.ownBlock=some (w'.heap.size+1)) :
 km O base u (Y++[x])/\w.grownBy O v.ownBlock/\Moved w.heap.size v u:=by
 subst hy;have hs:=hg.size;refine⟨?_,DU hg hm ((World.grownBy_alloc w' o z.ownBlock).trans d6),hm.trans ?_⟩
 ·unfold km
  rw[j8,List.length_append];exact E
 ·rcases J with h|h
  ·exact .inl h
  ·exact .inr ⟨_,h,am⟩
def qw(w:World)(base:Nat)(v:Value)(l:List UInt8)(n:Nat)(hn:n<18446744073709551616)(E:km w base v l)(hl:l.length<=1099511627776)(t6:base<=w.heap.size) :
 Calls prog 102 #[v,.int .u64 n] w (yj w base v (l++FK.dJ n)):=by
 obtain⟨i0,hi,d6,d7,d8⟩:=info_parts kj;have HL:=Lib.hid (show(l++FK.dJ n).length<=1099511627786 by have:=gC hn;simp;omega);have f7:=Lib.hid E;have HI:=Lib.hid hi;have f8:=Lib.hid d6;have f9:=Lib.hid d7;have mt:=Lib.hid d8;clear E hi d6 d7 d8
 go_enter func102,ntmps102
 go_wp2
 go_loopw [0,1] (λt s wr=>∃(O:List UInt8) (m:Nat),s=.int .u64 m/\m<18446744073709551616/\O++FK.dJ m=l++FK.dJ n/\km wr base t O/\w.grownBy wr v.ownBlock/\Moved w.heap.size v t) (λ_ s _=>(RowKit.intOf s).toNat)
 case atStart=>exact⟨l,n,rfl,hn,rfl,f7.out,World.grownBy.refl _ _,.refl _ _⟩
 case round=>
  obtain⟨O,m,rfl,hm,he,E,hg,d9⟩:=hrel;have HE:=Lib.hid he;have HG:=Lib.hid hg;have HM:=Lib.hid d9;have BT:=hg.size;have t8:O.length<=1099511627786:=by
   have:=congrArg List.length he;have Y:=HL.out;simp at this Y;omega
  clear he hg d9
  by_cases wf:127<m
  ·have t7:=Nb m
   have HN:=Lib.hid (FK.oy (n:=m) am);obtain⟨x,hx⟩:∃x:UInt8,x=UInt8.ofNat (m%128+128):=⟨_,rfl⟩;rw[<-hx]at t7 HN;clear hx
   go_wp2_with (at_builtin;go_must (refine wpList_append_own_at _ rfl (.tmp 9) (.tmp 13) 87 rfl base 5 i0 (.int .u8 0) 1 1 underlying87 HI.out f8.out f9.out mt.out rfl fh u0 O.length (dj O) rfl (World.ownsRow.alloc E _) ⟨wr.heap.size,0,none⟩ 1 1 [.int .u8 x.toNat] rfl rfl (cell_one_new _ _ _) (by simp[Value.oneCell']) (by unfold maxLen;omega) am (by simp;omega) ?_);intro v2 w2 I K _ J)
   obtain⟨h1,Y,h3⟩:=oS HG.out HM.out I rfl K (by simpa using J);have H1:=Lib.hid h1;have H2:=Lib.hid Y;have H3:=Lib.hid h3;clear h1 Y h3 I K J E
   go_roundw
   case rel=>exact⟨O++[x],m/128,by go_num,am,by rw[<-HE.out,HN.out];simp,H1.out,H2.out,H3.out⟩
   case measure=>simp[RowKit.intOf];omega
  ·have T:=zR m
   have HN:=Lib.hid (FK.mO (n:=m) am);obtain⟨x,hx⟩:∃x:UInt8,x=UInt8.ofNat m:=⟨_,rfl⟩;rw[<-hx]at T HN;have hy:(m:Int)=x.toNat:=am;have HY:=Lib.hid hy;clear hx T hy
   go_wp2_with (at_builtin;go_must (refine wpList_append_own_at _ rfl (.tmp 15) (.tmp 18) 87 rfl base 5 i0 (.int .u8 0) 1 1 underlying87 HI.out f8.out f9.out mt.out rfl fh u0 O.length (dj O) rfl (World.ownsRow.alloc E _) ⟨wr.heap.size,0,none⟩ 1 1 [.int .u8 (m:Int)] rfl rfl (cell_one_new _ _ _) (by simp[Value.oneCell']) (by unfold maxLen;omega) am (by simp;omega) ?_);intro v2 w2 I K _ J)
   obtain⟨h1,Y,h3⟩:=oS HG.out HM.out I HY.out K (by simpa using J);have H1:=Lib.hid h1;have H2:=Lib.hid Y;have H3:=Lib.hid h3;clear h1 Y h3 I K J E
   go_wp2
   go_ret
   exact⟨v2,rfl,by rw[<-HE.out,HN.out];exact H1.out,H2.out,H3.out⟩
def rr(w:World)(base:Nat)(v:Value)(l:List UInt8)(n:Nat)(hn:n<9223372036854775808)(E:km w base v l)(hl:l.length<=1099511627776)(t6:base<=w.heap.size) :
 Calls prog 120 #[v,.int .i64 n] w (yj w base v (l++FK.dJ n)):=by
 obtain⟨i0,hi,d6,d7,d8⟩:=info_parts kj;have HL:=Lib.hid (show(l++FK.dJ n).length<=1099511627786 by have:=gC (n:=n) am;simp;omega);have f7:=Lib.hid E;have HI:=Lib.hid hi;have f8:=Lib.hid d6;have f9:=Lib.hid d7;have mt:=Lib.hid d8;clear E hi d6 d7 d8
 go_enter func120,ntmps120
 go_wp2
 go_loopw [0,1] (λt s wr=>∃(O:List UInt8) (m:Nat),s=.int .i64 m/\m<9223372036854775808/\O++FK.dJ m=l++FK.dJ n/\km wr base t O/\w.grownBy wr v.ownBlock/\Moved w.heap.size v t) (λ_ s _=>(RowKit.intOf s).toNat)
 case atStart=>exact⟨l,n,rfl,hn,rfl,f7.out,World.grownBy.refl _ _,.refl _ _⟩
 case round=>
  obtain⟨O,m,rfl,hm,he,E,hg,d9⟩:=hrel;have HE:=Lib.hid he;have HG:=Lib.hid hg;have HM:=Lib.hid d9;have wf:=hg.size;have t7:O.length<=1099511627786:=by
   have:=congrArg List.length he;have Y:=HL.out;simp at this Y;omega
  clear he hg d9
  by_cases t8:127<m
  ·have HN:=Lib.hid (FK.oy (n:=m) am)
   obtain⟨x,T⟩:∃x:UInt8,x=UInt8.ofNat (m%128+128):=⟨_,rfl⟩;have hy:(m:Int)%128+128=x.toNat:=by rw[T];simp;omega
   rw[<-T]at HN;have HY:=Lib.hid hy;clear T hy
   go_wp2_with (at_builtin;go_must (refine wpList_append_own_at _ rfl (.tmp 7) (.tmp 12) 87 rfl base 5 i0 (.int .u8 0) 1 1 underlying87 HI.out f8.out f9.out mt.out rfl fh u0 O.length (dj O) rfl (World.ownsRow.alloc E _) ⟨wr.heap.size,0,none⟩ 1 1 [.int .u8 ((m:Int)%128+128)] rfl rfl (cell_one_new _ _ _) (by simp[Value.oneCell']) (by unfold maxLen;omega) am (by simp;omega) ?_);intro v2 w2 I K _ J)
   obtain⟨h1,Y,h3⟩:=oS HG.out HM.out I HY.out K (by simpa using J);have H1:=Lib.hid h1;have H2:=Lib.hid Y;have H3:=Lib.hid h3;clear h1 Y h3 I K J E
   go_wp2
   go_roundw
   case rel=>exact⟨O++[x],m/128,by go_num,am,by rw[<-HE.out,HN.out];simp,H1.out,H2.out,H3.out⟩
   case measure=>simp[RowKit.intOf];omega
  ·have HN:=Lib.hid (FK.mO (n:=m) am)
   obtain⟨x,T⟩:∃x:UInt8,x=UInt8.ofNat m:=⟨_,rfl⟩;have hy:(m:Int)=x.toNat:=by rw[T];simp;omega
   rw[<-T]at HN;have HY:=Lib.hid hy;clear T hy
   go_wp2_with (at_builtin;go_must (refine wpList_append_own_at _ rfl (.tmp 16) (.tmp 19) 87 rfl base 5 i0 (.int .u8 0) 1 1 underlying87 HI.out f8.out f9.out mt.out rfl fh u0 O.length (dj O) rfl (World.ownsRow.alloc E _) ⟨wr.heap.size,0,none⟩ 1 1 [.int .u8 (m:Int)] rfl rfl (cell_one_new _ _ _) (by simp[Value.oneCell']) (by unfold maxLen;omega) am (by simp;omega) ?_);intro v2 w2 I K _ J)
   obtain⟨h1,Y,h3⟩:=oS HG.out HM.out I HY.out K (by simpa using J);have H1:=Lib.hid h1;have H2:=Lib.hid Y;have H3:=Lib.hid h3;clear h1 Y h3 I K J E
   go_wp2
   go_ret
   exact⟨v2,rfl,by rw[<-HE.out,HN.out];exact H1.out,H2.out,H3.out⟩
def Tab(w:World):Prop:=TabAt 4 Lib.deBruijn64tab w
def Tab.keep(h:Tab w)(s:Same B w w')(E:4<B):Tab w':=λj I=>by rw[s.cell E];exact h j I
def FQ(x k idx:Nat)(w:World)(I:((x:Int)==0)=false)
(key:IntKind.u64.wrap (bits BinOp.and IntKind.u64 (x:Int) (IntKind.u64.wrap (-(x:Int)))*285870213051353865)/288230376151711744=(idx:Int))
(hi:idx<64)(hk:k<64)(E:w.cell? ⟨4,idx,none⟩=some (.int .u8 k)) :
 Calls prog 216 #[.int .u64 x] w λe w'=>e=.returned (.int .i64 k)/\w=w':=by
 go_enter func216,ntmps216
 go_wp2_with (simp only[key])
 go_ret
 exact⟨rfl,rfl⟩
def uQ(x:Nat)(O:x<18446744073709551616)(I:x≠0)(w:World)(T:Tab w) :
 Calls prog 216 #[.int .u64 x] w λe w'=>e=.returned (.int .i64 (Lib.ctz 64 x))/\w=w':=by
 obtain⟨J,hk⟩:=Lib.lowest_bit 64 x I O;obtain⟨hi,K⟩:=Lib.deBruijn64_at _ hk;have E:=T _ hi;rw[K]at E;exact FQ x _ _ w (by simp;omega) (tz64_key x _ O I J) hi hk E
def ua(x:Nat)(I:x<18446744073709551616)(E:x≠0)(w:World)(J:Tab w) :
 Calls prog 188 #[.int .u64 x] w λe w'=>e=.returned (.int .i64 (Lib.ctz 64 x))/\w=w':=by
 have H:=Lib.hid (uQ x I E);clear I
 go_enter func188,ntmps188
 go_wp2_with (go_at_call 216;refine(H.out _ J).mono ?_;rintro e w' ⟨rfl,rfl⟩)
 go_ret
 exact⟨rfl,rfl⟩
def tD(x:Nat)(J:x<18446744073709551616)(E:x≠0):x.testBit (Lib.ctz 64 x)=true/\(∀j,j<Lib.ctz 64 x->x.testBit j=false)/\Lib.ctz 64 x<64:=by
 unfold Lib.ctz;rw[if_neg E];obtain⟨m,I,hk⟩:=Lib.ctzFrom_spec 64 x am (by simpa using J)
 generalize Lib.ctzFrom 64 x=t at I hk ⊢
 refine⟨?_,?_,hk⟩
 ·rw[I,Nat.mul_comm,Nat.testBit_mul_two_pow,Nat.sub_self,Nat.testBit_zero];simp
 ·intro j K
  rw[I,Nat.mul_comm,Nat.testBit_mul_two_pow];simp;omega
end Go.Y
