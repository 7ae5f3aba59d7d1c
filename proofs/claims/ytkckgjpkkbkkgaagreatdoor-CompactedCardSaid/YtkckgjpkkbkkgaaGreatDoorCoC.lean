/- A small logic of what memory a walk holds: facts on blocks that stand apart from one another; what the slots of a frame hold; and one judgement, 'At', over both. -/
import Derived.Test.YtkckgjpkkbkkgaaGreatDoorCoA
import Derived.WalkKit
import Derived.WalkLawsBesides
import Derived.WalkSpells
import Derived.WalkSmall
import Derived.Laws.OwnMore
import Derived.Maps.AppendAt
import Derived.Orders
import Derived.ScopeJumps
import Derived.KernelRfl
import Derived.Test.YtkckgjpkkbkkgaaGreatDoorChecked
import Derived.Outline
import Derived.BigQuiet
import Derived.Deep.QuietTactic
import Derived.Deep.Draws
import Derived.RegionTactic
import Derived.ChangeAlike
import Derived.Below
import Derived.Lib.Hide
import Derived.Laws.Rows
import Derived.Test.YtkckgjpkkbkkgaaGreatDoorCoB
import Derived.OwnWalk
import Derived.Laws.BitsAllLaws
import Derived.Shelf.Spec.TrailingZeros
set_option maxHeartbeats 1000000
set_option maxRecDepth 10000
namespace Go.SL
open Go.RowKit
structure Env where
 os:Os
 tape:Nat->Question->Nat
 output:Array (Nat×ByteArray)
 fixed:List (Nat×Obj)
def Env.free (E:Env) (w:World) (k:Nat):Prop:=k<w.heap.size/\∀p∈E.fixed,p.1≠k
structure HP where
 sat:World->(Nat->Prop)->Prop
 loc:∀{w w':World} {F G:Nat->Prop},(∀k,F k->G k)->(∀k,F k->w'.heap[k]?=w.heap[k]?)->sat w F->sat w' G
def Star (w:World):List HP->(Nat->Prop)->Prop
 | [],_=>True
 | p::l,F=>∃F1 F2:Nat->Prop,(∀k,F1 k->F k)/\(∀k,F2 k->F k)/\(∀k,F1 k->F2 k->False)/\p.sat w F1/\Star w l F2
theorem Star.loc {w w':World} {l:List HP}:∀{F G:Nat->Prop},(∀k,F k->G k)->(∀k,F k->w'.heap[k]?=w.heap[k]?)->Star w l F->Star w' l G:=by
 induction l with
 | nil=>exact λ_ _ _=>trivial
 | cons p l ih=>
  intro F G I K ⟨F1,F2,O,T,hd,Y,hl⟩;exact⟨F1,F2,λk h=>I k (O k h),λk h=>I k (T k h),hd,p.loc (λ_ h=>h) (λk h=>K k (O k h)) Y,ih (λ_ h=>h) (λk h=>K k (T k h)) hl⟩
theorem Star.mono {w:World} {l:List HP} {F G:Nat->Prop} (h:∀k,F k->G k) (s:Star w l F):Star w l G:=s.loc h λ_ _=>rfl
theorem Star.swap {w:World} {p q:HP} {l:List HP} {F:Nat->Prop} (h:Star w (p::q::l) F):Star w (q::p::l) F:=by
 obtain⟨F1,F2,Y,K,hd,hp,F3,O,h3,T,I,hq,hl⟩:=h;refine⟨F3,λk=>F1 k\/O k,λk h=>K k (h3 k h),λk h=>h.elim (Y k) (λh=>K k (T k h)),?_,hq,F1,O,λk h=>.inl h,λk h=>.inr h,λk a b=>hd k a (T k b),hp,hl⟩;intro k a b;rcases b with b|b
 · exact hd k b (h3 k a)
 · exact I k a b
theorem Star.perm {w:World} {l m:List HP} (h:l.Perm m):∀{F:Nat->Prop},Star w l F->Star w m F:=by
 induction h with
 | nil=>exact λh=>h
 | cons x _ ih=>exact λ⟨F1,F2,O,T,hd,Y,hl⟩=>⟨F1,F2,O,T,hd,Y,ih hl⟩
 | swap x y l=>exact λh=>h.swap
 | trans _ _ I K=>exact λh=>K (I h)
theorem Star.append {w:World}:∀{l m:List HP} {F:Nat->Prop},Star w (l++m) F->∃F1 F2:Nat->Prop,(∀k,F1 k->F k)/\(∀k,F2 k->F k)/\(∀k,F1 k->F2 k->False)/\Star w l F1/\Star w m F2
 | [],m,F,h=>⟨λ_=>False,F,λ_ h=>h.elim,λ_ h=>h,λ_ h=>h.elim,trivial,h⟩
 | p::l,m,F,h=>by
  obtain⟨F1,F2,Y,I,hd,hp,hl⟩:=h;obtain⟨K,G2,O,T,gd,gl,gm⟩:=Star.append (l:=l) (m:=m) hl;refine⟨λk=>F1 k\/K k,G2,λk h=>h.elim (Y k) (λh=>I k (O k h)),λk h=>I k (T k h),?_,⟨F1,K,λk h=>.inl h,λk h=>.inr h,λk a b=>hd k a (O k b),hp,gl⟩,gm⟩;intro k a b;rcases a with a|a
  · exact hd k a (T k b)
  · exact gd k a b
theorem Star.join {w:World} {m:List HP}:∀{l:List HP} {F F1 F2:Nat->Prop},(∀k,F1 k->F k)->(∀k,F2 k->F k)->(∀k,F1 k->F2 k->False)->Star w l F1->Star w m F2->Star w (l++m) F
 | [],F,F1,F2,_,h2,_,_,hm=>hm.mono h2
 | p::l,F,F1,F2,h1,h2,hd,⟨G1,G2,g1,g2,gd,hp,hl⟩,hm=>by
  refine⟨G1,λk=>G2 k\/F2 k,λk h=>h1 k (g1 k h),λk h=>h.elim (λh=>h1 k (g2 k h)) (h2 k),?_,hp,Star.join (λk h=>.inl h) (λk h=>.inr h) (λk a b=>hd k (g2 k a) b) hl hm⟩;intro k a b;rcases b with b|b
  · exact gd k a b
  · exact hd k (g1 k a) b
inductive Sel (p:HP):List HP->List HP->Prop where
 | head {l:List HP}:Sel p (p::l) l
 | tail {q:HP} {l r:List HP}:Sel p l r->Sel p (q::l) (q::r)
theorem Sel.perm {p:HP} {l r:List HP} (h:Sel p l r):l.Perm (p::r):=by
 induction h with
 | head=>exact List.Perm.refl _
 | tail _ I=>exact(List.Perm.cons _ I).trans (List.Perm.swap _ _ _)
structure Env.is (E:Env) (w:World):Prop where
 os:w.os=E.os
 tape:w.tape=E.tape
 output:w.output=E.output
 fixed:∀p∈E.fixed,w.heap[p.1]?=some p.2
structure Holds (E:Env) (w:World) (l:List HP):Prop where
 is:E.is w
 star:Star w l (E.free w)
theorem Holds.perm {E:Env} {w:World} {l m:List HP} (h:Holds E w l) (p:l.Perm m):Holds E w m:=⟨h.is,h.star.perm p⟩
def ob (b:Nat) (o:Obj):HP where
 sat w F:=F b/\w.heap[b]?=some o
 loc hFG hk h:=⟨hFG _ h.1,(hk _ h.1).trans h.2⟩
abbrev blk (b:Nat) (t:TypeId) (cs:Array Value):HP:=ob b (.cells cs t)
def old (E:Env) (w0:World):HP where
 sat w F:=∀k,E.free w0 k->F k/\w.heap[k]?=w0.heap[k]?
 loc hFG hk h:=λk I=>⟨hFG _ (h k I).1,(hk _ (h k I).1).trans (h k I).2⟩
namespace HP
def ex {α:Sort _} (f:α->HP):HP where
 sat w F:=∃x,(f x).sat w F
 loc hFG hk h:=let⟨x,h⟩:=h;⟨x,(f x).loc hFG hk h⟩
def pure (p:Prop):HP where
 sat _ _:=p
 loc _ _ h:=h
def all (l:List HP):HP where
 sat w F:=Star w l F
 loc hFG hk h:=h.loc hFG hk
end HP
section
variable {w w' w0:World} {E:Env} {a b m r:List HP}
def Ent (l m:List HP):Prop:=∀w F,Star w l F->Star w m F
theorem Ent.refl (l:List HP):Ent l l:=λ_ _ h=>h
theorem Ent.trans {c:List HP} (h:Ent a b) (k:Ent b c):Ent a c:=λw F s=>k w F (h w F s)
theorem Ent.perm {a b:List HP} (h:a.Perm b):Ent a b:=λ_ _ s=>s.perm h
theorem Ent.cons {p:HP} (h:Ent a b):Ent (p::a) (p::b):=λw _ ⟨F1,F2,I,K,hd,O,T⟩=>⟨F1,F2,I,K,hd,O,h w F2 T⟩
theorem Ent.append {a b:List HP} (h:Ent a b) (c:List HP):Ent (a++c) (b++c):=λw F s=>by
 obtain⟨F1,F2,I,K,hd,O,hc⟩:=s.append;exact Star.join I K hd (h w F1 O) hc
theorem Ent.drop {p:HP}:Ent (p::a) a:=λ_ _ ⟨_,_,_,I,_,_,K⟩=>K.mono I
theorem Ent.ex {α:Sort _} {f:α->HP} (x:α) {a:List HP}:Ent (f x::a) (HP.ex f::a):=λ_ _ ⟨F1,F2,I,K,hd,O,T⟩=>⟨F1,F2,I,K,hd,⟨x,O⟩,T⟩
theorem Ent.pure {p:Prop} (I:p) {a:List HP}:Ent a (HP.pure p::a):=λ_ F s=>⟨λ_=>False,F,λ_ h=>h.elim,λ_ h=>h,λ_ h=>h.elim,I,s⟩
theorem Ent.all {m a:List HP}:Ent (m++a) (HP.all m::a):=λ_ _ s=>by
 obtain⟨F1,F2,I,K,hd,O,hc⟩:=s.append;exact⟨F1,F2,I,K,hd,O,hc⟩
theorem Ent.unall:Ent (HP.all m::a) (m++a):=λ_ _ ⟨_,_,I,K,hd,O,T⟩=>Star.join I K hd O T
theorem Holds.ent {l:List HP} (h:Holds E w l) (e:Ent l m):Holds E w m:=⟨h.is,e _ _ h.star⟩
theorem Holds.sel {l:List HP} {p:HP} (h:Holds E w l) (s:Sel p l r):Holds E w (p::r):=h.perm s.perm
theorem Holds.ob {l:List HP} {b:Nat} {o:Obj} (h:Holds E w l) (s:Sel (ob b o) l r):w.heap[b]?=some o/\b<w.heap.size:=by
 obtain⟨F1,F2,K,_,_,I,_⟩:=(h.sel s).star;exact⟨I.2,(K _ I.1).1⟩
theorem Env.is.set (h:E.is w) (I:w'.os=w.os) (O:w'.tape=w.tape) (T:w'.output=w.output) (Y:∀p∈E.fixed,w'.heap[p.1]?=w.heap[p.1]?):E.is w':=
 ⟨I.trans h.os,O.trans h.tape,T.trans h.output,λp K=>(Y p K).trans (h.fixed p K)⟩
theorem Env.is.lt (h:E.is w) {p:Nat×Obj} (I:p∈E.fixed):p.1<w.heap.size:=(Array.getElem?_eq_some_iff.1 (h.fixed p I)).1
theorem Holds.turn {p q:HP} (h:Holds E w (p::r)) (d6:w'.os=w.os) (ht:w'.tape=w.tape) (ho:w'.output=w.output) (hz:w.heap.size<=w'.heap.size)
 (step:∀F1:Nat->Prop,p.sat w F1->(∀k,F1 k->E.free w k)->∃Y:Nat->Prop,(∀k,Y k->(F1 k\/w.heap.size<=k)/\k<w'.heap.size)/\q.sat w' Y/\∀k,k<w.heap.size->¬F1 k->w'.heap[k]?=w.heap[k]?):Holds E w' (q::r):=by
 obtain⟨F1,F2,h1,h2,hd,O,hl⟩:=h.star;obtain⟨Y,hG,hq,hk⟩:=step F1 O h1;have T:∀p∈E.fixed,¬F1 p.1:=λp O hf=>(h1 _ hf).2 p O rfl;refine⟨h.is.set d6 ht ho λp O=>hk _ (h.is.lt O) (T p O),Y,F2,λk I=>⟨(hG k I).2,λp O e=>?_⟩,λk I=>⟨Nat.lt_of_lt_of_le (h2 k I).1 hz,(h2 k I).2⟩,λk d7 K=>?_,hq,?_⟩
 · rcases(hG k I).1 with h3|h3
   · exact(h1 k h3).2 p O e
   · have:=h.is.lt O
     omega
 · rcases(hG k d7).1 with h3|h3
   · exact hd k h3 K
   · have:=(h2 k K).1
     omega
 · exact hl.loc (λ_ h=>h) λk K=>hk k (h2 k K).1 λhf=>hd k hf K
theorem Holds.set {b:Nat} {o o':Obj} (h:Holds E w (SL.ob b o::r)) (K:w'.os=w.os) (ht:w'.tape=w.tape) (ho:w'.output=w.output) (T:w'.heap.size=w.heap.size)
 (hb:w'.heap[b]?=some o') (I:∀k,k≠b->w'.heap[k]?=w.heap[k]?):Holds E w' (SL.ob b o'::r):=
 h.turn K ht ho (Nat.le_of_eq T.symm) λF1 Y hF=>⟨F1,λk I=>⟨.inl I,by rw[T];exact(hF k I).1⟩,⟨Y.1,hb⟩,λk _ O=>I k (by rintro rfl;exact O Y.1)⟩
theorem Holds.alloc {E:Env} {w:World} {l:List HP} (h:Holds E w l) (o:Obj):Holds E (w.alloc o) (SL.ob w.heap.size o::l):=by
 have K:Holds E w (HP.pure True::l):=⟨h.is,λ_=>False,E.free w,λ_ h=>h.elim,λ_ h=>h,λ_ h=>h.elim,trivial,h.star⟩;refine K.turn rfl rfl rfl cP λF1 _ _=>⟨λk=>k=w.heap.size,λk I=>⟨.inr ai,by simp;omega⟩,⟨rfl,?_⟩,λk I _=>Below.heap_alloc _ _ _ I⟩;show(w.heap.push o)[w.heap.size]?=some o;simp
theorem Holds.drawn {E:Env} {w:World} {l:List HP} (h:Holds E w l) (n:Nat):Holds E {w with drawn:=n} l:=⟨⟨h.is.os,h.is.tape,h.is.output,h.is.fixed⟩,Star.loc (w:=w) (λ_ h=>h) (λ_ _=>rfl) h.star⟩
theorem Env.is.below (h:E.is w) (I:Below w.heap.size w w'):E.is w':=h.set I.os I.tape I.output λ_ K=>I.block _ (h.lt K)
theorem Holds.below {E:Env} {w w':World} {l:List HP} (h:Holds E w l) (K:Below w.heap.size w w'):Holds E w' l:=
 ⟨h.is.below K,h.star.loc (λ_ I=>⟨Nat.lt_of_lt_of_le I.1 K.size,I.2⟩) λk I=>K.block k I.1⟩
theorem Holds.start (h:E.is w):Holds E w [old E w]:=
 ⟨h,E.free w,λ_=>False,λ_ h=>h,λ_ h=>h.elim,λ_ _ h=>h.elim,λ_ I=>⟨I,rfl⟩,trivial⟩
theorem Holds.old {l:List HP} (h:Holds E w l) (s:Sel (SL.old E w0) l r) (I:E.is w0):Below w0.heap.size w0 w:=by
 obtain⟨F1,F2,h1,_,_,hs,_⟩:=(h.sel s).star;have K:∀k,k<w0.heap.size->w.heap[k]?=w0.heap[k]?:=λk K=>by
  by_cases T:∃p∈E.fixed,p.1=k
  · obtain⟨p,O,rfl⟩:=T
    rw[h.is.fixed p O,I.fixed p O]
  · exact(hs k ⟨K,λp O e=>T ⟨p,O,e⟩⟩).2
 refine⟨h.is.os.trans I.os.symm,h.is.tape.trans I.tape.symm,h.is.output.trans I.output.symm,?_,K⟩;rcases Nat.eq_zero_or_pos w0.heap.size with h3|h3
 · omega
 · have Y:=K (w0.heap.size-1) ai
   have h5:w0.heap[w0.heap.size-1]?=some (w0.heap[w0.heap.size-1]'ai):=Array.getElem?_eq_getElem _;rw[h5] at Y;have:=(Array.getElem?_eq_some_iff.1 Y).1;omega
theorem Holds.later {l:List HP} (T:Holds E w0 l) (h:Holds E w (m++[SL.old E w0])):Holds E w (m++l):=by
 refine⟨h.is,?_⟩;obtain⟨F1,F2,Y,h2,hd,hm,G1,G2,O,g2,gd,K,_⟩:=h.star.append;refine Star.join (F2:=E.free w0) Y (λk I=>h2 _ (O _ (K k I).1)) (λk a b=>hd k a (O _ (K k b).1)) hm ?_;exact T.star.loc (λ_ h=>h) λk I=>(K k I).2
def look:Nat->List (Nat×Value)->Option Value
 | _,[]=>none
 | i,(j,v)::l=>bif Nat.beq i j then some v else look i l
def ev (ts:List (Nat×Value)):Operand->Option Value
 | .tmp t=>look t ts
 | .const v=>some v
 | .global g=>some (.pointer (some ⟨g,0,none⟩))
 | .func f=>some (.func (.func f) #[] #[])
end
structure Fits (n:Nat) (D:List Deferred) (ts:List (Nat×Value)) (a:Act):Prop where
 size:a.tmps.size=n
 defers:a.defers=D
 get:∀i v,look i ts=some v->a.tmps[i]?=some v
theorem Fits.eval {n:Nat} {D:List Deferred} {ts:List (Nat×Value)} {a:Act} (h:Fits n D ts a) {x:Operand} {v:Value} (I:ev ts x=some v):a.eval x=v:=by
 cases x with
 | tmp t=>simp[Act.eval,h.get t v I]
 | const u=>simpa[ev,Act.eval] using I
 | global g=>simpa[ev,Act.eval] using I
 | func f=>simpa[ev,Act.eval] using I
theorem Fits.put {n:Nat} {D:List Deferred} {ts:List (Nat×Value)} {a:Act} (h:Fits n D ts a) (i:Nat) (hi:i<n) (v:Value):Fits n D ((i,v)::ts) (a.put (some i) v):=by
 refine⟨by simp[Act.put,h.size],by simp[Act.put,h.defers],λj u K=>?_⟩;simp only[look] at K
 by_cases I:j=i
 · subst I
   simp at K;subst K;simp[Act.put,h.size,hi]
 · have:Nat.beq j i=false:=by cases hb:Nat.beq j i with|false=>rfl|true=>exact absurd (Nat.eq_of_beq_eq_true hb) I
   rw[this] at K;simp only[cond_false] at K;simp[Act.put,Array.getElem?_setIfInBounds_ne (Ne.symm I),h.get j u K]
inductive Put (n:Nat) (v:Value) (ts:List (Nat×Value)):Option Tmp->List (Nat×Value)->Prop where
 | none:Put n v ts none ts
 | some {i:Nat} (h:Nat.blt i n=true):Put n v ts (some i) ((i,v)::ts)
def At (E:Env) (n:Nat) (D:List Deferred) (ts:List (Nat×Value)) (l:List HP) (K:Act->World->Prop):Prop:=∀a w,Fits n D ts a->Holds E w l->K a w
theorem aN {l:List HP}:Ent l l:=Ent.refl l
section
variable {p q0 q1 q2 q3 q4 q5 q6 q7 q8 q9:HP} {l:List HP}
theorem bM:Sel p (q0::p::l) (q0::l):=.tail .head
theorem dj:Sel p (q0::q1::p::l) (q0::q1::l):=.tail (.tail .head)
theorem gC:Sel p (q0::q1::q2::p::l) (q0::q1::q2::l):=.tail (.tail (.tail .head))
theorem lp:Sel p (q0::q1::q2::q3::p::l) (q0::q1::q2::q3::l):=.tail (.tail (.tail (.tail .head)))
theorem tY:Sel p (q0::q1::q2::q3::q4::p::l) (q0::q1::q2::q3::q4::l):=.tail (.tail (.tail (.tail (.tail .head))))
theorem De:Sel p (q0::q1::q2::q3::q4::q5::p::l) (q0::q1::q2::q3::q4::q5::l):=.tail (.tail (.tail (.tail (.tail (.tail .head)))))
theorem Dd:Sel p (q0::q1::q2::q3::q4::q5::q6::p::l) (q0::q1::q2::q3::q4::q5::q6::l):=.tail (.tail (.tail (.tail (.tail (.tail (.tail .head))))))
theorem Iy:Sel p (q0::q1::q2::q3::q4::q5::q6::q7::p::l) (q0::q1::q2::q3::q4::q5::q6::q7::l):=.tail (.tail (.tail (.tail (.tail (.tail (.tail (.tail .head)))))))
theorem pA:Sel p (q0::q1::q2::q3::q4::q5::q6::q7::q8::p::l) (q0::q1::q2::q3::q4::q5::q6::q7::q8::l):=.tail (.tail (.tail (.tail (.tail (.tail (.tail (.tail (.tail .head))))))))
end
open Go.RowKit
def Knows (ts:List (Nat×Value)) (a:Act):Prop:=∀i v,look i ts=some v->a.tmps[i]?=some v
theorem Fits.knows {n:Nat} {D:List Deferred} {ts:List (Nat×Value)} {a:Act} (h:Fits n D ts a):Knows ts a:=h.get
theorem Knows.eval {ts:List (Nat×Value)} {a:Act} (h:Knows ts a) {x:Operand} {v:Value} (E:ev ts x=some v):a.eval x=v:=by
 cases x with
 | tmp t=>simp[Act.eval,h t v E]
 | const u=>simpa[ev,Act.eval] using E
 | global g=>simpa[ev,Act.eval] using E
 | func f=>simpa[ev,Act.eval] using E
def Any (_:World):Prop:=True
def cR (p:Addr) (v:Value) (w:World):Prop:=w.cell? p=some v
def Ev (P:Program) (ts:List (Nat×Value)) (op:Op) (v:Value) (φ:World->Prop):Prop:=
 ∀a w (d:Option Tmp) (E:TypeId) (pos:String) (I:Array Edge) (g:Option (Nat×Bool)),Knows ts a->φ w->(execOp a.eval ⟨d,op,E,pos,I,g⟩).run P w=.ok (.value v) w
section
variable {P:Program} {ts:List (Nat×Value)}
theorem bn {x:Operand} {v:Value} (E:ev ts x=some v):Ev P ts (.move x) v Any:=by
 intro a w _ _ _ _ _ k _;simp[execOp,k.eval E]
theorem aQ {x:Operand} {v:Value} (E:ev ts x=some v):Ev P ts (.assign x) v Any:=by
 intro a w _ _ _ _ _ k _;simp[execOp,k.eval E]
theorem aS {c x y:Operand} {b:Bool} {u v:Value} (hc:ev ts c=some (.bool b)) (E:ev ts x=some u) (I:ev ts y=some v):Ev P ts (.pick c x y) (if b then u else v) Any:=by
 intro a w _ _ _ _ _ k _;cases b<;>simp[execOp,k.eval hc,k.eval E,k.eval I,asBool]
theorem cv {x:Operand} {p:Addr} (E:ev ts x=some (.pointer (some p))):Ev P ts (.nilCheck x) (.pointer (some p)) Any:=by
 intro a w _ _ _ _ _ k _;simp[execOp,k.eval E]
theorem ev_load {t:TypeId} {x:Operand} {p:Addr} {v:Value} {d:TypeDesc} (hd:P.underlying t=some d) (O:(match d with | .struct _ | .array _ _=>true|_=>false)=false)
 (E:ev ts x=some (.pointer (some p))):Ev P ts (.load t x) v (cR p v):=by
 intro a w _ _ _ _ _ k hc;have I:(underlying t).run P w=.ok d w:=run_underlying hd w;have K:(isAgg t).run P w=.ok false w:=by
  unfold isAgg;simp only[Sem.run_bind,I,Result.andThen_ok];cases d<;>simp_all
 unfold cR at hc;simp[execOp,k.eval E,Instr.loadAt,Instr.sureAddr,loadVar,K,hc]
end
end Go.SL
namespace Go.SL
open Go.RowKit
section
variable {P:Program} {ts:List (Nat×Value)}
section
variable {d e s t t':TypeId} {y:Operand} {k k':IntKind} {a b:Int} {r:Bool} {ms:Array (String×TypeId)} {p:Option Addr} {u v:Value} {c n o off z:Nat} {w:World}
theorem aT {x:Operand} {r:Int} (I:ev ts x=some (.int k a)) (K:ev ts y=some (.int k b)) (O:k.wrap (a+b)=r):Ev P ts (.binOp .add t x y t') (.int k r) Any:=by
 intro ac w _ _ _ _ _ E _;subst O;simp[execOp,E.eval I,E.eval K,binOp,Op.intArith,eqGuard]
theorem cH {x:Operand} {r:Int} (I:ev ts x=some (.int k a)) (K:ev ts y=some (.int k b)) (O:k.wrap (a-b)=r):Ev P ts (.binOp .sub t x y t') (.int k r) Any:=by
 intro ac w _ _ _ _ _ E _;subst O;simp[execOp,E.eval I,E.eval K,binOp,Op.intArith,eqGuard]
theorem l5 {x:Operand} {r:Int} (I:ev ts x=some (.int k a)) (K:ev ts y=some (.int k b)) (O:k.wrap (a*b)=r):Ev P ts (.binOp .mul t x y t') (.int k r) Any:=by
 intro ac w _ _ _ _ _ E _;subst O;simp[execOp,E.eval I,E.eval K,binOp,Op.intArith,eqGuard]
theorem n8 {x:Operand} {r:Int} (I:ev ts x=some (.int k a)) (K:ev ts y=some (.int k b)) (O:b≠0) (T:k.wrap (a.tdiv b)=r):Ev P ts (.binOp .quo t x y t') (.int k r) Any:=by
 intro ac w _ _ _ _ _ E _;subst T;simp[execOp,E.eval I,E.eval K,binOp,Op.intDiv,eqGuard,O]
theorem lZ {x:Operand} {r:Int} (I:ev ts x=some (.int k a)) (K:ev ts y=some (.int k b)) (O:b≠0) (T:a.tmod b=r):Ev P ts (.binOp .rem t x y t') (.int k r) Any:=by
 intro ac w _ _ _ _ _ E _;subst T;simp[execOp,E.eval I,E.eval K,binOp,Op.intDiv,eqGuard,O]
theorem mV {x:Operand} {r:Int} (I:ev ts x=some (.int k a)) (K:ev ts y=some (.int k' b)) (T:0<=b) (O:k.wrap (a*2 ^ min b.toNat k.bits)=r):Ev P ts (.binOp .shl t x y t') (.int k r) Any:=by
 intro ac w _ _ _ _ _ E _;subst O;have:¬b<0:=ai;simp[execOp,E.eval I,E.eval K,binOp,Op.shift,eqGuard,this]
theorem fU {x:Operand} {r:Int} (I:ev ts x=some (.int k a)) (K:ev ts y=some (.int k' b)) (T:0<=b) (O:a.fdiv (2 ^ min b.toNat k.bits)=r):Ev P ts (.binOp .shr t x y t') (.int k r) Any:=by
 intro ac w _ _ _ _ _ E _;subst O;have:¬b<0:=ai;simp[execOp,E.eval I,E.eval K,binOp,Op.shift,eqGuard,this]
theorem zY {x:Operand} {r:Int} (I:ev ts x=some (.int k a)) (K:ev ts y=some (.int k b)) (O:bits .and k a b=r):Ev P ts (.binOp .and t x y t') (.int k r) Any:=by
 intro ac w _ _ _ _ _ E _;subst O;simp[execOp,E.eval I,E.eval K,binOp,intBits_and,eqGuard]
theorem xp {x:Operand} {r:Int} (I:ev ts x=some (.int k a)) (K:ev ts y=some (.int k b)) (O:bits .or k a b=r):Ev P ts (.binOp .or t x y t') (.int k r) Any:=by
 intro ac w _ _ _ _ _ E _;subst O;simp[execOp,E.eval I,E.eval K,binOp,intBits_or,eqGuard]
theorem Ld {x:Operand} {r:Int} (I:ev ts x=some (.int k a)) (K:ev ts y=some (.int k b)) (O:bits .xor k a b=r):Ev P ts (.binOp .xor t x y t') (.int k r) Any:=by
 intro ac w _ _ _ _ _ E _;subst O;simp[execOp,E.eval I,E.eval K,binOp,intBits_xor,eqGuard]
theorem vr {x:Operand} {r:Int} (I:ev ts x=some (.int k a)) (K:ev ts y=some (.int k b)) (O:bits .andNot k a b=r):Ev P ts (.binOp .andNot t x y t') (.int k r) Any:=by
 intro ac w _ _ _ _ _ E _;subst O;simp[execOp,E.eval I,E.eval K,binOp,intBits_andNot,eqGuard]
theorem bB {x:Operand} (I:ev ts x=some (.int k a)) (K:ev ts y=some (.int k b)) (O:decide (a<b)=r):Ev P ts (.binOp .lss t x y t') (.bool r) Any:=by
 intro ac w _ _ _ _ _ E _;subst O;simp[execOp,E.eval I,E.eval K,binOp,Op.intCmp,eqGuard]
theorem rM {x:Operand} (I:ev ts x=some (.int k a)) (K:ev ts y=some (.int k b)) (O:decide (a<=b)=r):Ev P ts (.binOp .leq t x y t') (.bool r) Any:=by
 intro ac w _ _ _ _ _ E _;subst O;simp[execOp,E.eval I,E.eval K,binOp,Op.intCmp,eqGuard]
theorem eS {x:Operand} (I:ev ts x=some (.int k a)) (K:ev ts y=some (.int k b)) (O:decide (b<a)=r):Ev P ts (.binOp .gtr t x y t') (.bool r) Any:=by
 intro ac w _ _ _ _ _ E _;subst O;simp[execOp,E.eval I,E.eval K,binOp,Op.intCmp,eqGuard]
theorem n9 {x:Operand} (I:ev ts x=some (.int k a)) (K:ev ts y=some (.int k b)) (O:decide (b<=a)=r):Ev P ts (.binOp .geq t x y t') (.bool r) Any:=by
 intro ac w _ _ _ _ _ E _;subst O;simp[execOp,E.eval I,E.eval K,binOp,Op.intCmp,eqGuard]
theorem bC {x:Operand} (I:ev ts x=some (.int k a)) (K:ev ts y=some (.int k b)) (O:decide (a=b)=r):Ev P ts (.binOp .eql t x y t') (.bool r) Any:=by
 intro ac w _ _ _ _ _ E _;subst O
 by_cases h:a=b<;>simp[execOp,E.eval I,E.eval K,binOp,Op.intCmp,eqGuard,h]
theorem dq {x:Operand} (I:ev ts x=some (.int k a)) (K:ev ts y=some (.int k b)) (O:decide (a≠b)=r):Ev P ts (.binOp .neq t x y t') (.bool r) Any:=by
 intro ac w _ _ _ _ _ E _;subst O
 by_cases h:a=b<;>simp[execOp,E.eval I,E.eval K,binOp,Op.intCmp,eqGuard,h]
theorem eT {op:BinOp} {x:Operand} {r:Value} {a:Act} {d:Option Tmp} {E:TypeId} {pos:String} {I:Array Edge} {g:Option (Nat×Bool)} (K:a.eval x=u) (O:a.eval y=v)
 (T:(eqGuard op t x y u v).run P w=.ok () w) (Y:(binOp op t u v).run P w=.ok r w):(execOp a.eval ⟨d,.binOp op t x y t',E,pos,I,g⟩).run P w=.ok (.value r) w:=by
 simp[execOp,K,O,T,Y]
theorem k9 (E:binOp .eql t u v=(do pure (.bool (<-Op.equal t u v)))) (h:∀d,(Op.equalIn (d+1) t u v).run P w=.ok r w):(binOp .eql t u v).run P w=.ok (.bool r) w:=by
 rw[E];simp only[Op.equal,Op.maxDepth,Sem.run_bind,h 9999,Result.andThen_ok,Sem.run_pure]
theorem rz (E:binOp .neq t u v=(do pure (.bool (!(<-Op.equal t u v))))) (h:∀d,(Op.equalIn (d+1) t u v).run P w=.ok r w):(binOp .neq t u v).run P w=.ok (.bool (!r)) w:=by
 rw[E];simp only[Op.equal,Op.maxDepth,Sem.run_bind,h 9999,Result.andThen_ok,Sem.run_pure]
theorem ny {x:Operand} {a b:Bool} (I:P.underlying t=some .bool) (K:ev ts x=some (.bool a)) (O:ev ts y=some (.bool b)) (T:(a==b)=r):Ev P ts (.binOp .eql t x y t') (.bool r) Any:=by
 intro ac w _ _ _ _ _ E _;subst T;exact eT (E.eval K) (E.eval O) (by simp[eqGuard]) (k9 rfl λd=>by simp[Op.equalIn,run_underlying I])
theorem dp {x:Operand} {a:Bool} (E:ev ts x=some (.bool a)) (I:(!a)=r):Ev P ts (.unOp .not t x) (.bool r) Any:=by
 intro ac w _ _ _ _ _ K _;subst I;simp[execOp,K.eval E,Op.unary]
theorem FU {x:Operand} {r:Int} (E:ev ts x=some (.int k a)) (I:k.wrap (0-a)=r):Ev P ts (.unOp .neg t x) (.int k r) Any:=by
 intro ac w _ _ _ _ _ K _;subst I;simp[execOp,K.eval E,Op.unary,Op.intArith]
theorem bJ {E:TypeDesc} {x:Operand} {r:Int} (I:P.underlying s=some E) (hd:P.underlying d=some (.int k)) (K:ev ts x=some (.int k' a)) (O:k.wrap a=r):Ev P ts (.convert s d x) (.int k r) Any:=by
 intro ac w _ _ _ _ _ T _;subst O;simp[execOp,T.eval K,convert,run_underlying I,run_underlying hd,Conv.intToInt]
theorem dU {x:Operand} (I:P.underlying t=some (.interface ms)) (K:ev ts x=some (.iface d v)):Ev P ts (.binOp .eql t x (.const (.nilIface)) t') (.bool false) Any:=by
 intro ac w _ _ _ _ _ E _;exact eT (E.eval K) (E.eval (x:=.const _) rfl) (by simp[eqGuard]) (k9 rfl λd=>by simp[Op.equalIn,run_underlying I])
theorem fj {x:Operand} (I:P.underlying t=some (.interface ms)) (K:ev ts x=some (.iface d v)):Ev P ts (.binOp .neq t x (.const (.nilIface)) t') (.bool true) Any:=by
 intro ac w _ _ _ _ _ E _;exact eT (E.eval K) (E.eval (x:=.const _) rfl) (by simp[eqGuard]) (rz (r:=false) rfl λd=>by simp[Op.equalIn,run_underlying I])
theorem jM {x:Operand} (I:P.underlying t=some (.interface ms)) (K:ev ts x=some (.nilIface)):Ev P ts (.binOp .eql t x (.const (.nilIface)) t') (.bool true) Any:=by
 intro ac w _ _ _ _ _ E _;exact eT (E.eval K) (E.eval (x:=.const _) rfl) (by simp[eqGuard]) (k9 rfl λd=>by simp[Op.equalIn,run_underlying I])
theorem cS {x:Operand} (I:P.underlying t=some (.interface ms)) (K:ev ts x=some (.nilIface)):Ev P ts (.binOp .neq t x (.const (.nilIface)) t') (.bool false) Any:=by
 intro ac w _ _ _ _ _ E _;exact eT (E.eval K) (E.eval (x:=.const _) rfl) (by simp[eqGuard]) (rz (r:=true) rfl λd=>by simp[Op.equalIn,run_underlying I])
theorem ez {x:Operand} (I:P.underlying t=some (.pointer e)) (K:ev ts x=some (.pointer p)) (O:p.isNone=r):Ev P ts (.binOp .eql t x (.const (.pointer none)) t') (.bool r) Any:=by
 intro ac w _ _ _ _ _ E _;subst O;exact eT (E.eval K) (E.eval (x:=.const _) rfl) (by simp[eqGuard]) (k9 rfl λd=>by cases p<;>simp[Op.equalIn,run_underlying I])
theorem BC {x:Operand} (I:P.underlying t=some (.pointer e)) (K:ev ts x=some (.pointer p)) (O:(!p.isNone)=r):Ev P ts (.binOp .neq t x (.const (.pointer none)) t') (.bool r) Any:=by
 intro ac w _ _ _ _ _ E _;subst O;exact eT (E.eval K) (E.eval (x:=.const _) rfl) (by simp[eqGuard]) (rz rfl λd=>by cases p<;>simp[Op.equalIn,run_underlying I])
theorem kR {x:Operand} {I K:Nat} (O:P.underlying t=some (.slice e)) (T:ev ts x=some (.slice p n c)) (Y:p.isNone=r):Ev P ts (.binOp .eql t x (.const (Value.slice none I K)) t') (.bool r) Any:=by
 intro ac w _ _ _ _ _ E _;subst Y;exact eT (E.eval T) (E.eval (x:=.const _) rfl) (by simp[eqGuard]) (k9 rfl λd=>by cases p<;>simp[Op.equalIn,run_underlying O])
theorem oo {x:Operand} {I K:Nat} (O:P.underlying t=some (.slice e)) (T:ev ts x=some (.slice p n c)) (Y:(!p.isNone)=r):Ev P ts (.binOp .neq t x (.const (Value.slice none I K)) t') (.bool r) Any:=by
 intro ac w _ _ _ _ _ E _;subst Y;exact eT (E.eval T) (E.eval (x:=.const _) rfl) (by simp[eqGuard]) (rz rfl λd=>by cases p<;>simp[Op.equalIn,run_underlying O])
theorem add_plain (b o n:Nat):(⟨b,o,none⟩:Addr).add n=⟨b,o+n,none⟩:=by
 unfold Addr.add;split<;>simp_all
def jT (P:Program) (s:TypeId) (j:Nat):Option Nat:=
 match P.underlying s with
 | some (.struct fields)=>match fields[j]? with
  | some f=>match P.info? f.type with
   | some i=>if i.size=0 then none else some f.offset
   | none=>none
  | none=>none
 | _=>none
theorem yD {j:Nat} (h:jT P s j=some off) (b o:Nat) (w:World):(Instr.fieldAt s (.pointer (some ⟨b,o,none⟩)) j).run P w=.ok (.pointer (some ⟨b,o+off,none⟩)) w:=by
 unfold jT at h
 split at h
 · rename_i E I
   split at h
   · rename_i f K
     split at h
     · rename_i i hi
       split at h
       · cases h
       · rename_i O
         injection h with h;subst h;simp[Instr.fieldAt,run_underlying I,K,Instr.sureAddr,fieldPlace,sizeOf,typeInfo,hi,O,add_plain]
     · cases h
   · cases h
 · cases h
theorem sy {x:Operand} {j b:Nat} (h:jT P s j=some off) (E:ev ts x=some (.pointer (some ⟨b,o,none⟩))):Ev P ts (.fieldAddr s x j) (.pointer (some ⟨b,o+off,none⟩)) Any:=by
 intro ac w _ _ _ _ _ I _;simp[execOp,I.eval E,yD h]
def dm (P:Program) (t:TypeId) (n:Nat):Prop:=(P.info? t).map (·.size)=some n
theorem cY (h:dm P t n) (w:World):(sizeOf t).run P w=.ok n w:=by
 unfold dm at h;cases hi:P.info? t with
 | none=>simp[hi] at h
 | some i=>simp[hi] at h;simp[sizeOf,typeInfo,hi,h]
theorem Le {x:Operand} {i:Int} {b:Nat} (I:P.underlying t=some (.slice e)) (K:dm P e z) (O:ev ts x=some (.slice (some ⟨b,o,none⟩) n c)) (T:ev ts y=some (.int k i)) (Y:0<=i) (h1:i<n) :
 Ev P ts (.indexAddr t x y) (.pointer (some ⟨b,o+i.toNat*z,none⟩)) Any:=by
 intro ac w _ _ _ _ _ E _;simp[execOp,E.eval O,E.eval T,Instr.indexAt,asIntOf,run_underlying I,cY K,Y,h1,add_plain]
theorem bp {x:Operand} {i b:Nat} (E:P.underlying t=some (.slice e)) (I:dm P e z) (K:ev ts x=some (.slice (some ⟨b,o,none⟩) n c)) (O:ev ts y=some (.int k (i:Int))) (T:i<n) :
 Ev P ts (.indexAddr t x y) (.pointer (some ⟨b,o+i*z,none⟩)) Any:=Le E I K O ai ai
theorem Lh {x:Operand} {i:Int} {b:Nat} (I:P.underlying t=some (.array n e)) (K:dm P e z) (O:ev ts x=some (.pointer (some ⟨b,o,none⟩))) (T:ev ts y=some (.int k i)) (Y:0<=i) (h1:i<n) :
 Ev P ts (.indexAddr t x y) (.pointer (some ⟨b,o+i.toNat*z,none⟩)) Any:=by
 intro ac w _ _ _ _ _ E _;simp[execOp,E.eval O,E.eval T,Instr.indexAt,asIntOf,run_underlying I,Instr.sureAddr,cY K,Y,h1,add_plain]
def j6 (P:Program) (t:TypeId):Option Bool:=
 match P.underlying t with
 | some (.struct _)|some (.array _ _)=>some true
 | some _=>some false
 | none=>none
theorem kL {b:Bool} (h:j6 P t=some b) (w:World):(isAgg t).run P w=.ok b w:=by
 unfold j6 at h;unfold isAgg;cases hu:P.underlying t with
 | none=>rw[hu] at h;cases h
 | some d=>
  rw[hu] at h;rw[Sem.run_bind,run_underlying hu,Result.andThen_ok];cases d<;>(injection h with h;subst h;rfl)
theorem x7 {x:Operand} {p:Addr} (hd:j6 P t=some false) (E:ev ts x=some (.pointer (some p))):Ev P ts (.load t x) v (cR p v):=by
 intro a w _ _ _ _ _ k hc;unfold cR at hc;simp[execOp,k.eval E,Instr.loadAt,Instr.sureAddr,loadVar,kL hd,hc]
def jb (b o:Nat) (vs:List Value) (w:World):Prop:=∀j v,vs[j]?=some v->w.cell? ⟨b,o+j,none⟩=some v
theorem gP {b o:Nat} {w:World}:∀(vs:List Value) (i:Nat) (E:Array Value),(∀j v,vs[j]?=some v->w.cell? ⟨b,o+(i+j),none⟩=some v)->(loadCellsFrom ⟨b,o,none⟩ i vs.length E).run P w=.ok (E++vs.toArray) w
 | [],i,E,_=>by simp[loadCellsFrom]
 | v::vs,i,E,h=>by
  have I:=h 0 v cP;rw[Nat.add_zero] at I;have O:=gP vs (i+1) (E.push v) λj u K=>by
   have:=h (j+1) u (by simpa using K);rw[show i+1+j=i+(j+1) by omega];exact this
  simp[loadCellsFrom,add_plain,I,O]
theorem pc {x:Operand} {b:Nat} {vs:List Value} (hd:j6 P t=some true) (E:dm P t n) (I:vs.length=n) (K:ev ts x=some (.pointer (some ⟨b,o,none⟩))):Ev P ts (.load t x) (.agg vs.toArray) (jb b o vs):=by
 intro a w _ _ _ _ _ k hc;subst I;have:=gP (P:=P) vs 0 #[] (λj v O=>by simpa using hc j v O);simp[execOp,k.eval K,Instr.loadAt,Instr.sureAddr,loadVar,kL hd,cY E,loadCells,this]
end
end
section
variable {y:Operand} {k:IntKind} {t t':TypeId} {a b:Int}
theorem rp {P:Program} {ts:List (Nat×Value)} {x:Operand} (E:ev ts x=some (.int k a)) (I:ev ts y=some (.int k b)) (K:¬(a<b)):Ev P ts (.binOp .lss t x y t') (.bool false) Any:=bB E I (decide_eq_false K)
theorem nu {P:Program} {ts:List (Nat×Value)} {x:Operand} (E:ev ts x=some (.int k a)) (I:ev ts y=some (.int k b)) (K:(b<a)):Ev P ts (.binOp .gtr t x y t') (.bool true) Any:=eS E I (decide_eq_true K)
theorem nw {P:Program} {ts:List (Nat×Value)} {x:Operand} (E:ev ts x=some (.int k a)) (I:ev ts y=some (.int k b)) (K:¬(b<a)):Ev P ts (.binOp .gtr t x y t') (.bool false) Any:=eS E I (decide_eq_false K)
theorem nx {P:Program} {ts:List (Nat×Value)} {x:Operand} (E:ev ts x=some (.int k a)) (I:ev ts y=some (.int k b)) (K:(a=b)):Ev P ts (.binOp .eql t x y t') (.bool true) Any:=bC E I (decide_eq_true K)
theorem rq {P:Program} {ts:List (Nat×Value)} {x:Operand} (E:ev ts x=some (.int k a)) (I:ev ts y=some (.int k b)) (K:¬(a=b)):Ev P ts (.binOp .eql t x y t') (.bool false) Any:=bC E I (decide_eq_false K)
end
class Has (b:Nat) (l:List HP) (o:outParam Obj) (r:outParam (List HP)):Prop where
 sel:Sel (ob b o) l r
instance Has.head {b:Nat} {o:Obj} {l:List HP}:Has b (ob b o::l) o l:=⟨.head⟩
instance (priority:=low) Has.tail {b:Nat} {o:Obj} {l r:List HP} {p:HP} [h:Has b l o r]:Has b (p::l) o (p::r):=⟨.tail h.sel⟩
section
variable {P:Program} {E:Env} {n:Nat} {D:List Deferred} {ts:List (Nat×Value)} {l:List HP} {ops:Array Oper} {Q:Exit->Act->World->Prop} {rest:List Oper}
section
variable {K:Act->World->Prop} {af:Array Edge} {t tb ty:TypeId} {fr pre r:List HP} {fn:Func} {G:Env->Prop} {f:FuncId} {c:Operand} {o:Oper} {y:Code} {w:World} {X:Type} {φ:World->Prop} {xs:List Operand} {a:Act} {d:Option Tmp} {p:Prop} {b:Bool}
theorem Lr {I:Act->World->Prop} (h:At E n D ts l K) (O:∀a w,K a w->I a w):At E n D ts l I:=λa w f s=>O a w (h a w f s)
theorem al {l':List HP} (e:Ent l l') (h:At E n D ts l' K):At E n D ts l K:=λa w f s=>h a w f (s.ent e)
def Sub:List (Nat×Value)->List (Nat×Value)->Prop
 | [],_=>True
 | (i,v)::t,ts=>look i ts=some v/\Sub t ts
theorem Sub.look:∀{t ts:List (Nat×Value)},Sub t ts->∀{i:Nat} {v:Value},SL.look i t=some v->SL.look i ts=some v
 | [],_,_,_,_,h=>by simp[SL.look] at h
 | (j,u)::t,ts,⟨h0,h1⟩,i,v,h=>by
  simp only[SL.look] at h;cases hb:Nat.beq i j with
  | true=>
   rw[hb] at h;simp at h;rw[Nat.eq_of_beq_eq_true hb,<-h];exact h0
  | false=>rw[hb] at h;exact h1.look h
theorem Fits.sub {t:List (Nat×Value)} (h:Fits n D ts a) (s:Sub t ts):Fits n D t a:=⟨h.size,h.defers,λi v hi=>h.get i v (s.look hi)⟩
theorem gf_At_sub {t:List (Nat×Value)} (s:Sub t ts) (h:At E n D t l K):At E n D ts l K:=λa w f hw=>h a w (f.sub s) hw
theorem cN {α:Sort _} {g:α->HP} (s:Sel (HP.ex g) l r) (h:∀x,At E n D ts (g x::r) K):At E n D ts l K:=λa w f hw=>by
 have Y:=hw.sel s;obtain⟨F1,F2,I,h3,hd,⟨x,O⟩,T⟩:=Y.star;exact h x a w f ⟨hw.is,F1,F2,I,h3,hd,O,T⟩
theorem ec (s:Sel (HP.pure p) l r) (h:p->At E n D ts r K):At E n D ts l K:=λa w f hw=>by
 have T:=hw.sel s;obtain⟨F1,F2,Y,h3,hd,I,O⟩:=T.star;exact h I a w f ⟨hw.is,O.mono h3⟩
theorem gf_At_all {m:List HP} (s:Sel (HP.all m) l r) (h:At E n D ts (m++r) K):At E n D ts l K:=λa w f hw=>h a w f ((hw.sel s).ent Ent.unall)
theorem eK (I:∀w,Holds E w l->p) (h:p->At E n D ts l K):At E n D ts l K:=λa w f hw=>h (I w hw) a w f hw
theorem aq (h:At E n D ts l (Q .normal)):At E n D ts l (wpList P ops Q []):=h
theorem eu (I:o.guard=none) (h:At E n D ts l (λa w=>o.wp P a w (wpList P ops Q rest) Q)):At E n D ts l (wpList P ops Q (o::rest)):=λa w f hw=>by
 unfold wpList;rw[if_pos (by simp[Region.wanted,I])];exact .inl (h a w f hw)
theorem Ev.wp {op:Op} {v:Value} {φ:World->Prop} (h:Ev P ts op v φ) {a:Act} {w:World} {d:Option Tmp} {ty:TypeId} {pos:String} {af:Array Edge} {g:Option (Nat×Bool)} {K:Act->World->Prop} (k:Knows ts a) (I:φ w) (O:K (a.put d v) w) :
 (Oper.mk d op ty pos af g).wp P a w K Q:=by
 unfold Oper.wp;rw[h a w d ty pos af g k I];exact O
theorem lH {op:Op} {v:Value} {i:Nat} {pos:String} (hi:Nat.blt i n=true) (I:Ev P ts op v φ) (O:∀w,Holds E w l->φ w) (h:At E n D ((i,v)::ts) l (wpList P ops Q rest)) :
 At E n D ts l (wpList P ops Q (⟨some i,op,ty,pos,af,none⟩::rest)):=
 eu rfl λ_a w f hw=>I.wp f.knows (O w hw) (h _ w (f.put i (Nat.le_of_ble_eq_true hi) v) hw)
theorem jG {op:Op} {v:Value} {i:Nat} {pos:String} (hi:Nat.blt i n=true) (I:Ev P ts op v Any) (h:At E n D ((i,v)::ts) l (wpList P ops Q rest)) :
 At E n D ts l (wpList P ops Q (⟨some i,op,ty,pos,af,none⟩::rest)):=lH hi I (λ_ _=>trivial) h
theorem iK {j t:Nat} (I:o.guard=some (j,b)) (O:(ops[j]?).bind (·.dst)=some t) (T:look t ts=some (.bool b)) (h:At E n D ts l (λa w=>o.wp P a w (wpList P ops Q rest) Q)):At E n D ts l (wpList P ops Q (o::rest)):=λa w f hw=>by
 unfold wpList;rw[if_pos (by simp[Region.wanted,I,yielded,O,f.get t _ T])];exact .inl (h a w f hw)
theorem xV {j t i:Nat} {c:Bool} (hd:o.dst=some i) (hi:Nat.blt i n=true) (I:o.guard=some (j,b)) (O:(ops[j]?).bind (·.dst)=some t) (T:look t ts=some (.bool c)) (Y:c=!b) (h:At E n D ((i,undef)::ts) l (wpList P ops Q rest)):At E n D ts l (wpList P ops Q (o::rest)):=λa w f hw=>by
 unfold wpList;rw[if_neg (by subst Y;cases b<;>simp[Region.wanted,I,yielded,O,f.get t _ T]),hd];exact h _ w (f.put i (Nat.le_of_ble_eq_true hi) _) hw
theorem ko {op:Op} {v:Value} {i:Nat} {pos:String} {g:Option (Nat×Bool)} (hi:Nat.blt i n=true) (I:Ev P ts op v φ) (O:∀w,Holds E w l->φ w) (h:At E n D ((i,v)::ts) l K) :
 At E n D ts l (λa w=>(Oper.mk (some i) op ty pos af g).wp P a w K Q):=λ_a w f hw=>I.wp f.knows (O w hw) (h _ w (f.put i (Nat.le_of_ble_eq_true hi) v) hw)
theorem ag {b i:Nat} {cs:Array Value} {I:Nat×Nat} {v:Value} [h:Has b l (.cells cs t I) r] (O:cs[i]?=some v):∀w,Holds E w l->cR ⟨b,i,none⟩ v w:=λw hw=>by
 have:=(hw.ob h.sel).1;simp[cR,World.cell?,this,O]
theorem BY {b i:Nat} {cs:Array Value} {I:Nat×Nat} {vs:List Value} [h:Has b l (.cells cs t I) r] (O:∀j v,vs[j]?=some v->cs[i+j]?=some v):∀w,Holds E w l->jb b i vs w:=λw hw j v T=>by
 have:=(hw.ob h.sel).1;simp[World.cell?,this,O j v T]
theorem Fm {i:Nat} {cs:Array Value} (hd:o.dst=some i) (hi:Nat.blt i n=true)
 (I:(execOp a.eval o).run P w=.ok (.value (.pointer (some ⟨w.heap.size,0,none⟩))) (w.alloc (.cells cs t)))
 (h:∀b,At E n D ((i,.pointer (some ⟨b,0,none⟩))::ts) (blk b t cs::l) K) (f:Fits n D ts a) (hw:Holds E w l):o.wp P a w K Q:=by
 unfold Oper.wp;rw[I];show K (a.put o.dst _) _;rw[hd];exact h _ _ _ (f.put i (Nat.le_of_ble_eq_true hi) _) (hw.alloc _)
def iM (P:Program) (t:TypeId) (z:Value):Prop:=(P.info? t).bind (·.zero)=some z
theorem iS {z:Value} (h:iM P t z) (w:World):(zeroValue t).run P w=.ok z w:=by
 unfold iM at h;cases hi:P.info? t with
 | none=>simp[hi] at h
 | some i=>simp[hi] at h;simp[zeroValue,typeInfo,hi,h]
theorem I8 {i:Nat} {pos:String} {g:Option (Nat×Bool)} {z:Value} (hi:Nat.blt i n=true) (I:iM P t z)
 (h:∀b,At E n D ((i,.pointer (some ⟨b,0,none⟩))::ts) (blk b t z.cells::l) K):At E n D ts l (λa w=>(Oper.mk (some i) (.alloc t) ty pos af g).wp P a w K Q):=λa w f hw=>
 Fm rfl hi (by simp[execOp,Instr.alloc,iS I,newVar,newRow]) h f hw
theorem cL {i:Nat} {pos:String} {g:Option (Nat×Bool)} {x:Operand} {v:Value} (hi:Nat.blt i n=true) (I:ev ts x=some v)
 (h:∀b,At E n D ((i,.pointer (some ⟨b,0,none⟩))::ts) (blk b t v.cells::l) K):At E n D ts l (λa w=>(Oper.mk (some i) (.box t x) ty pos af g).wp P a w K Q):=λa w f hw=>
 Fm rfl hi (by simp[execOp,Instr.box,f.eval I,newVar,newRow]) h f hw
theorem Holds.store {E:Env} {l:List HP} {b i:Nat} {cs:Array Value} {v:Value} (h:Holds E w l) (s:Sel (blk b t cs) l r):Holds E (w.setCell ⟨b,i,none⟩ v) (blk b t (cs.setIfInBounds i v)::r):=by
 have O:=h.sel s;have T:=(h.ob s).1;refine Holds.set (w:=w) O rfl rfl rfl (by simp[World.setCell]) ?_ λk I=>Below.heap_setCell _ _ _ _ (by simpa using I);simp[World.setCell,T,Array.getElem?_modify]
theorem kK {b i:Nat} {cs:Array Value} {v:Value} (I:w.heap[b]?=some (.cells cs t)) (hi:i<cs.size) (O:v.oneCell'=true):(store ⟨b,i,none⟩ v).run P w=.ok () (w.setCell ⟨b,i,none⟩ v):=by
 rw[run_store P w _ _ _ O];simp[World.cell?,World.frozen?,I,hi]
theorem kv {v:Value} (h:v.oneCell'=true):v.cells=#[v]:=by cases v<;>simp_all[Value.oneCell',Value.cells]
theorem cp {pos:String} {g:Option (Nat×Bool)} {x y:Operand} {b i:Nat} {cs:Array Value} {v:Value} [hh:Has b l (.cells cs tb) r]
 (hd:d=none) (O:dm P t 1) (T:ev ts x=some (.pointer (some ⟨b,i,none⟩))) (Y:ev ts y=some v) (I:v.oneCell'=true) (hi:i<cs.size)
 (h:At E n D ts (blk b tb (cs.setIfInBounds i v)::r) K):At E n D ts l (λa w=>(Oper.mk d (.store t x y) ty pos af g).wp P a w K Q):=λa w f hw=>by
 subst hd;have hb:=(hw.ob hh.sel).1;have:(execOp a.eval ⟨none,.store t x y,ty,pos,af,g⟩).run P w=.ok .skip (w.setCell ⟨b,i,none⟩ v):=by
  simp[execOp,f.eval T,f.eval Y,Instr.storeAt,Instr.sureAddr,storeVar,cY O,kv I,storeCells,add_plain,kK hb hi I]
 unfold Oper.wp;rw[this];exact h _ _ f (hw.store hh.sel)
def iO (cs:Array Value) (i:Nat):List Value->Array Value
 | []=>cs
 | v::vs=>iO (cs.setIfInBounds i v) (i+1) vs
theorem ib:∀(vs:List Value) (cs:Array Value) (i:Nat),(iO cs i vs).size=cs.size
 | [],_,_=>rfl
 | v::vs,cs,i=>by simp[iO,ib vs]
theorem jm {b:Nat} {t:TypeId}:∀(vs:List Value) (w:World) (cs:Array Value) (o i:Nat),w.heap[b]?=some (.cells cs t)->o+i+vs.length<=cs.size->(∀v∈vs,v.oneCell'=true)->
 ∃w',(storeCells ⟨b,o,none⟩ vs i).run P w=.ok () w'/\w'.heap[b]?=some (.cells (iO cs (o+i) vs) t)/\w'.os=w.os/\w'.tape=w.tape/\w'.output=w.output/\w'.heap.size=w.heap.size/\(∀k,k≠b->w'.heap[k]?=w.heap[k]?)
 | [],w,cs,o,i,hb,_,_=>⟨w,by simp[storeCells],by simpa[iO] using hb,rfl,rfl,rfl,rfl,λ_ _=>rfl⟩
 | v::vs,w,cs,o,i,hb,hl,hv=>by
  simp only[List.length_cons] at hl;have h1:=kK (P:=P) (i:=o+i) hb ai (hv v cP);have I:(w.setCell ⟨b,o+i,none⟩ v).heap[b]?=some (.cells (cs.setIfInBounds (o+i) v) t):=by simp[World.setCell,hb,Array.getElem?_modify]
  obtain⟨w',Y,h2,h3,h4,h5,h6,h7⟩:=jm vs _ _ o (i+1) I (by simp;omega) (λu T=>hv u (by simp[T]));refine⟨w',?_,?_,h3,h4,h5,by rw[h6];simp[World.setCell],λk O=>(h7 k O).trans (Below.heap_setCell _ _ _ _ (by simpa using O))⟩
  · simp[storeCells,add_plain,h1,Y]
  · rw[h2];simp[iO,Nat.add_assoc]
theorem aZ {pos:String} {g:Option (Nat×Bool)} {x y:Operand} {b i m:Nat} {cs:Array Value} {vs:List Value} [hh:Has b l (.cells cs tb) r]
 (hd:d=none) (I:dm P t m) (O:ev ts x=some (.pointer (some ⟨b,i,none⟩))) (T:ev ts y=some (.agg vs.toArray)) (Y:vs.length=m) (hv:∀v∈vs,v.oneCell'=true) (hi:i+vs.length<=cs.size)
 (h:At E n D ts (blk b tb (iO cs i vs)::r) K):At E n D ts l (λa w=>(Oper.mk d (.store t x y) ty pos af g).wp P a w K Q):=λa w f hw=>by
 subst hd;subst Y;have h0:=hw.sel hh.sel;have hb:=(hw.ob hh.sel).1;obtain⟨w',hr,h2,h3,h4,h5,h6,h7⟩:=jm (P:=P) vs w cs i 0 hb (by simpa using hi) hv;have:(execOp a.eval ⟨none,.store t x y,ty,pos,af,g⟩).run P w=.ok .skip w':=by
  simp[execOp,f.eval O,f.eval T,Instr.storeAt,Instr.sureAddr,storeVar,cY I,Value.cells,hr]
 unfold Oper.wp;rw[this];exact h _ _ f (Holds.set h0 h3 h4 h5 h6 (by simpa using h2) h7)
theorem pU {x:Code} (h:At E n D ts l (x.wp P (Exit.then (y.wp P Q) Q))):At E n D ts l ((Code.seq x y).wp P Q):=λa w f hw=>wp_seq (h a w f hw)
theorem ah (h:At E n D ts l (Q .normal)):At E n D ts l (Code.skip.wp P Q):=λa w f hw=>wp_skip (h a w f hw)
theorem aK {id:Nat} (h:At E n D ts l (Q (.exit id))):At E n D ts l ((Code.exit id).wp P Q):=λa w f hw=>wp_exit (h a w f hw)
theorem an (h:At E n D ts l (Q .ret)):At E n D ts l (Code.ret.wp P Q):=λa w f hw=>wp_ret (h a w f hw)
theorem zg {k:Nat} (h:At E n D ts l (Q .normal)):At E n D ts l ((Code.label k).wp P Q):=λa w f hw=>wp_label (h a w f hw)
theorem aj {id:Nat} {c:Code} (h:At E n D ts l (c.wp P (Exit.inBlock id Q))):At E n D ts l ((Code.block id c).wp P Q):=λa w f hw=>wp_block (h a w f hw)
theorem mz {id:Nat} {os:List Oper} (h:At E n D ts l (wpList P os.toArray Q os)):At E n D ts l ((Code.region id os.toArray false).wp P Q):=λa w f hw=>wp_region_lit (h a w f hw)
theorem dQ {x:Code} (hc:ev ts c=some (.bool b)) (I:b=true->At E n D ts l (x.wp P Q)) (O:b=false->At E n D ts l (y.wp P Q)):At E n D ts l ((Code.cond c x y).wp P Q):=λa w f hw=>
 wp_cond_split (f.eval hc) (λh=>I h a w f hw) (λh=>O h a w f hw)
theorem aA {x:Code} [Decidable p] (hc:ev ts c=some (.bool (decide p))) (I:p->At E n D ts l (x.wp P Q)) (O:¬p->At E n D ts l (y.wp P Q)):At E n D ts l ((Code.cond c x y).wp P Q):=
 dQ hc (λh=>I (of_decide_eq_true h)) (λh=>O (of_decide_eq_false h))
theorem aO {x:Code} (hc:ev ts c=some (.bool true)) (h:At E n D ts l (x.wp P Q)):At E n D ts l ((Code.cond c x y).wp P Q):=λa w f hw=>wp_cond_true (f.eval hc) (h a w f hw)
theorem ak {x:Code} (hc:ev ts c=some (.bool false)) (h:At E n D ts l (y.wp P Q)):At E n D ts l ((Code.cond c x y).wp P Q):=λa w f hw=>wp_cond_false (f.eval hc) (h a w f hw)
theorem sm {p:Nat->Prop} (h:∃m,p m):∃m,p m/\∀k,p k->m<=k:=by
 obtain⟨m,Y⟩:=h
 induction m using Nat.strongRecOn with
 | _ m ih=>
  by_cases I:∃k,k<m/\p k
  · obtain⟨k,O,hp⟩:=I
    exact ih k O hp
  · exact⟨m,Y,λk O=>Nat.le_of_not_lt λT=>I ⟨k,T,O⟩⟩
def xr {X:Type} (n:Nat) (D:List Deferred) (E:Env) (T:X->List (Nat×Value)) (L:X->List HP) (I:X->Prop) (μ:X->Nat) (m:Nat) (Q:Exit->Act->World->Prop):Exit->Act->World->Prop
 | .normal,a,w=>∃x,I x/\μ x<m/\Fits n D (T x) a/\Holds E w (L x)
 | e,a,w=>Q e a w
theorem aL {c:Code} (T:X->List (Nat×Value)) (L:X->List HP) (I:X->Prop) (μ:X->Nat) (Y:X) (h0:I Y) (hs:Sub (T Y) ts) (hl:Ent l (L Y))
 (h:∀x,I x->At E n D (T x) (L x) (c.wp P (xr n D E T L I μ (μ x) Q))):At E n D ts l ((Code.loop c).wp P Q):=λa w f hw=>by
 classical
 let J:Act->World->Nat->Prop:=λa w m=>∃x,I x/\μ x=m/\Fits n D (T x) a/\Holds E w (L x)
 have key:∀m a w,J a w m->(Code.loop c).wp P Q a w:=by
  intro m a w hJ;refine wp_loop (λa w=>∃m,J a w m) (λa w=>if h:∃m,J a w m then Classical.choose (sm h) else 0) ⟨m,hJ⟩ ?_;intro a w d9;obtain⟨hm,f8⟩:=Classical.choose_spec (sm d9);obtain⟨x,hI,hμ,hf,hH⟩:=hm;refine Code.wp_mono ?_ (h x hI a w hf hH);intro e a' w' hq;cases e with
  | normal=>
   obtain⟨x',d6,f7,d7,d8⟩:=hq;have O:∃m,J a' w' m:=⟨μ x',x',d6,rfl,d7,d8⟩;refine⟨O,?_⟩;rw[dif_pos O,dif_pos d9];refine Nat.lt_of_le_of_lt ((Classical.choose_spec (sm O)).2 _ ⟨x',d6,rfl,d7,d8⟩) ?_;rw[<-hμ];exact f7
  | _=>exact hq
 exact key (μ Y) a w ⟨Y,h0,rfl,f.sub hs,hw.ent hl⟩
theorem aC {T:X->List (Nat×Value)} {L:X->List HP} {I:X->Prop} {μ:X->Nat} {m:Nat} (x:X) (O:I x) (Y:μ x<m) (hs:Sub (T x) ts) (hl:Ent l (L x)):At E n D ts l (xr n D E T L I μ m Q .normal):=
 λ_ _ f hw=>⟨x,O,Y,f.sub hs,hw.ent hl⟩
theorem Bu (h:At E n D ts l K):At E n D ts l (Exit.then K Q .normal):=h
theorem av {id:Nat} (h:At E n D ts l (Q (.exit id))):At E n D ts l (Exit.then K Q (.exit id)):=h
theorem aH (h:At E n D ts l (Q .ret)):At E n D ts l (Exit.then K Q .ret):=h
theorem am {id:Nat} (h:At E n D ts l (Q .normal)):At E n D ts l (Exit.inBlock id Q .normal):=h
theorem aJ {id:Nat} (h:At E n D ts l (Q .ret)):At E n D ts l (Exit.inBlock id Q .ret):=h
theorem ao {id:Nat} (h:At E n D ts l (Q .normal)):At E n D ts l (Exit.inBlock id Q (.exit id)):=λa w f hw=>by simpa[Exit.inBlock] using h a w f hw
theorem eX {id k:Nat} (I:Nat.beq k id=false) (h:At E n D ts l (Q (.exit k))):At E n D ts l (Exit.inBlock id Q (.exit k)):=λa w f hw=>by
 have:k≠id:=λe=>by subst e;simp at I
 simpa[Exit.inBlock,this] using h a w f hw
theorem au {T:X->List (Nat×Value)} {L:X->List HP} {I:X->Prop} {μ:X->Nat} {m id:Nat} (h:At E n D ts l (Q (.exit id))):At E n D ts l (xr n D E T L I μ m Q (.exit id)):=h
theorem cu {T:X->List (Nat×Value)} {L:X->List HP} {I:X->Prop} {μ:X->Nat} {m:Nat} (h:At E n D ts l (Q .ret)):At E n D ts l (xr n D E T L I μ m Q .ret):=h
def Does (P:Program) (G:Env->Prop) (f:FuncId) (args:Array Value) (pre:List HP) (R:Value->List HP->Prop):Prop:=
 ∀E w fr,G E->Holds E w (pre++fr)->Calls P f args w λe w'=>∃v m,e=.returned v/\R v m/\Holds E w' (m++fr)
theorem Does.mono {G:Env->Prop} {f:FuncId} {args:Array Value} {pre:List HP} {R R':Value->List HP->Prop} (h:Does P G f args pre R) (O:∀v m,R v m->∃I,R' v I/\Ent m I):Does P G f args pre R':=
 λE w fr T hw=>(h E w fr T hw).mono λ_ _ ⟨v,m,Y,hr,hh⟩=>let⟨I,hr',hm⟩:=O v m hr;⟨v,I,Y,hr',hh.ent (hm.append fr)⟩
def nV (P:Program) (fn:Func) (E:Env) (fr:List HP) (R:Value->List HP->Prop):Exit->Act->World->Prop:=
 bodyPost P fn λe w'=>∃v m,e=.returned v/\R v m/\Holds E w' (m++fr)
def fH:Nat->List Value->List (Nat×Value)
 | _,[]=>[]
 | i,v::vs=>(i,v)::fH (i+1) vs
theorem fJ:∀(vs:List Value) (i:Nat) (j:Nat) (v:Value),look j (fH i vs)=some v->i<=j/\vs[j-i]?=some v
 | [],_,_,_,h=>by simp[fH,look] at h
 | u::vs,i,j,v,h=>by
  simp only[fH,look] at h;cases hb:Nat.beq j i with
  | true=>
   rw[hb] at h;simp at h;have:=Nat.eq_of_beq_eq_true hb;subst this;exact⟨cm _,by simpa using h⟩
  | false=>
   rw[hb] at h;obtain⟨O,I⟩:=fJ vs (i+1) j v h;refine⟨ai,?_⟩;rw[show j-i=(j-(i+1))+1 by omega];simpa using I
theorem Does.body {c:Code} {args:List Value} {R:Value->List HP->Prop} (T:P.funcs[f]?=some fn) (Y:fn.body=some c) (hn:Nat.ble args.length fn.ntmps=true)
 (h:∀E fr,G E->At E fn.ntmps [] (fH 0 args) (pre++fr) (c.wp P (nV P fn E fr R))):Does P G f args.toArray pre R:=by
 intro E w fr hE hw;refine calls_of_wp T Y (h E fr hE _ _ ⟨?_,rfl,?_⟩ hw)
 · have:=Nat.le_of_ble_eq_true hn
   simp;omega
 · intro i v hi
   obtain⟨_,I⟩:=fJ args 0 i v hi;rw[Nat.sub_zero] at I;have O:i<args.length:=(gfGet.1 I).1;simp[Array.getElem?_append,O,(gfGet.1 I).2]
theorem bm {R:Value->List HP->Prop} (m:List HP) (I:fn.results=#[]) (O:R (.tuple #[]) m) (T:Ent l (m++fr)):At E n [] ts l (nV P fn E fr R .normal):=λ_ _ f hw=>
 ⟨f.defers,_,results_none I _ _ _,_,m,rfl,O,hw.ent T⟩
theorem de {R:Value->List HP->Prop} (m:List HP) (I:fn.results=#[]) (O:R (.tuple #[]) m) (T:Ent l (m++fr)):At E n [] ts l (nV P fn E fr R .ret):=λ_ _ f hw=>
 ⟨f.defers,_,results_none I _ _ _,_,m,rfl,O,hw.ent T⟩
theorem jP {i:Nat} {v:Value} (h:a.tmps[i]?=some v):a.tmps.getD i undef=v:=by simp[h]
theorem aw {R:Value->List HP->Prop} {i:Nat} {v:Value} (m:List HP) (I:fn.results=#[.tmp i]) (O:look i ts=some v) (T:R v m) (Y:Ent l (m++fr)):At E n [] ts l (nV P fn E fr R .ret):=λ_ _ f hw=>
 ⟨f.defers,v,by rw[results_tmp I,jP (f.get i v O)],_,m,rfl,T,hw.ent Y⟩
theorem db {R:Value->List HP->Prop} {i j:Nat} {u v:Value} (m:List HP) (I:fn.results=#[.tmp i,.tmp j]) (O:look i ts=some u) (T:look j ts=some v) (Y:R (.tuple #[u,v]) m) (hm:Ent l (m++fr)):At E n [] ts l (nV P fn E fr R .ret):=λ_ _ f hw=>
 ⟨f.defers,_,by rw[results_tmp2 I,jP (f.get i u O),jP (f.get j v T)],_,m,rfl,Y,hw.ent hm⟩
theorem wL {i j k:Tmp} (h:fn.results=#[.tmp i,.tmp j,.tmp k]) (tmps:Array Value) (P:Program) (w:World) :
 (results fn tmps).run P w=.ok (.tuple #[tmps.getD i undef,tmps.getD j undef,tmps.getD k undef]) w:=by
 simp[results,h]
theorem fM {R:Value->List HP->Prop} {i j k:Nat} {u v x:Value} (m:List HP) (I:fn.results=#[.tmp i,.tmp j,.tmp k]) (O:look i ts=some u) (T:look j ts=some v) (Y:look k ts=some x) (hR:R (.tuple #[u,v,x]) m) (hm:Ent l (m++fr)):At E n [] ts l (nV P fn E fr R .ret):=λ_ _ f hw=>
 ⟨f.defers,_,by rw[wL I,jP (f.get i u O),jP (f.get j v T),jP (f.get k x Y)],_,m,rfl,hR,hw.ent hm⟩
def evs (ts:List (Nat×Value)):List Operand->Option (List Value)
 | []=>some []
 | x::xs=>match ev ts x,evs ts xs with
  | some v,some vs=>some (v::vs)
  | _,_=>none
theorem eF {a:Act} (k:Knows ts a):∀{xs:List Operand} {vs:List Value},evs ts xs=some vs->xs.map a.eval=vs
 | [],vs,h=>by simp[evs] at h;subst h;rfl
 | x::xs,vs,h=>by
  simp only[evs] at h
  split at h
  · rename_i v I O T
    injection h with h;subst h;simp[k.eval O,eF k T]
  · cases h
def dX (P:Program) (f:FuncId):Bool:=match P.funcs[f]? with
 | some fn=>fn.body.isSome&&!(fn.name== "runtime.NumGoroutine")
 | none=>false
theorem eA (I:dX P f=true) (args:Array Value) (w:World):(callFunc f args).run P w=.ok (.enter f args) w:=by
 unfold dX at I
 split at I
 · rename_i fn O
   simp only[Bool.and_eq_true,Bool.not_eq_true'] at I;unfold callFunc;simp only[Sem.run_bind,run_program,Result.andThen_ok,O];rw[I.2];simp only[Bool.false_eq_true,if_false];have:fn.body.isNone=false:=by cases h:fn.body<;>simp_all
   rw[this]
   rfl
 · cases I
theorem oL {args:Array Value} {R:Value->List HP->Prop} (I:(execOp a.eval o).run P w=.ok (.enter f args) w) (O:G E) (T:Does P G f args pre R) (hw:Holds E w (pre++fr))
 (Y:∀v m w',R v m->Holds E w' (m++fr)->K (a.put o.dst v) w'):o.wp P a w K Q:=by
 unfold Oper.wp;rw[I];refine(T E w fr O hw).mono λe w' ⟨v,m,he,hR,hm⟩=>?_;subst he;exact Y v m w' hR hm
theorem rI {i:Nat} {pos:String} {g:Option (Nat×Bool)} {at_:Array TypeId} {args:List Value} {R:Value->List HP->Prop} (hi:Nat.blt i n=true)
 (O:dX P f=true) (T:evs ts xs=some args) (Y:G E) (hs:Does P G f args.toArray pre R) (hl:Ent l (pre++fr)) (h:∀v m,R v m->At E n D ((i,v)::ts) (m++fr) K) :
 At E n D ts l (λa w=>(Oper.mk (some i) (.call {callee:=.value (.func f),args:=xs.toArray,argTypes:=at_}) ty pos af g).wp P a w K Q):=λa w I hw=>by
 refine oL (f:=f) (args:=args.toArray) ?_ Y hs (hw.ent hl) λv m w' hR hm=>h v m hR _ w' (I.put i (Nat.le_of_ble_eq_true hi) v) hm;have:=eF I.knows T;simp[execOp,resolve,Deferred.ofValue,Act.eval,invoke,this,eA O]
theorem ct {i:Nat} {pos:String} {g:Option (Nat×Bool)} {x:Operand} {first I:Array Value} {at_:Array TypeId} {args:List Value} {R:Value->List HP->Prop} (hi:Nat.blt i n=true)
 (T:ev ts x=some (.func (.func f) first I)) (Y:dX P f=true) (hx:evs ts xs=some args) (hE:G E) (hs:Does P G f (first++args.toArray++I) pre R) (hl:Ent l (pre++fr)) (h:∀v m,R v m->At E n D ((i,v)::ts) (m++fr) K) :
 At E n D ts l (λa w=>(Oper.mk (some i) (.call {callee:=.value x,args:=xs.toArray,argTypes:=at_}) ty pos af g).wp P a w K Q):=λa w O hw=>by
 refine oL (f:=f) (args:=first++args.toArray++I) ?_ hE hs (hw.ent hl) λv m w' hR hm=>h v m hR _ w' (O.put i (Nat.le_of_ble_eq_true hi) v) hm;have:=eF O.knows hx;simp[execOp,resolve,Deferred.ofValue,O.eval T,invoke,this,eA Y]
end
end
theorem cf {T ts:List (Nat×Value)} (h:Sub T ts:=by repeat (first|exact trivial|refine⟨rfl,?_⟩)):Sub T ts:=h
abbrev gvI (n:Int):Value:=.int .i64 n
abbrev gvN:Value:=.slice none 0 0
abbrev gvS (g n c:Nat):Value:=.slice (some ⟨g,0,none⟩) n c
section
variable {P:Program} {ops:Array Oper} {Q:Exit->Act->World->Prop}
def gE (ops:Array Oper) (j i:Nat):Bool:=
 match ops[j]? with
 | some o=>o.after.any λe=>Region.binds .any e&&e.on==i
 | none=>false
def Sure (P:Program) (ops:Array Oper) (o:Oper) (v:Value) (φ:World->Prop) (a:Act):Prop:=
 (Region.wanted o (yielded ops a.tmps)=true/\∀w,φ w->(execOp a.eval o).run P w=.ok (.value v) w)\/(Region.wanted o (yielded ops a.tmps)=false/\v=undef)
theorem Sure.wpOp {i:Nat} {o:Oper} {v:Value} {φ:World->Prop} {a:Act} (hi:ops[i]?=some o) (O:Sure P ops o v φ a) {K:Act->World->Prop} {w:World} (hw:φ w) (h:K (a.put o.dst v) w):wpOp P ops Q i K a w:=by
 unfold Go.wpOp;simp only[hi];rcases O with⟨I,T⟩|⟨I,rfl⟩
 · simp only[I,if_true,Oper.wp,T w hw,Oper.upon];exact .inl h
 · simp only[I,Bool.false_eq_true,if_false];exact h
theorem yo {j:Nat} {oi I:Oper} (hj:ops[j]?=some I) (T:oi.apart ops I=true) (Y:∀cs b,oi.op≠.select cs b) {K:Act->World->Prop} {a:Act} {w:World} (h:wpOp P ops Q j K a w) :
 wpOp P ops Q j (λa' w'=>K a' w'/\execOp a'.eval oi=execOp a.eval oi/\Region.wanted oi (yielded ops a'.tmps)=Region.wanted oi (yielded ops a.tmps)) a w:=by
 obtain⟨_,_,h3⟩:=Oper.apart_spec T;have keep:∀(b:Act) (u:Value),b.tmps=a.tmps->execOp (b.put I.dst u).eval oi=execOp a.eval oi/\Region.wanted oi (yielded ops (b.put I.dst u).tmps)=Region.wanted oi (yielded ops a.tmps):=λb u hb=>by
  have e1:=execOp_put (ops:=ops) oi Y b I.dst u h3;have e2:=wanted_put (ops:=ops) oi b I.dst u h3;have e3:b.eval=a.eval:=by funext x;cases x<;>simp[Act.eval,hb]
  rw[e1,e2,e3,hb];exact⟨rfl,rfl⟩
 unfold wpOp at *
 simp only[hj] at *
 split
 · rename_i hw
   simp only[hw,if_true] at h;rcases h with h|h
   · refine .inl ?_
     unfold Oper.wp at *
     generalize (execOp a.eval I).run P w=r at *
     cases r with
     | ok n w'=>
      cases n<;>simp only[Oper.upon] at h ⊢<;>first
       | exact⟨h,keep a _ rfl⟩
       | exact⟨h,keep {a with defers:=_} _ rfl⟩
       | exact Calls.mono h (λe d6 O=>by cases e<;>first|exact⟨O,keep a _ rfl⟩|exact O)
       | exact Rows.mono h (λv d6 O=>⟨O,keep a _ rfl⟩)
     | halt x w'=>cases x<;>simp only[Oper.upon] at h ⊢<;>exact h
   · exact .inr h
 · rename_i hw
   simp only[hw] at h;exact⟨h,keep a _ rfl⟩
def fT (P:Program) (ops:Array Oper) (Q:Exit->Act->World->Prop):Nat->Array Bool->List (Nat×(World->Prop))->Act->World->Prop
 | 0,listed,_,a,w=>Region.ready .any ops listed=[]/\Q .normal a w
 | fuel+1,listed,S,a,w=>
  (Region.ready .any ops listed=[]->Q .normal a w)/\
  ∀j∈Region.ready .any ops listed,wpOp P ops Q j (λI w'=>(∀p∈S,gE ops j p.1=false->p.2 w')/\fT P ops Q fuel (listed.setIfInBounds j true) (S.filter λp=>!gE ops j p.1) I w') a w
theorem sX:∀(fuel:Nat) (listed:Array Bool) (S:List (Nat×(World->Prop))) (a:Act) (w:World),fT P ops Q fuel listed S a w->wpAny P .any ops Q fuel listed a w
 | 0,_,_,_,_,h=>h
 | fuel+1,_listed,_S,_a,_w,h=>⟨h.1,λj I=>wpOp_mono (λK w' O=>sX fuel _ _ K w' O.2) (h.2 j I)⟩
theorem qj:∀(fuel:Nat) (listed:Array Bool) (S S':List (Nat×(World->Prop))) (a:Act) (w:World),(∀p∈S',p∈S)->fT P ops Q fuel listed S a w->fT P ops Q fuel listed S' a w
 | 0,_,_,_,_,_,_,h=>h
 | fuel+1,listed,S,S',a,w,hs,h=>⟨h.1,λj K=>wpOp_mono (λO w' ⟨T,Y⟩=>⟨λp I=>T p (hs p I),qj fuel _ _ _ O w' (λp I=>by
  obtain⟨h3,h4⟩:=List.mem_filter.1 I;exact List.mem_filter.2 ⟨hs p h3,h4⟩) Y⟩) (h.2 j K)⟩
theorem sY:∀(fuel:Nat) (listed:Array Bool) (S S':List (Nat×(World->Prop))) (a:Act) (w:World),(∀p∈S',p∈S\/∀w,p.2 w)->fT P ops Q fuel listed S a w->fT P ops Q fuel listed S' a w
 | 0,_,_,_,_,_,_,h=>h
 | fuel+1,listed,S,S',a,w,hs,h=>⟨h.1,λj K=>wpOp_mono (λO w' ⟨T,Y⟩=>⟨λp I hn=>(hs p I).elim (λh=>T p h hn) (λh=>h w'),sY fuel _ _ _ O w' (λp I=>by
  obtain⟨h3,h4⟩:=List.mem_filter.1 I;exact(hs p h3).imp_left λh=>List.mem_filter.2 ⟨h,h4⟩) Y⟩) (h.2 j K)⟩
theorem m8 (fuel:Nat) (listed:Array Bool) (S:List (Nat×(World->Prop))) (i:Nat) (a:Act) (w:World) (h:fT P ops Q fuel listed S a w):fT P ops Q fuel listed ((i,Any)::S) a w:=
 sY fuel listed S _ a w (λp I=>by
  rcases List.mem_cons.1 I with rfl|I
  · exact .inr λ_=>trivial
  · exact .inl I) h
theorem jV {i:Nat} {oi:Oper} {v:Value} {φ:World->Prop} (hi:ops[i]?=some oi) (d7:∀(j:Nat) (o:Oper) cs b,ops[j]?=some o->o.op≠.select cs b)
 (hQ:∀c a w,Q (.panic c) (a.put oi.dst v) w->Q (.panic c) a w) :
 ∀(fuel:Nat) (listed:Array Bool) (S:List (Nat×(World->Prop))) (a:Act) (w:World),
  (∀j oj,ops[j]?=some oj->j≠i->listed.getD j true=false->(∀e∈oj.after,Region.binds .any e=true->e.on≠i)->oi.apart ops oj=true)->
  i∈Region.ready .any ops listed->Sure P ops oi v φ a->φ w->(∀p∈S,p.2 w)->
  fT P ops Q fuel (listed.setIfInBounds i true) ((i,φ)::S) (a.put oi.dst v) w->fT P ops Q (fuel+1) listed S a w:=by
 intro fuel
 induction fuel with
 | zero=>
  intro listed S a w _ hr hy hφ hS H;refine⟨λh=>(by rw[h] at hr;cases hr),λj hj=>?_⟩
  by_cases K:j=i
  · subst K
    exact hy.wpOp hi hφ ⟨λp Y _=>hS p Y,H⟩
  · have:=ready_mono hj K
    rw[H.1] at this;cases this
 | succ fuel ih=>
  intro listed S a w T hr hy hφ hS H;refine⟨λh=>(by rw[h] at hr;cases hr),λj hj=>?_⟩
  by_cases K:j=i
  · subst K
    exact hy.wpOp hi hφ ⟨λp Y _=>hS p Y,qj _ _ _ _ _ _ (λp Y=>List.mem_cons_of_mem _ (List.mem_filter.1 Y).1) H⟩
  · have h1:=H.2 j (ready_mono hj K)
    obtain⟨d8,oj,O,mt⟩:=mem_ready.1 hj;have d9:∀e∈oj.after,Region.binds .any e=true->e.on≠i:=λe he hb t8=>by
     have h1:=mt e he hb;have h0:=(mem_ready.1 hr).1;rw[t8] at h1;rcases Nat.lt_or_ge i listed.size with h'|h'
     · simp[h'] at h0 h1;rw[h0] at h1;cases h1
     · simp[Array.getElem?_eq_none h'] at h1
    have f7:=T j oj O K d8 d9;have hw:gE ops j i=false:=by
     unfold gE;rw[O];simp only[Array.any_eq_false];intro k hk;simp only[Bool.and_eq_true,beq_iff_eq,not_and];exact λhb=>d9 _ (Array.getElem_mem hk) hb
    let I:Oper:=⟨oi.dst,.move (.const v),0,"",#[],none⟩
    have f8:Yields P ops I v a:=.inl ⟨rfl,λw=>by simp[I,execOp,Act.eval]⟩;have t6:I.apart ops oj=true:=by
     simp only[Oper.apart,Bool.and_eq_true] at f7 ⊢;refine⟨f7.1,?_⟩;cases oj.dst<;>simp[I,Oper.looksAt,Op.operands]
    have h2:=wpOp_put (oi:=I) O t6 (λcs b=>by simp[I]) (λcs b=>d7 j oj cs b O) hQ f8 h1;have h3:=yo (oi:=oi) O f7 (λcs b=>d7 i oi cs b hi) h2;have d6:∀k ok,ops[k]?=some ok->k≠i->(listed.setIfInBounds j true).getD k true=false->
     (∀e∈ok.after,Region.binds .any e=true->e.on≠i)->oi.apart ops ok=true:=λk ok hk wf f9 BT=>by
     refine T k ok hk wf ?_ BT
     by_cases t7:j=k
     · subst t7;exact d8
     · rw[getD_set_ne true t7] at f9;exact f9
    refine wpOp_mono (λa' w' ⟨⟨_,h5,h6⟩,h7,h8⟩=>⟨λp Y Fd=>h5 p (List.mem_cons_of_mem _ Y) Fd,?_⟩) h3;refine ih (listed.setIfInBounds j true) _ a' w' d6 (ready_mono hr (Ne.symm K)) ?_ (h5 (i,φ) (List.mem_cons_self ..) hw) ?_ ?_
    · unfold Sure at hy ⊢
      rw[h7,h8];exact hy
    · intro p Y
      obtain⟨h9,In⟩:=List.mem_filter.1 Y;exact h5 p (List.mem_cons_of_mem _ h9) (by simpa using In)
    · rw[Array.setIfInBounds_comm _ _ K]
      simp only[List.filter_cons,hw,Bool.not_false,if_true] at h6;exact h6
def Kept (E:Env) (l:List HP):List (Nat×(World->Prop))->Prop
 | []=>True
 | p::S=>(∀w,Holds E w l->p.2 w)/\Kept E l S
theorem ab {E:Env} {l:List HP}:Kept E l []:=trivial
theorem aa {E:Env} {l:List HP} {i:Nat} {φ:World->Prop} {S:List (Nat×(World->Prop))} (h:∀w,Holds E w l->φ w) (k:Kept E l S):Kept E l ((i,φ)::S):=⟨h,k⟩
theorem Kept.all {E:Env} {l:List HP}:∀{S:List (Nat×(World->Prop))},Kept E l S->∀{w:World},Holds E w l->∀p∈S,p.2 w
 | [],_,_,_,p,hp=>by cases hp
 | q::S,⟨h1,h2⟩,w,hw,p,hp=>by
  rcases List.mem_cons.1 hp with rfl|hp
  · exact h1 w hw
  · exact Kept.all h2 hw p hp
def fe (P:Program) (ops:Array Oper) (Q:Exit->Act->World->Prop) (fuel:Nat) (listed:Array Bool) (S:List (Nat×(World->Prop))) (a:Act) (w:World):Prop:=
 (∀p∈S,p.2 w)->fT P ops Q fuel listed S a w
section
variable {E:Env} {n:Nat} {D:List Deferred} {ts:List (Nat×Value)} {l:List HP} {fuel:Nat} {listed:Array Bool} {S:List (Nat×(World->Prop))}
section
variable {af:Array Edge} {φ:World->Prop} {ty:TypeId}
def bD (Q:Exit->Act->World->Prop):Exit->Act->World->Prop
 | .panic _,_,_=>False
 | e,a,w=>Q e a w
theorem zd {id:Nat} {os:List Oper} (I:P.follows .mixedOrders=true) (h:At E n D ts l (fe P os.toArray (bD Q) os.length (Array.replicate os.length false) [])):At E n D ts l ((Code.region id os.toArray true).wp P Q):=λa w f hw=>by
 refine wp_mono (Q:=bD Q) (wp_region_any I ?_) λe a w h=>by cases e<;>first|exact h|exact h.elim
 simp only[List.size_toArray];exact sX _ _ _ _ _ (h a _ ⟨f.size,f.defers,f.get⟩ (hw.drawn _) (λp K=>by cases K))
theorem Bp (i:Nat) {d:Nat} {op:Op} {pos:String} {v:Value} (Y:Region.noSelect ops=true) (hi:ops[i]?=some ⟨some d,op,ty,pos,af,none⟩) (hd:Nat.blt d n=true)
 (hr:(Region.ready .any ops listed).contains i=true) (hf:Region.free .any ops listed i=true) (I:Ev P ts op v φ) (O:∀w,Holds E w l->φ w)
 (h:At E n D ((d,v)::ts) l (fe P ops (bD Q) fuel (listed.setIfInBounds i true) ((i,φ)::S))):At E n D ts l (fe P ops (bD Q) (fuel+1) listed S):=λa w f hw T=>
 jV hi (Region.noSelect_spec Y) (λ_ _ _ h=>h.elim) fuel listed S a w (Region.free_spec hi hf) (by simpa using hr) (.inl ⟨rfl,λw hw=>I a w _ _ _ _ _ f.knows hw⟩) (O w hw) T
  (h _ w (f.put d (Nat.le_of_ble_eq_true hd) v) hw (λp K=>by
   rcases List.mem_cons.1 K with rfl|K
   · exact O w hw
   · exact T p K))
theorem Br (i:Nat) {d:Nat} {op:Op} {pos:String} {v:Value} (T:Region.noSelect ops=true) (hi:ops[i]?=some ⟨some d,op,ty,pos,af,none⟩) (hd:Nat.blt d n=true)
 (Y:(Region.ready .any ops listed).contains i=true) (hf:Region.free .any ops listed i=true) (I:Ev P ts op v Any)
 (h:At E n D ((d,v)::ts) l (fe P ops (bD Q) fuel (listed.setIfInBounds i true) S)):At E n D ts l (fe P ops (bD Q) (fuel+1) listed S):=λa w f hw K=>by
 have d6:∀p∈(i,Any)::S,p.2 w:=λp O=>by
  rcases List.mem_cons.1 O with rfl|O
  · trivial
  · exact K p O
 refine jV hi (Region.noSelect_spec T) (λ_ _ _ h=>h.elim) fuel listed S a w (Region.free_spec hi hf) (by simpa using Y) (.inl ⟨rfl,λw hw=>I a w _ _ _ _ _ f.knows hw⟩) trivial K ?_;exact m8 fuel _ S i _ w (h _ w (f.put d (Nat.le_of_ble_eq_true hd) v) hw K)
theorem Hj (i:Nat) {_o:Oper} {op:Op} {pos:String} {d j t:Nat} {b:Bool} {v:Value} (Y:Region.noSelect ops=true) (hi:ops[i]?=some ⟨some d,op,ty,pos,af,some (j,b)⟩) (hd:Nat.blt d n=true) (ht:(ops[j]?).bind (·.dst)=some t) (hv:look t ts=some (.bool b))
 (hr:(Region.ready .any ops listed).contains i=true) (hf:Region.free .any ops listed i=true) (I:Ev P ts op v φ) (O:∀w,Holds E w l->φ w)
 (h:At E n D ((d,v)::ts) l (fe P ops (bD Q) fuel (listed.setIfInBounds i true) ((i,φ)::S))):At E n D ts l (fe P ops (bD Q) (fuel+1) listed S):=λa w f hw T=>
 jV hi (Region.noSelect_spec Y) (λ_ _ _ h=>h.elim) fuel listed S a w (Region.free_spec hi hf) (by simpa using hr) (.inl ⟨by simp[Region.wanted,yielded,ht,f.get t _ hv],λw hw=>I a w _ _ _ _ _ f.knows hw⟩) (O w hw) T
  (h _ w (f.put d (Nat.le_of_ble_eq_true hd) v) hw (λp K=>by
   rcases List.mem_cons.1 K with rfl|K
   · exact O w hw
   · exact T p K))
theorem pT (j:Nat) {o:Oper} (hi:ops[j]?=some o) (O:o.guard=none) (I:Region.ready .any ops listed=[j])
 (h:At E n D ts l (λa w=>o.wp P a w (λT w'=>(∀p∈S,gE ops j p.1=false->p.2 w')/\fT P ops (bD Q) fuel (listed.setIfInBounds j true) (S.filter λp=>!gE ops j p.1) T w') (bD Q))) :
 At E n D ts l (fe P ops (bD Q) (fuel+1) listed S):=λa w f hw _=>by
 refine⟨λY=>(by rw[Y] at I;cases I),?_⟩;rw[I];intro k K;simp at K;subst K;unfold wpOp;simp only[hi,Region.wanted,O,if_true];exact .inl (h a w f hw)
theorem fo (j k:Nat) {o u:Oper} (hi:ops[j]?=some o) (T:o.guard=none) (Y:ops[k]?=some u) (hu:u.guard=none) (I:Region.ready .any ops listed=[j,k])
 (h:At E n D ts l (λa w=>o.wp P a w (λK w'=>(∀p∈S,gE ops j p.1=false->p.2 w')/\fT P ops (bD Q) fuel (listed.setIfInBounds j true) (S.filter λp=>!gE ops j p.1) K w') (bD Q)))
 (h':At E n D ts l (λa w=>u.wp P a w (λK w'=>(∀p∈S,gE ops k p.1=false->p.2 w')/\fT P ops (bD Q) fuel (listed.setIfInBounds k true) (S.filter λp=>!gE ops k p.1) K w') (bD Q))) :
 At E n D ts l (fe P ops (bD Q) (fuel+1) listed S):=λa w f hw _=>by
 refine⟨λh0=>(by rw[h0] at I;cases I),?_⟩;rw[I];intro x O;simp at O;unfold wpOp;rcases O with rfl|rfl
 · simp only[hi,Region.wanted,T,if_true]
   exact .inl (h a w f hw)
 · simp only[Y,Region.wanted,hu,if_true]
   exact .inl (h' a w f hw)
def pick:List Bool->List (Nat×(World->Prop))->List (Nat×(World->Prop))
 | true::m,p::S=>p::pick m S
 | false::m,_::S=>pick m S
 | _,_=>[]
theorem m9 {f:Nat->Bool}:∀{S:List (Nat×(World->Prop))} {mask:List Bool},(S.map λp=>f p.1)=mask->(S.filter λp=>f p.1)=pick mask S
 | [],mask,h=>by subst h;rfl
 | p::S,mask,h=>by
  subst h;simp only[List.map_cons,List.filter_cons];cases hf:f p.1 with
  | true=>simp only[if_true,pick];rw[m9 rfl]
  | false=>simp only[Bool.false_eq_true,if_false,pick];rw[m9 rfl]
theorem Bs {j:Nat} (mask:List Bool) (K:(S.map λp=>!gE ops j p.1)=mask) (O:Kept E l (pick mask S)) (h:At E n D ts l (fe P ops (bD Q) fuel (listed.setIfInBounds j true) (pick mask S))) :
 At E n D ts l (λT w'=>(∀p∈S,gE ops j p.1=false->p.2 w')/\fT P ops (bD Q) fuel (listed.setIfInBounds j true) (S.filter λp=>!gE ops j p.1) T w'):=λa w f hw=>by
 have I:=m9 (f:=λi=>!gE ops j i) K;rw[I];have:=O.all hw;refine⟨λp Y hn=>this p ?_,h a w f hw this⟩;rw[<-I];exact List.mem_filter.2 ⟨Y,by simp[hn]⟩
theorem Bt (I:Region.ready .any ops listed=[]) (h:At E n D ts l (Q .normal)):At E n D ts l (fe P ops (bD Q) fuel listed S):=λa w f hw _=>by
 cases fuel with
 | zero=>exact⟨I,h a w f hw⟩
 | succ m=>exact⟨λ_=>h a w f hw,by rw[I];simp⟩
end
end
end
section
variable {P:Program} {E:Env} {n:Nat} {D:List Deferred} {ts:List (Nat×Value)} {l:List HP} {ops:Array Oper} {Q:Exit->Act->World->Prop} {rest:List Oper} {i:Nat} {ty:TypeId} {pos:String} {af:Array Edge}
section
variable {p q:HP} {X:Type} {r:List HP} {tb:TypeId}
theorem aB {fr:List HP} {K:Act->World->Prop} (h:At E n D ts fr K):At E n D ts ([]++fr) K:=h
theorem ae {fr:List HP} {K:Act->World->Prop} (h:At E n D ts (p::fr) K):At E n D ts ([p]++fr) K:=h
theorem az {fr:List HP} {K:Act->World->Prop} (h:At E n D ts (p::q::fr) K):At E n D ts ([p,q]++fr) K:=h
theorem cD {r:HP} {fr:List HP} {K:Act->World->Prop} (h:At E n D ts (p::q::r::fr) K):At E n D ts ([p,q,r]++fr) K:=h
theorem cc {r s:HP} {fr:List HP} {K:Act->World->Prop} (h:At E n D ts (p::q::r::s::fr) K):At E n D ts ([p,q,r,s]++fr) K:=h
theorem bH {r s t:HP} {fr:List HP} {K:Act->World->Prop} (h:At E n D ts (p::q::r::s::t::fr) K):At E n D ts ([p,q,r,s,t]++fr) K:=h
theorem rj {x:Operand} {v:Value} (hi:Nat.blt i n=true) (I:ev ts x=some v) (h:At E n D ((i,v)::ts) l (wpList P ops Q rest)):At E n D ts l (wpList P ops Q (⟨some i,.move x,ty,pos,af,none⟩::rest)):=jG hi (bn I) h
theorem CL {x:Operand} {v:Value} (hi:Nat.blt i n=true) (I:ev ts x=some v) (h:At E n D ((i,v)::ts) l (wpList P ops Q rest)):At E n D ts l (wpList P ops Q (⟨some i,.assign x,ty,pos,af,none⟩::rest)):=jG hi (aQ I) h
theorem CJ {x:Operand} {p:Addr} (hi:Nat.blt i n=true) (I:ev ts x=some (.pointer (some p))) (h:At E n D ((i,.pointer (some p))::ts) l (wpList P ops Q rest)):At E n D ts l (wpList P ops Q (⟨some i,.nilCheck x,ty,pos,af,none⟩::rest)):=jG hi (cv I) h
theorem CK (I:Nat) {s:TypeId} {x:Operand} {j b o:Nat} (hi:Nat.blt i n=true) (O:jT P s j=some I) (T:ev ts x=some (.pointer (some ⟨b,o,none⟩))) (h:At E n D ((i,.pointer (some ⟨b,o+I,none⟩))::ts) l (wpList P ops Q rest)) :
 At E n D ts l (wpList P ops Q (⟨some i,.fieldAddr s x j,ty,pos,af,none⟩::rest)):=jG hi (sy O T) h
theorem aE {t:TypeId} {x:Operand} {b o:Nat} {cs:Array Value} {I:Nat×Nat} {v:Value} [hh:Has b l (.cells cs tb I) r] (hi:Nat.blt i n=true) (hd:j6 P t=some false) (O:ev ts x=some (.pointer (some ⟨b,o,none⟩))) (T:cs[o]?=some v)
 (h:At E n D ((i,v)::ts) l (wpList P ops Q rest)):At E n D ts l (wpList P ops Q (⟨some i,.load t x,ty,pos,af,none⟩::rest)):=lH hi (x7 hd O) (ag T) h
theorem bK {t:TypeId} {x y:Operand} {b o:Nat} {cs:Array Value} {v:Value} [hh:Has b l (.cells cs tb) r] (I:dm P t 1) (O:ev ts x=some (.pointer (some ⟨b,o,none⟩))) (T:ev ts y=some v) (Y:v.oneCell'=true) (hi:o<cs.size)
 (h:At E n D ts (blk b tb (cs.setIfInBounds o v)::r) (wpList P ops Q rest)):At E n D ts l (wpList P ops Q (⟨none,.store t x y,ty,pos,af,none⟩::rest)):=eu rfl (cp rfl I O T Y hi h)
theorem bA {x:Operand} {vs:Array Value} {k:Nat} {v:Value} (I:ev ts x=some (.tuple vs)) (O:vs[k]?=some v):Ev P ts (.extract x k) v Any:=by
 intro a w _ _ _ _ _ T _;simp[execOp,T.eval I,Instr.extract,O]
theorem Jx {x:Operand} {vs:Array Value} {k:Nat} {v:Value} (hi:Nat.blt i n=true) (I:ev ts x=some (.tuple vs)) (O:vs[k]?=some v) (h:At E n D ((i,v)::ts) l (wpList P ops Q rest)):At E n D ts l (wpList P ops Q (⟨some i,.extract x k,ty,pos,af,none⟩::rest)):=jG hi (bA I O) h
theorem bh {t I:TypeId} {x:Operand} {p:Option Addr} {m c:Nat} (O:P.underlying t=some (.slice I)) (T:ev ts x=some (.slice p m c)):Ev P ts (.call {callee:=.builtin .len,args:=#[x],argTypes:=#[t]}) (.int .i64 m) Any:=by
 intro a w _ _ _ _ _ Y _;simp[execOp,resolve,invoke,builtin,Builtin.len_,Y.eval T,run_underlying O,goInt]
theorem CS {t:TypeId} {x:Operand} {s:ByteArray} (I:P.underlying t=some .string) (O:ev ts x=some (.string s)):Ev P ts (.call {callee:=.builtin .len,args:=#[x],argTypes:=#[t]}) (.int .i64 s.size) Any:=by
 intro a w _ _ _ _ _ T _;simp[execOp,resolve,invoke,builtin,Builtin.len_,T.eval O,run_underlying I,goInt]
theorem ed {t:TypeId} {d:TypeDesc} {x:Operand} {v:Value} (I:P.underlying t=some d) (hd:(match d with | .interface _=>true|_=>false)=false) (O:ev ts x=some v):Ev P ts (.makeInterface t x) (.iface t v) Any:=by
 intro a w _ _ _ _ _ T _;simp only[execOp,T.eval O,Instr.makeInterface,Sem.run_bind,run_underlying I,Result.andThen_ok];cases d<;>simp_all
theorem ew {I:Fn} {xs ys:List Operand} {us vs:List Value} (T:evs ts xs=some us) (Y:evs ts ys=some vs):Ev P ts (.makeFunc I xs.toArray ys.toArray) (.func I us.toArray vs.toArray) Any:=by
 intro a w _ _ _ _ _ O _;simp[execOp,Instr.makeFunc,eF O T,eF O Y]
theorem iI {x:Int} (h:-9223372036854775808<=x/\x<=9223372036854775807):IntKind.i64.wrap x=x:=IntWalk.i64_in x h
theorem wu64 {x:Int} (h:0<=x/\x<=18446744073709551615):IntKind.u64.wrap x=x:=IntWalk.u64_in x h
theorem wu8 {x:Int} (h:0<=x/\x<=255):IntKind.u8.wrap x=x:=IntWalk.u8_in x h
theorem wu32 {x:Int} (h:0<=x/\x<=4294967295):IntKind.u32.wrap x=x:=IntWalk.u32_in x h
theorem mM (x:Int):IntKind.u64.wrap x=x%18446744073709551616:=by simp[IntKind.wrap,IntKind.bits,IntKind.signed]
def Kr {X:Type} (n:Nat) (D:List Deferred) (E:Env) (T:X->List (Nat×Value)) (L:X->List HP) (I:X->Prop) (Q:Exit->Act->World->Prop):Exit->Act->World->Prop
 | .normal,a,w=>∃x,I x/\Fits n D (T x) a/\Holds E w (L x)
 | e,a,w=>Q e a w
theorem cT {c:Code} {K:Act->World->Prop} (T:X->List (Nat×Value)) (L:X->List HP) (I:X->Prop) (Y:At E n D ts l (c.wp P (Kr n D E T L I Q))) (h2:∀x,I x->At E n D (T x) (L x) K):At E n D ts l (c.wp P (Exit.then K Q)):=
 λa w f hw=>Code.wp_mono (λe a' w' O=>by
  cases e with
  | normal=>obtain⟨x,hI,hf,hH⟩:=O;exact h2 x hI a' w' hf hH
  | _=>exact O) (Y a w f hw)
theorem bd {T:X->List (Nat×Value)} {L:X->List HP} {I:X->Prop} (x:X) (O:I x) (Y:Sub (T x) ts) (hl:Ent l (L x)):At E n D ts l (Kr n D E T L I Q .normal):=λ_ _ f hw=>⟨x,O,f.sub Y,hw.ent hl⟩
theorem uh {T:X->List (Nat×Value)} {L:X->List HP} {I:X->Prop} (h:At E n D ts l (Q .ret)):At E n D ts l (Kr n D E T L I Q .ret):=h
end
end
section
variable {P:Program} {E:Env} {n:Nat} {D:List Deferred} {ts:List (Nat×Value)} {l:List HP} {ops:Array Oper} {Q:Exit->Act->World->Prop} {fuel:Nat} {listed:Array Bool} {S:List (Nat×(World->Prop))}
def eC (ops:Array Oper) (listed:Array Bool) (i:Nat):Bool:=Region.noSelect ops&&(Region.ready .any ops listed).contains i&&Region.free .any ops listed i
theorem l9 (i:Nat) {d:Nat} {op:Op} {ty:TypeId} {pos:String} {af:Array Edge} {v:Value} (hi:ops[i]?=some ⟨some d,op,ty,pos,af,none⟩) (hd:Nat.blt d n=true) (I:eC ops listed i=true) (O:Ev P ts op v Any)
 (h:At E n D ((d,v)::ts) l (fe P ops (bD Q) fuel (listed.setIfInBounds i true) S)):At E n D ts l (fe P ops (bD Q) (fuel+1) listed S):=by
 simp only[eC,Bool.and_eq_true] at I;exact Br i I.1.1 hi hd I.1.2 I.2 O h
theorem xW (i:Nat) {d:Nat} {op:Op} {ty:TypeId} {pos:String} {af:Array Edge} {v:Value} {φ:World->Prop} (hi:ops[i]?=some ⟨some d,op,ty,pos,af,none⟩) (hd:Nat.blt d n=true) (I:eC ops listed i=true) (O:Ev P ts op v φ) (T:∀w,Holds E w l->φ w)
 (h:At E n D ((d,v)::ts) l (fe P ops (bD Q) fuel (listed.setIfInBounds i true) ((i,φ)::S))):At E n D ts l (fe P ops (bD Q) (fuel+1) listed S):=by
 simp only[eC,Bool.and_eq_true] at I;exact Bp i I.1.1 hi hd I.1.2 I.2 O T h
end
section
variable {P:Program} {E:Env} {n:Nat} {D:List Deferred} {ts:List (Nat×Value)} {l:List HP} {ops:Array Oper} {Q:Exit->Act->World->Prop} {rest:List Oper} {ty:TypeId} {pos:String} {af:Array Edge} {fuel:Nat} {listed:Array Bool} {S:List (Nat×(World->Prop))} {d j t:Nat} {b:Bool} {op:Op} {v:Value} {φ:World->Prop}
theorem Z {α:Sort _} {a:α}:a=a:=rfl
theorem dP (i:Nat) (hi:ops[i]?=some ⟨some d,op,ty,pos,af,none⟩) (hd:Nat.blt d n=true) (I:Ev P ts op v Any) (h:At E n D ((d,v)::ts) l (fe P ops (bD Q) fuel (listed.setIfInBounds i true) S)) (O:eC ops listed i=true:=by kernel_rfl):At E n D ts l (fe P ops (bD Q) (fuel+1) listed S):=l9 i hi hd O I h
theorem dR (j:Nat) {o:Oper} (hi:ops[j]?=some o) (I:o.guard=none) (h:At E n D ts l (λa w=>o.wp P a w (λT w'=>(∀p∈S,gE ops j p.1=false->p.2 w')/\fT P ops (bD Q) fuel (listed.setIfInBounds j true) (S.filter λp=>!gE ops j p.1) T w') (bD Q))) (O:Region.ready .any ops listed=[j]:=by kernel_rfl):At E n D ts l (fe P ops (bD Q) (fuel+1) listed S):=pT j hi I O h
theorem dE (h:At E n D ts l (Q .normal)) (I:Region.ready .any ops listed=[]:=by kernel_rfl):At E n D ts l (fe P ops (bD Q) fuel listed S):=Bt I h
theorem dK (mask:List Bool) (I:Kept E l (pick mask S)) (h:At E n D ts l (fe P ops (bD Q) fuel (listed.setIfInBounds j true) (pick mask S))) (O:(S.map λp=>!gE ops j p.1)=mask:=by kernel_rfl):At E n D ts l (λT w'=>(∀p∈S,gE ops j p.1=false->p.2 w')/\fT P ops (bD Q) fuel (listed.setIfInBounds j true) (S.filter λp=>!gE ops j p.1) T w'):=Bs mask O I h
end
section
variable {P:Program} {E:Env} {n:Nat} {D:List Deferred} {ts:List (Nat×Value)} {l:List HP} {ops:Array Oper} {Q:Exit->Act->World->Prop} {rest:List Oper} {i:Nat} {ty:TypeId} {pos:String} {af:Array Edge} {v:Value} {x:Operand} {y:Code} {K:Act->World->Prop} {id:Nat} {os:List Oper}
theorem sQ {x:Code} (h:At E n D ts l (x.wp P (Exit.then (y.wp P Q) Q))):At E n D ts l ((Code.seq x y).wp P Q):=pU h
theorem sG (h:At E n D ts l (wpList P os.toArray Q os)):At E n D ts l ((Code.region id os.toArray false).wp P Q):=mz h
theorem sS (h:At E n D ts l (wpList P os.toArray (Exit.then (y.wp P Q) Q) os)):At E n D ts l ((Code.seq (Code.region id os.toArray false) y).wp P Q):=pU (mz h)
theorem sN (h:At E n D ts l K):At E n D ts l (wpList P ops (Exit.then K Q) []):=h
theorem sT (h:At E n D ts l K):At E n D ts l (Exit.then K Q .normal):=h
theorem sM (I:ev ts x=some v) (h:At E n D ((i,v)::ts) l (wpList P ops Q rest)) (hi:Nat.blt i n=true:=by kernel_rfl):At E n D ts l (wpList P ops Q (⟨some i,.move x,ty,pos,af,none⟩::rest)):=rj hi I h
theorem sA (I:ev ts x=some v) (h:At E n D ((i,v)::ts) l (wpList P ops Q rest)) (hi:Nat.blt i n=true:=by kernel_rfl):At E n D ts l (wpList P ops Q (⟨some i,.assign x,ty,pos,af,none⟩::rest)):=CL hi I h
theorem sB (I:ev ts x=some v) (h:At E n D ((i,v)::ts) l K) (hi:Nat.blt i n=true:=by kernel_rfl):At E n D ts l (wpList P ops (Exit.then K Q) [⟨some i,.assign x,ty,pos,af,none⟩]):=CL hi I h
theorem sP {op:Op} (I:Ev P ts op v Any) (h:At E n D ((i,v)::ts) l (wpList P ops Q rest)) (hi:Nat.blt i n=true:=by kernel_rfl):At E n D ts l (wpList P ops Q (⟨some i,op,ty,pos,af,none⟩::rest)):=jG hi I h
theorem sO {o:Oper} (h:At E n D ts l (λa w=>o.wp P a w (wpList P ops Q rest) Q)) (I:o.guard=none:=by kernel_rfl):At E n D ts l (wpList P ops Q (o::rest)):=eu I h
theorem sZ (I:P.follows .mixedOrders=true) (h:At E n D ts l (fe P os.toArray (bD Q) os.length (Array.replicate os.length false) [])):At E n D ts l ((Code.region id os.toArray true).wp P Q):=zd I h
end
section
variable {P:Program} {E:Env} {n:Nat} {D:List Deferred} {ts:List (Nat×Value)} {l:List HP} {ops:Array Oper} {Q:Exit->Act->World->Prop} {rest:List Oper} {i:Nat} {ty:TypeId} {pos:String} {af:Array Edge} {x:Operand} {op:Op} {v:Value} {φ:World->Prop}
theorem eP {p:Prop} (h:p:=by kernel_rfl):p:=h
theorem eg {p:Prop} (h:p:=by rw[iI (by omega)];omega):p:=h
theorem fx {p:Prop} (h:p:=by simp[Value.oneCell']):p:=h
theorem bQ {o:Oper} {j t:Nat} {b c:Bool} (hd:o.dst=some i) (h:At E n D ((i,undef)::ts) l (wpList P ops Q rest)) (hi:Nat.blt i n=true:=by kernel_rfl) (I:o.guard=some (j,b):=by rfl) (O:(ops[j]?).bind (·.dst)=some t:=by rfl) (T:look t ts=some (.bool c):=by rfl) (Y:c=!b:=by rfl):At E n D ts l (wpList P ops Q (o::rest)):=xV hd hi I O T Y h
theorem bX (I:Nat) {s:TypeId} {j b o:Nat} (O:ev ts x=some (.pointer (some ⟨b,o,none⟩))) (h:At E n D ((i,.pointer (some ⟨b,o+I,none⟩))::ts) l (wpList P ops Q rest)) (T:jT P s j=some I:=by rfl) (hi:Nat.blt i n=true:=by kernel_rfl):At E n D ts l (wpList P ops Q (⟨some i,.fieldAddr s x j,ty,pos,af,none⟩::rest)):=CK I hi T O h
theorem dA {p:Addr} (I:ev ts x=some (.pointer (some p))) (h:At E n D ((i,.pointer (some p))::ts) l (wpList P ops Q rest)) (hi:Nat.blt i n=true:=by kernel_rfl):At E n D ts l (wpList P ops Q (⟨some i,.nilCheck x,ty,pos,af,none⟩::rest)):=CJ hi I h
theorem bG {vs:Array Value} {k:Nat} (I:ev ts x=some (.tuple vs)) (O:vs[k]?=some v) (h:At E n D ((i,v)::ts) l (wpList P ops Q rest)) (hi:Nat.blt i n=true:=by kernel_rfl):At E n D ts l (wpList P ops Q (⟨some i,.extract x k,ty,pos,af,none⟩::rest)):=Jx hi I O h
theorem cE (I:Ev P ts op v φ) (O:∀w,Holds E w l->φ w) (h:At E n D ((i,v)::ts) l (wpList P ops Q rest)) (hi:Nat.blt i n=true:=by kernel_rfl):At E n D ts l (wpList P ops Q (⟨some i,op,ty,pos,af,none⟩::rest)):=lH hi I O h
theorem bR {t:TypeId} {b o m:Nat} {vs:List Value} (I:ev ts x=some (.pointer (some ⟨b,o,none⟩))) (hd:j6 P t=some true:=by rfl) (O:dm P t m:=by rfl) (T:vs.length=m:=by rfl):Ev P ts (.load t x) (.agg vs.toArray) (jb b o vs):=pc hd O T I
theorem cX {t:TypeId} {g:Option (Nat×Bool)} {z:Value} {K:Act->World->Prop} (I:iM P t z) (h:∀b,At E n D ((i,.pointer (some ⟨b,0,none⟩))::ts) (blk b t z.cells::l) K) (hi:Nat.blt i n=true:=by kernel_rfl):At E n D ts l (λa w=>(Oper.mk (some i) (.alloc t) ty pos af g).wp P a w K Q):=I8 hi I h
theorem bz {G:Env->Prop} {f:FuncId} {I:Func} {c:Code} {args:List Value} {pre:List HP} {R:Value->List HP->Prop} (O:P.funcs[f]?=some I) (T:I.body=some c) (h:∀E fr,G E->At E I.ntmps [] (fH 0 args) (pre++fr) (c.wp P (nV P I E fr R))) (Y:Nat.ble args.length I.ntmps=true:=by rfl):Does P G f args.toArray pre R:=Does.body O T Y h
theorem aF {t:TypeId} {p:Addr} {v:Value} (I:ev ts x=some (.pointer (some p))) (hd:j6 P t=some false:=by rfl):Ev P ts (.load t x) v (cR p v):=x7 hd I
theorem bL (I:Nat) {s:TypeId} {j b o:Nat} (O:ev ts x=some (.pointer (some ⟨b,o,none⟩))) (h:jT P s j=some I:=by rfl):Ev P ts (.fieldAddr s x j) (.pointer (some ⟨b,o+I,none⟩)) Any:=sy h O
end
section
variable {P:Program} {E:Env} {n:Nat} {D:List Deferred} {ts:List (Nat×Value)} {l:List HP} {ops:Array Oper} {Q:Exit->Act->World->Prop} {rest:List Oper} {i:Nat} {ty:TypeId} {pos:String} {af:Array Edge} {g:Option (Nat×Bool)} {G:Env->Prop} {f:FuncId} {xs:List Operand} {at_:Array TypeId} {args:List Value} {pre fr:List HP} {R:Value->List HP->Prop} {K:Act->World->Prop}
theorem cF (I:evs ts xs=some args) (O:Does P G f args.toArray pre R) (T:Ent l (pre++fr)) (h:∀v m,R v m->At E n D ((i,v)::ts) (m++fr) K) (Y:G E:=by assumption) (hb:dX P f=true:=by kernel_rfl) (hi:Nat.blt i n=true:=by kernel_rfl):At E n D ts l (λa w=>(Oper.mk (some i) (.call {callee:=.value (.func f),args:=xs.toArray,argTypes:=at_}) ty pos af g).wp P a w K Q):=rI hi hb I Y O T h
theorem ch (I:evs ts xs=some args) (O:Does P G f args.toArray pre R) (T:Ent l (pre++fr)) (h:∀v m,R v m->At E n D ((i,v)::ts) (m++fr) (wpList P ops Q rest)) (Y:G E:=by assumption) (hb:dX P f=true:=by kernel_rfl) (hi:Nat.blt i n=true:=by kernel_rfl):At E n D ts l (wpList P ops Q (⟨some i,.call {callee:=.value (.func f),args:=xs.toArray,argTypes:=at_},ty,pos,af,none⟩::rest)):=eu rfl (rI hi hb I Y O T h)
theorem bV {V:Value} {M:List HP} (I:evs ts xs=some args) (O:Does P G f args.toArray pre λv m=>v=V/\m=M) (T:Ent l (pre++fr)) (h:At E n D ((i,V)::ts) (M++fr) (wpList P ops Q rest)) (Y:G E:=by assumption) (hb:dX P f=true:=by kernel_rfl) (hi:Nat.blt i n=true:=by kernel_rfl):At E n D ts l (wpList P ops Q (⟨some i,.call {callee:=.value (.func f),args:=xs.toArray,argTypes:=at_},ty,pos,af,none⟩::rest)):=eu rfl (rI hi hb I Y O T λ_ _ h'=>by obtain⟨rfl,rfl⟩:=h';exact h)
end
section
variable {P:Program} {E:Env} {n:Nat} {D:List Deferred} {ts:List (Nat×Value)} {l:List HP} {ops:Array Oper} {Q:Exit->Act->World->Prop} {rest:List Oper} {ty:TypeId} {pos:String} {af:Array Edge} {fuel:Nat} {listed:Array Bool} {S:List (Nat×(World->Prop))} {d j t i:Nat} {b:Bool} {op:Op} {v:Value} {φ:World->Prop}
theorem dr (i:Nat) (hi:ops[i]?=some ⟨some d,op,ty,pos,af,none⟩) (I:Ev P ts op v Any) (h:At E n D ((d,v)::ts) l (fe P ops (bD Q) fuel (listed.setIfInBounds i true) S)) (hd:Nat.blt d n=true:=by kernel_rfl) (O:eC ops listed i=true:=by kernel_rfl):At E n D ts l (fe P ops (bD Q) (fuel+1) listed S):=l9 i hi hd O I h
theorem iJ (i:Nat) (hi:ops[i]?=some ⟨some d,op,ty,pos,af,none⟩) (I:Ev P ts op v φ) (O:∀w,Holds E w l->φ w) (h:At E n D ((d,v)::ts) l (fe P ops (bD Q) fuel (listed.setIfInBounds i true) ((i,φ)::S))) (hd:Nat.blt d n=true:=by kernel_rfl) (T:eC ops listed i=true:=by kernel_rfl):At E n D ts l (fe P ops (bD Q) (fuel+1) listed S):=xW i hi hd T I O h
theorem cK (j:Nat) {o:Oper} (hi:ops[j]?=some o) (h:At E n D ts l (λa w=>o.wp P a w (λT w'=>(∀p∈S,gE ops j p.1=false->p.2 w')/\fT P ops (bD Q) fuel (listed.setIfInBounds j true) (S.filter λp=>!gE ops j p.1) T w') (bD Q))) (I:o.guard=none:=by rfl) (O:Region.ready .any ops listed=[j]:=by kernel_rfl):At E n D ts l (fe P ops (bD Q) (fuel+1) listed S):=pT j hi I O h
theorem bF (hi:ops[i+1]?=some ⟨some d,op,ty,pos,af,none⟩) (I:Ev P ts op v Any) (h:At E n D ((d,v)::ts) l (fe P ops (bD Q) fuel ((listed.setIfInBounds i true).setIfInBounds (i+1) true) S)) (hd:Nat.blt d n=true:=by kernel_rfl) (O:eC ops (listed.setIfInBounds i true) (i+1)=true:=by kernel_rfl):At E n D ts l (fe P ops (bD Q) (fuel+1) (listed.setIfInBounds i true) S):=l9 (i+1) hi hd O I h
theorem bZ (hi:ops[i+1]?=some ⟨some d,op,ty,pos,af,none⟩) (I:Ev P ts op v φ) (O:∀w,Holds E w l->φ w) (h:At E n D ((d,v)::ts) l (fe P ops (bD Q) fuel ((listed.setIfInBounds i true).setIfInBounds (i+1) true) ((i+1,φ)::S))) (hd:Nat.blt d n=true:=by kernel_rfl) (T:eC ops (listed.setIfInBounds i true) (i+1)=true:=by kernel_rfl):At E n D ts l (fe P ops (bD Q) (fuel+1) (listed.setIfInBounds i true) S):=xW (i+1) hi hd T I O h
theorem tV {o:Oper} (hi:ops[i+1]?=some o) (h:At E n D ts l (λa w=>o.wp P a w (λT w'=>(∀p∈S,gE ops (i+1) p.1=false->p.2 w')/\fT P ops (bD Q) fuel ((listed.setIfInBounds i true).setIfInBounds (i+1) true) (S.filter λp=>!gE ops (i+1) p.1) T w') (bD Q))) (I:o.guard=none:=by rfl) (O:Region.ready .any ops (listed.setIfInBounds i true)=[i+1]:=by kernel_rfl):At E n D ts l (fe P ops (bD Q) (fuel+1) (listed.setIfInBounds i true) S):=pT (i+1) hi I O h
theorem mJ {i:Nat} (I:Ev P ts op v φ) (O:∀w,Holds E w l->φ w) (h:At E n D ((i,v)::ts) l (wpList P ops Q rest)) (T:(ops[j]?).bind (·.dst)=some t:=by rfl) (Y:look t ts=some (.bool b):=by rfl) (hi:Nat.blt i n=true:=by kernel_rfl):At E n D ts l (wpList P ops Q (⟨some i,op,ty,pos,af,some (j,b)⟩::rest)):=iK rfl T Y (ko hi I O h)
theorem eJ {i:Nat} (I:Ev P ts op v Any) (h:At E n D ((i,v)::ts) l (wpList P ops Q rest)) (O:(ops[j]?).bind (·.dst)=some t:=by rfl) (T:look t ts=some (.bool b):=by rfl) (hi:Nat.blt i n=true:=by kernel_rfl):At E n D ts l (wpList P ops Q (⟨some i,op,ty,pos,af,some (j,b)⟩::rest)):=iK rfl O T (ko hi I (λ_ _=>trivial) h)
end
section
variable {P:Program} {E:Env} {n:Nat} {D:List Deferred} {ts:List (Nat×Value)} {l:List HP} {ops:Array Oper} {Q:Exit->Act->World->Prop} {rest:List Oper} {ty ty' ty2 s t0:TypeId} {pos pos' pos2:String} {af af' af2:Array Edge} {fuel:Nat} {listed:Array Bool} {S:List (Nat×(World->Prop))} {d d1 j t i i1 i2 i3 b o id:Nat} {bb:Bool} {op:Op} {v:Value} {φ:World->Prop} {x:Operand} {y:Code} {os:List Oper}
theorem cJ (hi:ops[i+1]?=some ⟨some d,.move x,ty,pos,af,none⟩) (I:ev ts x=some v) (h:At E n D ((d,v)::ts) l (fe P ops (bD Q) fuel ((listed.setIfInBounds i true).setIfInBounds (i+1) true) S)) (hd:Nat.blt d n=true:=by kernel_rfl) (O:eC ops (listed.setIfInBounds i true) (i+1)=true:=by kernel_rfl):At E n D ts l (fe P ops (bD Q) (fuel+1) (listed.setIfInBounds i true) S):=l9 (i+1) hi hd O (bn I) h
theorem eI (hi:ops[0]?=some ⟨some d,.move x,ty,pos,af,none⟩) (I:ev ts x=some v) (h:At E n D ((d,v)::ts) l (fe P ops (bD Q) fuel (listed.setIfInBounds 0 true) S)) (hd:Nat.blt d n=true:=by kernel_rfl) (O:eC ops listed 0=true:=by kernel_rfl):At E n D ts l (fe P ops (bD Q) (fuel+1) listed S):=l9 0 hi hd O (bn I) h
theorem dv (I:Nat) (O:ops[i+1]?=some ⟨some d1,.nilCheck x,ty,pos,af,none⟩) (T:ev ts x=some (.pointer (some ⟨b,o,none⟩))) (Y:ops[i+1+1]?=some ⟨some d,.fieldAddr s (.tmp d1) j,ty',pos',af',none⟩) (h:At E n D ((d,.pointer (some ⟨b,o+I,none⟩))::(d1,.pointer (some ⟨b,o,none⟩))::ts) l (fe P ops (bD Q) fuel (((listed.setIfInBounds i true).setIfInBounds (i+1) true).setIfInBounds (i+1+1) true) S)) (hf:jT P s j=some I:=by rfl) (e1:Nat.blt d1 n=true:=by kernel_rfl) (e2:Nat.blt d n=true:=by kernel_rfl) (m1:eC ops (listed.setIfInBounds i true) (i+1)=true:=by kernel_rfl) (m2:eC ops ((listed.setIfInBounds i true).setIfInBounds (i+1) true) (i+1+1)=true:=by kernel_rfl):At E n D ts l (fe P ops (bD Q) (fuel+1+1) (listed.setIfInBounds i true) S):=l9 (i+1) O e1 m1 (cv T) (l9 (i+1+1) Y e2 m2 (sy hf (by simp[ev,look])) h)
theorem dS (I:Nat) {u:Value} {y:Operand} (O:ev ts x=some u) (T:ev ((i1,u)::ts) y=some (.pointer (some ⟨b,o,none⟩))) (h:At E n D ((i3,.pointer (some ⟨b,o+I,none⟩))::(i2,.pointer (some ⟨b,o,none⟩))::(i1,u)::ts) l (wpList P ops Q rest)) (Y:jT P s j=some I:=by rfl) (e1:Nat.blt i1 n=true:=by kernel_rfl) (e2:Nat.blt i2 n=true:=by kernel_rfl) (e3:Nat.blt i3 n=true:=by kernel_rfl):At E n D ts l (wpList P ops Q (⟨some i1,.move x,ty,pos,af,none⟩::⟨some i2,.nilCheck y,ty',pos',af',none⟩::⟨some i3,.fieldAddr s (.tmp i2) j,ty2,pos2,af2,none⟩::rest)):=rj e1 O (CJ e2 T (CK I e3 Y (by simp[ev,look]) h))
theorem bg (I:ev ts x=some v) (h:At E n D ((i,v)::ts) l (wpList P (⟨some i,.move x,ty,pos,af,none⟩::os).toArray (Exit.then (y.wp P Q) Q) os)) (hi:Nat.blt i n=true:=by kernel_rfl):At E n D ts l ((Code.seq (Code.region id (⟨some i,.move x,ty,pos,af,none⟩::os).toArray false) y).wp P Q):=pU (mz (rj hi I h))
theorem cG {u:Value} (O:ev ts x=some u) (I:Ev P ((i1,u)::ts) op v Any) (h:At E n D ((i2,v)::(i1,u)::ts) l (wpList P ops Q rest)) (e1:Nat.blt i1 n=true:=by kernel_rfl) (e2:Nat.blt i2 n=true:=by kernel_rfl):At E n D ts l (wpList P ops Q (⟨some i1,.move x,ty,pos,af,none⟩::⟨some i2,op,ty',pos',af',none⟩::rest)):=rj e1 O (jG e2 I h)
theorem iC (I:ev ts x=some v) (h:At E n D ((i,v)::ts) l (wpList P ops Q rest)) (O:(ops[j]?).bind (·.dst)=some t:=by rfl) (T:look t ts=some (.bool bb):=by rfl) (hi:Nat.blt i n=true:=by kernel_rfl):At E n D ts l (wpList P ops Q (⟨some i,.move x,ty,pos,af,some (j,bb)⟩::rest)):=iK rfl O T (ko hi (bn I) (λ_ _=>trivial) h)
end
def row (e:TypeId) (size:Nat) (v:Value) (n:Nat) (xs:List Value):HP where
 sat w F:=w.ownsRow 0 e size v n xs/\∀k,v.ownBlock=some k->F k
 loc {w w' F G} hFG hk h:=by
  obtain⟨⟨Y,O⟩,h3⟩:=h;refine⟨⟨Y,?_⟩,λk I=>hFG _ (h3 k I)⟩;rcases O with O|⟨g,cap,T,rfl,hb,hg,rest⟩
  · exact .inl O
  · exact .inr ⟨g,cap,T,rfl,hb,(hk g (h3 g Z)).trans hg,rest⟩
theorem Ent.row0 {e:TypeId} {size:Nat} {l:List HP}:Ent l (row e size (.slice none 0 0) 0 []::l):=λw F s=>
 ⟨λ_=>False,F,λ_ h=>h.elim,λ_ h=>h,λ_ h=>h.elim,⟨World.ownsRow_nil _ _ _ _,λk I=>by simp[Value.ownBlock] at I⟩,s⟩
section
variable {P:Program} {E:Env} {n:Nat} {D:List Deferred} {ts:List (Nat×Value)} {l:List HP} {ops:Array Oper} {Q:Exit->Act->World->Prop} {rest:List Oper} {i:Nat} {ty:TypeId} {pos:String} {af:Array Edge} {g:Option (Nat×Bool)}
section
variable {r r':List HP} {K:Act->World->Prop} {e t:TypeId} {w:World} {A:Option Addr} {f:FuncId}
theorem Holds.row {size:Nat} {v:Value} {m:Nat} {xs:List Value} (h:Holds E w l) (s:Sel (row e size v m xs) l r):w.ownsRow 0 e size v m xs:=by
 obtain⟨F1,F2,O,_,_,I,_⟩:=(h.sel s).star;exact I.1
theorem nk {w':World} {e':TypeId} {size I:Nat} {v v':Value} {m m':Nat} {xs T:List Value} (h:Holds E w (SL.row e size v m xs::r)) (Y:w.grownBy w' v.ownBlock) (ho:w'.ownsRow 0 e' I v' m' T)
 (hm:v'.ownBlock=v.ownBlock\/∃k,v'.ownBlock=some k/\w.heap.size<=k):Holds E w' (SL.row e' I v' m' T::r):=by
 refine h.turn Y.os Y.tape Y.output Y.size λF1 hp hF=>⟨λk=>v'.ownBlock=some k,λk O=>⟨?_,(ho.lt k O).2⟩,⟨ho,λk O=>O⟩,λk O d6=>Y.block k O λd7=>d6 (hp.2 k d7.symm)⟩;rcases hm with hm|⟨j,hj,d8⟩
 · exact .inl (hp.2 k (hm▸O))
 · rw[hj] at O
   injection O with O;subst O;exact .inr d8
def fV (P:Program) (e:TypeId) (z:Value) (size bytes:Nat):Prop:=(P.info? e).map (λi=>(i.zero,i.size,i.bytes))=some (some z,size,bytes)
def B8 (A:Option Addr) (news:List Value) (w:World):Prop:=∀I,A=some I->∀j u,news[j]?=some u->w.cell? (I.add j)=some u
theorem run_app_nothing (t O e:TypeId) (j:TypeInfo) (size:Nat) (Y:P.underlying t=some (.slice e)) (hi:P.info? e=some j)
 (v:Value) (m:Nat) (xs:List Value) (I:w.ownsRow 0 e size v m xs) (c:Nat):(Builtin.append_ #[t,t] O #[v,.slice none 0 c]).run P w=.ok v w:=by
 rcases I.2 with⟨rfl,rfl⟩|⟨g,cap,d6,rfl,_,_,T,_⟩
 · simp[Builtin.append_,run_underlying Y,sizeOf,typeInfo,hi,Builtin.lenOf,Builtin.firstCells]
 · simp[Builtin.append_,run_underlying Y,sizeOf,typeInfo,hi,Builtin.lenOf,Builtin.firstCells,T,storeCells]
theorem cU {s x:Operand} {z:Value} {size bytes:Nat} {v:Value} {k:Nat} {xs:List Value} {m c:Nat} {news:List Value} (hi:Nat.blt i n=true) (ht:P.underlying t=some (.slice e)) (f7:fV P e z size bytes) (f8:z.cells.size=size) (f9:0<size)
 (hs:ev ts s=some v) (hx:ev ts x=some (.slice A m c)) (O:Sel (row e size v k xs) l r) (hl:news.length=m*size) (d6:A=none->m=0) (T:∀w,Holds E w l->B8 A news w) (h1:∀u∈news,u.oneCell'=true)
 (d7:k+m<=maxLen) (mt:(k+m)*bytes<=140737488355328)
 (h:∀v',(v'=.slice none 0 0<->v=.slice none 0 0/\m=0)->At E n D ((i,v')::ts) (row e size v' (k+m) (xs++news)::r) K) :
 At E n D ts l (λa w=>(Oper.mk (some i) (.call {callee:=.builtin .append,args:=#[s,x],argTypes:=#[t,t]}) ty pos af g).wp P a w K Q):=λa w f hw=>by
 obtain⟨ti,d8,e0,e1,e2⟩:=info_parts f7;have I:=hw.row O;have Y:=hw.sel O;have d9:=T w hw;have t6:∃v' w',(execOp a.eval (Oper.mk (some i) (.call {callee:=.builtin .append,args:=#[s,x],argTypes:=#[t,t]}) ty pos af g)).run P w=.ok (.value v') w'/\w'.ownsRow 0 e size v' (k+m) (xs++news)/\w.grownBy w' v.ownBlock/\(v'=.slice none 0 0<->v=.slice none 0 0/\m=0)/\(v'.ownBlock=v.ownBlock\/v'.ownBlock=some w.heap.size):=by
  rcases A with _|ad
  · obtain rfl:m=0:=d6 rfl
    obtain rfl:news=[]:=List.eq_nil_of_length_eq_zero (by simpa using hl);have hr:=run_app_nothing (P:=P) (w:=w) t ty e ti size ht d8 v k xs I c;exact⟨v,w,by simp[execOp,resolve,invoke,builtin,f.eval hs,f.eval hx,hr],by simpa using I,World.grownBy.refl w _,by simp,.inl Z⟩
  · obtain⟨v',w',hr,h2,h3,h4,h5⟩:=run_append_own_at (P:=P) w 0 t ty e ti z size bytes ht d8 e0 e1 e2 f8 f9 v k xs I ad m c news hl (d9 ad rfl) h1 d7 mt (Nat.zero_le _)
    exact⟨v',w',by simp[execOp,resolve,invoke,builtin,f.eval hs,f.eval hx,hr],h2,h3,h4,h5⟩
 obtain⟨v',w',hr,h2,h3,h4,h5⟩:=t6;unfold Oper.wp;rw[hr];exact h v' h4 _ w' (f.put i (Nat.le_of_ble_eq_true hi) v')<|nk Y h3 h2 (h5.imp_right λh=>⟨_,h,cm _⟩)
theorem iu {b o:Nat} {tb:TypeId} {cs:Array Value} {O:Nat×Nat} {news:List Value} [h:Has b l (.cells cs tb O) r] (T:∀j u,news[j]?=some u->cs[o+j]?=some u):∀w,Holds E w l->B8 (some ⟨b,o,none⟩) news w:=λw hw ad I j u Y=>by
 injection I with I;subst I;rw[add_plain];exact BY T w hw j u Y
theorem dB {m:Nat} {z:Value} {size:Nat} {ps:List (Nat×Operand)} {vs:List Value} {cs:Array Value} (hi:Nat.blt i n=true) (Y:P.underlying t=some (.slice e)) (hz:dm P e size) (I:iM P e z) (h0:0<m*size) (hm:m*size<=16777216)
 (O:evs ts (ps.map (·.2))=some vs) (T:Instr.fill (λi=>some (i*size,size)) ((Array.range (m*size)).map (z.cells[·%z.cells.size]!)) ((ps.map (·.1)).zip vs)=some cs)
 (h:∀b,At E n D ((i,.slice (some ⟨b,0,none⟩) m m)::ts) (blk b e cs::l) K):At E n D ts l (λa w=>(Oper.mk (some i) (.buildSlice t m ps.toArray) ty pos af g).wp P a w K Q):=λa w f hw=>by
 have hp:(ps.toArray.map λp=>(p.1,a.eval p.2)).toList=(ps.map (·.1)).zip vs:=by
  have:=eF f.knows O;rw[<-this];simp;clear O T this h0 hm
  induction ps with
  | nil=>rfl
  | cons p ps ih=>simp;exact ih
 have hr:(execOp a.eval (Oper.mk (some i) (.buildSlice t m ps.toArray) ty pos af g)).run P w=.ok (.value (.slice (some ⟨w.heap.size,0,none⟩) m m)) (w.alloc (.cells cs e)):=by
  simp only[execOp,Instr.buildSlice,Sem.run_bind,run_underlying Y,Result.andThen_ok,cY hz,hp];rw[if_neg ai,if_neg ai];simp[iS I,T,newRow]
 show(Oper.mk (some i) (.buildSlice t m ps.toArray) ty pos af g).wp P a w K Q;unfold Oper.wp;rw[hr];exact h _ _ _ (f.put i (Nat.le_of_ble_eq_true hi) _)<|hw.alloc _
theorem eE {z:Value} {x:Operand} {v:Value} (hi:Nat.blt i n=true) (O:P.underlying t=some (.slice e)) (T:dm P e 1) (I:iM P e z) (Y:ev ts x=some v) (hv:v.oneCell'=true)
 (h:∀b,At E n D ((i,.slice (some ⟨b,0,none⟩) 1 1)::ts) (blk b e #[v]::l) K):At E n D ts l (λa w=>(Oper.mk (some i) (.buildSlice t 1 #[(0,x)]) ty pos af g).wp P a w K Q):=
 dB (ps:=[(0,x)]) (vs:=[v]) (cs:=#[v]) hi O T I ai ai (by simp[evs,Y]) (by
  have e1:Array.range (1*1)=#[0]:=rfl;rw[e1];simp[Instr.fill,kv hv]) h
theorem KR {xs:List Operand} {at_:Array TypeId} {args:List Value} {R:Value->Prop} (hi:Nat.blt i n=true) (T:dX P f=true) (Y:evs ts xs=some args)
 (hs:∀w,Holds E w l->Calls P f args.toArray w λe w'=>∃v,e=.returned v/\R v/\Below w.heap.size w w') (h:∀v,R v->At E n D ((i,v)::ts) l K) :
 At E n D ts l (λa w=>(Oper.mk (some i) (.call {callee:=.value (.func f),args:=xs.toArray,argTypes:=at_}) ty pos af g).wp P a w K Q):=λa w O hw=>by
 have:=eF O.knows Y;have hr:(execOp a.eval (Oper.mk (some i) (.call {callee:=.value (.func f),args:=xs.toArray,argTypes:=at_}) ty pos af g)).run P w=.ok (.enter f args.toArray) w:=by
  simp[execOp,resolve,Deferred.ofValue,Act.eval,invoke,this,eA T]
 show(Oper.mk (some i) (.call {callee:=.value (.func f),args:=xs.toArray,argTypes:=at_}) ty pos af g).wp P a w K Q;unfold Oper.wp;rw[hr];refine(hs w hw).mono λe w' ⟨v,he,hR,I⟩=>?_;subst he;exact h v hR _ w' (O.put i (Nat.le_of_ble_eq_true hi) v)<|hw.below I
theorem Does.frame {G:Env->Prop} {args:Array Value} {pre:List HP} {R:Value->List HP->Prop} (h:Does P G f args pre R) (c:List HP):Does P G f args (pre++c) λv m=>∃I,R v I/\m=I++c:=λE w fr O hw=>by
 rw[List.append_assoc] at hw;refine(h E w _ O hw).mono λe w' ⟨v,m,T,Y,hh⟩=>⟨v,m++c,T,⟨m,Y,rfl⟩,?_⟩;rw[List.append_assoc];exact hh
theorem gz {p:Addr} {v:Value} (hd:j6 P t=some false) (hc:w.cell? p=some v):(loadVar t p).run P w=.ok v w:=by
 simp[loadVar,kL hd,hc]
theorem wK {b o m:Nat} {vs:List Value} (hd:j6 P t=some true) (I:dm P t m) (O:vs.length=m) (hc:jb b o vs w):(loadVar t ⟨b,o,none⟩).run P w=.ok (.agg vs.toArray) w:=by
 subst O;have:=gP (P:=P) vs 0 #[] (λj v T=>by simpa using hc j v T);simp[loadVar,kL hd,cY I,loadCells,this]
theorem sx {x y:Operand} {k:IntKind} {j len:Nat} {cs:Array Value} {v:Value} (O:P.underlying t=some (.array len e)) (hd:j6 P e=some false) (T:dm P e 1) (Y:ev ts x=some (.agg cs)) (hy:ev ts y=some (.int k (j:Int))) (hj:j<len) (hv:cs[j]?=some v) :
 Ev P ts (.index t x y) v Any:=by
 intro a w _ _ _ _ _ I _;simp[execOp,I.eval Y,I.eval hy,Instr.index,asIntOf,run_underlying O,cY T,part,kL hd,hv];intro h;omega
theorem Ent.sel {p:HP} (s:Sel p l r):Ent l (p::r):=Ent.perm s.perm
theorem aY {p q:HP} (s:Sel p l r) (s':Sel q r r'):Ent l (p::q::r'):=(Ent.sel s).trans (Ent.cons (Ent.sel s'))
theorem dd {p q u:HP} {I:List HP} (s:Sel p l r) (s':Sel q r r') (O:Sel u r' I):Ent l (p::q::u::I):=(Ent.sel s).trans (Ent.cons (aY s' O))
theorem Ent.drop1 {p:HP} (s:Sel p l r):Ent l r:=(Ent.sel s).trans Ent.drop
theorem eG {x:Operand} {lo hi:Option Operand} {len cap a b z:Nat} (ht:P.underlying t=some (.slice e)) (hz:dm P e z) (hx:ev ts x=some (.slice A len cap))
 (I:match lo with|some o=>∃k,ev ts o=some (.int k (a:Int))|none=>a=0) (O:match hi with|some o=>∃k,ev ts o=some (.int k (b:Int))|none=>b=len) (h1:a<=b) (h2:b<=cap) :
 Ev P ts (.slice t x lo hi none) (.slice (if cap=a then A else A.map (·.add (a*z))) (b-a) (cap-a)) Any:=by
 intro ac w _ _ _ _ _ T _;have hb:((b:Int)).toNat=b:=ai;have ha:((a:Int)).toNat=a:=ai;rcases lo with _|lo<;>rcases hi with _|hi
 · simp only at I O
   subst I;subst O;simp[execOp,Instr.sliceAt,Instr.slice,run_underlying ht,T.eval hx,Instr.sliceBounds,cY hz]
 · obtain⟨k,Y⟩:=O
   simp only at I;subst I;simp[execOp,Instr.sliceAt,Instr.slice,run_underlying ht,T.eval hx,T.eval Y,Instr.sliceBounds,Instr.sliceBound,asIntOf,cY hz,h2]
 · obtain⟨k,Y⟩:=I
   simp only at O;subst O;simp[execOp,Instr.sliceAt,Instr.slice,run_underlying ht,T.eval hx,T.eval Y,Instr.sliceBounds,Instr.sliceBound,asIntOf,cY hz,h1]
 · obtain⟨k,Y⟩:=I
   obtain⟨k',d6⟩:=O;simp[execOp,Instr.sliceAt,Instr.slice,run_underlying ht,T.eval hx,T.eval Y,T.eval d6,Instr.sliceBounds,Instr.sliceBound,asIntOf,cY hz,h1,h2]
end
end
section
variable {p q0 q1 q2 q3 q4 q5 q6 q7 q8 q9:HP} {l:List HP}
theorem gfE1:Ent (q0::p::l) (p::q0::l):=Ent.sel (.tail .head)
theorem gfE2:Ent (q0::q1::p::l) (p::q0::q1::l):=Ent.sel (.tail (.tail .head))
theorem gfE3:Ent (q0::q1::q2::p::l) (p::q0::q1::q2::l):=Ent.sel (.tail (.tail (.tail .head)))
theorem gfE4:Ent (q0::q1::q2::q3::p::l) (p::q0::q1::q2::q3::l):=Ent.sel (.tail (.tail (.tail (.tail .head))))
theorem gfE5:Ent (q0::q1::q2::q3::q4::p::l) (p::q0::q1::q2::q3::q4::l):=Ent.sel (.tail (.tail (.tail (.tail (.tail .head)))))
theorem gfE8:Ent (q0::q1::q2::q3::q4::q5::q6::q7::p::l) (p::q0::q1::q2::q3::q4::q5::q6::q7::l):=Ent.sel (.tail (.tail (.tail (.tail (.tail (.tail (.tail (.tail .head))))))))
end
end Go.SL

namespace Go.Y
open Go.Proofs Go.RowKit
theorem wd {k:IntKind} {a b:Int} (h:a=b):Ending.returned (.int k a)=.returned (.int k b):=by rw[h]
def i64 (x:Int):Prop:=-9223372036854775808<=x/\x<=9223372036854775807
def Same (B:Nat) (w w':World):Prop:=∀k,k<B->w'.heap[k]?=w.heap[k]?
theorem Same.cell {B:Nat} {w w':World} (h:Same B w w') {b o:Nat} (E:b<B):w'.cell? ⟨b,o,none⟩=w.cell? ⟨b,o,none⟩:=World.cell?_of_block (w:=w) (h b E)
theorem Same.refl (B:Nat) (w:World):Same B w w:=λ_ _=>rfl
theorem Same.trans {B:Nat} {a b c:World} (h:Same B a b) (k:Same B b c):Same B a c:=λi hi=>(k i hi).trans (h i hi)
theorem Same.mono {B B':Nat} {w w':World} (h:Same B w w') (E:B'<=B):Same B' w w':=λk I=>h k (Nat.lt_of_lt_of_le I E)
theorem _root_.Go.RowKit.Below.to_same {B:Nat} {w w':World} (h:Below B w w'):Same B w w':=h.block
structure IntsAt (w:World) (B:Nat) (A:Option Addr) (c:Nat) (l:List Int):Prop where
 rng:∀x∈l,i64 x
 len:l.length<=c
 cap:c<=9223372036854775807
 cells:0<l.length->∃b off,A=some ⟨b,off,none⟩/\b<B/\∀i x,l[i]?=some x->w.cell? ⟨b,off+i,none⟩=some (.int .i64 x)
structure NodeAt (w:World) (B b off:Nat) (n:FK.Node):Prop where
 c0:w.cell? ⟨b,off,none⟩=some (.int .i64 n.Lz)
 c1:w.cell? ⟨b,off+1,none⟩=some (.int .i64 n.close)
 c2:w.cell? ⟨b,off+2,none⟩=some (.int .i64 n.beat)
 c3:w.cell? ⟨b,off+3,none⟩=some (.int .i64 n.base)
 c4:w.cell? ⟨b,off+4,none⟩=some (.int .i64 n.cap)
 c5:w.cell? ⟨b,off+5,none⟩=some (.int .i64 n.LA)
 c6:∃A c,w.cell? ⟨b,off+6,none⟩=some (.slice A n.after.length c)/\IntsAt w B A c n.after
 rng:i64 n.Lz/\i64 n.close/\i64 n.beat/\i64 n.base/\i64 n.cap/\i64 n.LA
structure NodesAt (w:World) (B:Nat) (A:Option Addr) (c:Nat) (l:List FK.Node):Prop where
 len:l.length<=c
 cap:c<=9223372036854775807
 cells:0<l.length->∃b off,A=some ⟨b,off,none⟩/\b<B/\∀i n,l[i]?=some n->NodeAt w B b (off+i*7) n
section
variable {w w':World} {B B':Nat} {A:Option Addr} {c:Nat}
theorem IntsAt.keep {l:List Int} (h:IntsAt w B A c l) (s:Same B w w'):IntsAt w' B A c l:=by
 obtain⟨T,Y,h2,h3⟩:=h;refine⟨T,Y,h2,λK=>?_⟩;obtain⟨b,E,rfl,I,hc⟩:=h3 K;exact⟨b,E,rfl,I,λi x O=>by rw[s.cell I];exact hc i x O⟩
theorem IntsAt.more {l:List Int} (h:IntsAt w B A c l) (Y:B<=B'):IntsAt w B' A c l:=by
 obtain⟨K,O,T,h3⟩:=h;refine⟨K,O,T,λI=>?_⟩;obtain⟨b,E,rfl,hb,hc⟩:=h3 I;exact⟨b,E,rfl,ai,hc⟩
theorem NodeAt.keep {b I:Nat} {n:FK.Node} (h:NodeAt w B b I n) (s:Same B w w') (E:b<B):NodeAt w' B b I n:=by
 obtain⟨K,O,T,Y,c4,c5,⟨A,c,hv,hi⟩,hr⟩:=h;exact⟨by rw[s.cell E];exact K,by rw[s.cell E];exact O,by rw[s.cell E];exact T,by rw[s.cell E];exact Y,by rw[s.cell E];exact c4,by rw[s.cell E];exact c5,⟨A,c,by rw[s.cell E];exact hv,hi.keep s⟩,hr⟩
theorem NodeAt.more {b E:Nat} {n:FK.Node} (h:NodeAt w B b E n) (I:B<=B'):NodeAt w B' b E n:=by
 obtain⟨K,O,T,Y,c4,c5,⟨A,c,hv,hi⟩,hr⟩:=h;exact⟨K,O,T,Y,c4,c5,⟨A,c,hv,hi.more I⟩,hr⟩
theorem NodesAt.keep {l:List FK.Node} (h:NodesAt w B A c l) (s:Same B w w'):NodesAt w' B A c l:=by
 obtain⟨T,Y,h3⟩:=h;refine⟨T,Y,λK=>?_⟩;obtain⟨b,E,rfl,I,hc⟩:=h3 K;exact⟨b,E,rfl,I,λi x O=>(hc i x O).keep s I⟩
theorem NodesAt.more {l:List FK.Node} (h:NodesAt w B A c l) (I:B<=B'):NodesAt w B' A c l:=by
 obtain⟨T,Y,h3⟩:=h;refine⟨T,Y,λK=>?_⟩;obtain⟨b,E,rfl,hb,hc⟩:=h3 K;exact⟨b,E,rfl,ai,λi x O=>(hc i x O).more I⟩
end
theorem Dh {p:Prop} (h:p:=by repeat (first|assumption|exact Below.refl _ _|refine below_drewN ?_ _|refine Below.drew ?_|refine Below.alloc ?_ (by first|omega|(simp;done)|(simp;omega)) _|refine Below.setCell ?_ (by first|omega|(simp;done)|(simp;omega)) _)):p:=h
theorem Di {p q:Prop} (H:q) (h:q->p:=by intro H;repeat (first|exact H|refine below_drewN ?_ _|refine Below.drew ?_|refine Below.alloc ?_ (by first|omega|(simp;done)|(simp;omega)) _|refine Below.setCell ?_ (by first|omega|(simp;done)|(simp;omega)) _)):p:=h H
theorem Df {p:Prop} (h:p:=by first|decide|(simp[Value.cells];done)|(simp[Value.cells];omega)):p:=h
end Go.Y

namespace Go.Y
open Go.Proofs Go.RowKit
def iB (E I K k seed:Int):Int:=(if k<=1 then E else if k<22 then min I (E*2 ^ (k.toNat-1)) else I)+seed%(K+1)
theorem DX (n:Nat) (h:n<=21):(1:Int)<=2 ^ n/\(2:Int) ^ n<=2097152:=by
 have:∀n:Fin 22,(1:Int)<=2 ^ n.val/\(2:Int) ^ n.val<=2097152:=by decide
 exact this ⟨n,ai⟩
theorem F5 {E:Int} {n:Nat} (I:1<=E) (K:E<=1048576) (O:n<=21):wrap64 (E*2 ^ n)=E*2 ^ n/\1<=E*2 ^ n/\E*2 ^ n<=2199023255552:=by
 have⟨p1,p2⟩:=DX n O;have T:1<=E*2 ^ n:=by have:=Int.mul_le_mul I p1 ai ai;omega
 have Y:E*2 ^ n<=2199023255552:=by have:=Int.mul_le_mul K p2 ai ai;omega
 exact⟨IntWalk.wrap64_in _ ⟨ai,ai⟩,T,Y⟩
theorem oQ {seed E:Int} (I:0<=E) (K:E<=1048576):0<=seed%(E+1)/\seed%(E+1)<=1048576:=by
 have O:=Int.emod_nonneg seed (show E+1≠0 by omega);have T:=Int.emod_lt_of_pos seed (show 0<E+1 by omega);omega
theorem qR (bu cl be I K E:Int) (A:Option Addr) (n c:Nat) (k seed:Int) (w:World)
 (h1:1<=I) (h2:I<=K) (h3:K<=1048576) (h4:0<=E) (h5:E<=1048576) (d7:0<=seed) (hs1:seed<18446744073709551616) :
 Calls Tryz.prog 75 #[.agg #[.int .i64 bu,.int .i64 cl,.int .i64 be,.int .i64 I,.int .i64 K,.int .i64 E,.slice A n c],.int .i64 k,.int .u64 seed] w
  λe w'=>e=.returned (.int .i64 (iB I K E k seed))/\Below w.heap.size w w':=by
 have T:=oQ (seed:=seed) h4 h5;have HW:Hid (wrap64 (seed%(E+1))=seed%(E+1)):=IntWalk.wrap64_in _ ⟨ai,ai⟩
 by_cases O:k<=1
 · have Y:Hid (iB I K E k seed=I+seed%(E+1)):=by unfold iB;rw[if_pos O];rfl
   clear T
   go_enter Tryz.func75,Tryz.ntmps75
   go_wp2
   all_goals
    go_quiet (fail)
    go_wp2
    all_goals
     go_ret
     have T:=oQ (seed:=seed) h4 h5;refine⟨wd ?_,Dh⟩;rw[Y.out,HW.out];rw[IntWalk.wrap64_in _ ⟨ai,ai⟩]
     try omega
 · by_cases d6:k<22
   · have hp:=F5 (n:=k.toNat-1) h1 ai ai
     have HP:=Lib.hid hp;have Y:Hid (iB I K E k seed=min K (I*2 ^ (k.toNat-1))+seed%(E+1)):=by unfold iB;rw[if_neg O,if_pos d6];rfl
     clear T hp
     go_enter Tryz.func75,Tryz.ntmps75
     go_wp2
     go_quiet (fail)
     go_wp2
     all_goals
      go_ret
      have T:=oQ (seed:=seed) h4 h5;have hp:=HP.out;refine⟨wd ?_,Dh⟩;simp only[Y.out,HW.out,hp.1] at *
      rw[IntWalk.wrap64_in _ ⟨ai,ai⟩]
      try omega
   · have Y:Hid (iB I K E k seed=K+seed%(E+1)):=by unfold iB;rw[if_neg O,if_neg d6];rfl
     clear T
     go_enter Tryz.func75,Tryz.ntmps75
     go_wp2
     go_ret
     have T:=oQ (seed:=seed) h4 h5;refine⟨wd ?_,(Below.refl _ _).alloc (cm _) _⟩;rw[Y.out,HW.out];rw[IntWalk.wrap64_in _ ⟨ai,ai⟩]
end Go.Y

namespace Go.Y
open Go.Proofs Go.RowKit
def cw (l:List UInt8):List Value:=l.map λb=>.int .u8 b.toNat
theorem iG (l:List UInt8):(cw l).length=l.length:=by simp[cw]
theorem iH (a b:List UInt8):cw (a++b)=cw a++cw b:=by simp[cw]
def lM (w:World) (base:Nat) (v:Value) (l:List UInt8):Prop:=w.ownsRow base 5 1 v l.length (cw l)
def Moved (B:Nat) (v v':Value):Prop:=v'.ownBlock=v.ownBlock\/∃k,v'.ownBlock=some k/\B<=k
theorem Moved.refl (B:Nat) (v:Value):Moved B v v:=.inl rfl
theorem Moved.trans {B:Nat} {a b c:Value} (h:Moved B a b) (k:Moved B b c):Moved B a c:=by
 rcases k with k|k
 · rcases h with h|⟨x,h,E⟩
   · exact .inl (k.trans h)
   · exact .inr ⟨x,k.trans h,E⟩
 · exact .inr k
theorem Moved.mono {B E:Nat} {a b:Value} (h:Moved B a b) (I:E<=B):Moved E a b:=by
 rcases h with h|⟨x,h,K⟩
 · exact .inl h
 · exact .inr ⟨x,h,ai⟩
theorem Bo {w I K:World} {v O:Value} (h:w.grownBy I v.ownBlock) (m:Moved w.heap.size v O) (k:I.grownBy K O.ownBlock):w.grownBy K v.ownBlock:=by
 refine⟨k.os.trans h.os,k.tape.trans h.tape,k.output.trans h.output,Nat.le_trans h.size k.size,λi hi E=>?_⟩;rw[k.block i (Nat.lt_of_lt_of_le hi h.size) ?_,h.block i hi E];rcases m with m|⟨x,T,Y⟩
 · rw[m];exact E
 · rw[T];intro e;injection e with e;omega
theorem jh:(Tryz.prog.info? 5).map (λi=>(i.zero,i.size,i.bytes))=some (some (.int .u8 0),1,1):=by kernel_rfl
theorem qU:∀(k n:Nat),n<128 ^ k->0<k->(FK.co n).length<=k:=by
 intro k
 induction k with
 | zero=>intro n _ h;omega
 | succ k K=>
  intro n I _
  by_cases h:n<128
  · rw[FK.kg h];simp
  · rw[FK.me h]
    rcases Nat.eq_zero_or_pos k with E|E
    · subst E;simp at I;omega
    · have:=K (n/128) (by rw[Nat.div_lt_iff_lt_mul ai];rwa [Nat.pow_succ] at I) E
      simp;omega
theorem gq {n:Nat} (h:n<18446744073709551616):(FK.co n).length<=10:=qU 10 n (Nat.lt_of_lt_of_le h di) ai
def C8 (w:World) (base:Nat) (v:Value) (l:List UInt8) (e:Ending) (w':World):Prop:=
 ∃v',e=.returned v'/\lM w' base v' l/\w.grownBy w' v.ownBlock/\Moved w.heap.size v v'
theorem xO (m:Nat):(m:Int)%256=((UInt8.ofNat m).toNat:Int):=by
 simp
theorem KO (m:Nat):bits BinOp.or IntKind.u8 ((m:Int)%256) 128=((UInt8.ofNat (m%128+128)).toNat:Int):=by
 have e1:(m:Int)%256=((m%256:Nat):Int):=ai;rw[e1];have:=u8_or_nat (m%256) 128 ai ai;rw[show((128:Int))=((128:Nat):Int) from rfl,this];have key:∀x:Fin 256,x.val|||128=x.val%128+128:=by decide +kernel
 have:=key ⟨m%256,ai⟩;simp only at this;rw[this];have E:m%256%128=m%128:=ai;rw[E];simp;omega
theorem vA {w O T:World} {base:Nat} {v Y I:Value} {l1:List UInt8} {x:UInt8} {y:Int} {o:Obj} (hg:w.grownBy O v.ownBlock) (hm:Moved w.heap.size v Y)
 (E:T.ownsRow base 5 1 I (l1.length+1) (cw l1++[.int .u8 y])) (hy:y=x.toNat) (d6:(O.alloc o).grownBy T Y.ownBlock) (K:I.ownBlock=Y.ownBlock\/I.ownBlock=some (O.heap.size+1)) :
 lM T base I (l1++[x])/\w.grownBy T v.ownBlock/\Moved w.heap.size v I:=by
 subst hy;have hs:=hg.size;refine⟨?_,Bo hg hm ((World.grownBy_alloc O o Y.ownBlock).trans d6),hm.trans ?_⟩
 · unfold lM
   rw[iH,List.length_append];exact E
 · rcases K with h|h
   · exact .inl h
   · exact .inr ⟨_,h,ai⟩
theorem pp (w:World) (base:Nat) (v:Value) (l:List UInt8) (n:Nat) (hn:n<18446744073709551616) (E:lM w base v l) (hl:l.length<=1099511627776) (t6:base<=w.heap.size) :
 Calls Tryz.prog 87 #[v,.int .u64 n] w (C8 w base v (l++FK.co n)):=by
 obtain⟨i0,hi,d6,d7,d8⟩:=info_parts jh;have HL:=Lib.hid (show(l++FK.co n).length<=1099511627786 by have:=gq hn;simp;omega);have f7:=Lib.hid E;have HI:=Lib.hid hi;have f8:=Lib.hid d6;have f9:=Lib.hid d7;have mt:=Lib.hid d8;clear E hi d6 d7 d8
 go_enter Tryz.func87,Tryz.ntmps87
 go_wp2
 go_loopw [0,1] (λt s wr=>∃(T:List UInt8) (m:Nat),s=.int .u64 m/\m<18446744073709551616/\T++FK.co m=l++FK.co n/\lM wr base t T/\w.grownBy wr v.ownBlock/\Moved w.heap.size v t) (λ_ s _=>(RowKit.intOf s).toNat)
 case atStart=>exact⟨l,n,rfl,hn,rfl,f7.out,World.grownBy.refl _ _,.refl _ _⟩
 case round=>
  obtain⟨T,m,rfl,hm,he,E,hg,d9⟩:=hrel;have HE:=Lib.hid he;have HG:=Lib.hid hg;have HM:=Lib.hid d9;have BT:=hg.size;have t8:T.length<=1099511627786:=by
   have:=congrArg List.length he;have h2:=HL.out;simp at this h2;omega
  clear he hg d9
  by_cases wf:127<m
  · have t7:=KO m
    have HN:=Lib.hid (FK.me (n:=m) ai);obtain⟨x,hx⟩:∃x:UInt8,x=UInt8.ofNat (m%128+128):=⟨_,rfl⟩;rw[<-hx] at t7 HN;clear hx
    go_wp2_with (at_builtin;go_must (refine wpList_append_own_at _ rfl (.tmp 9) (.tmp 13) 61 rfl base 5 i0 (.int .u8 0) 1 1 Tryz.underlying61 HI.out f8.out f9.out mt.out rfl di u0 T.length (cw T) rfl (World.ownsRow.alloc E _) ⟨wr.heap.size,0,none⟩ 1 1 [.int .u8 x.toNat] rfl rfl (cell_one_new _ _ _) (by simp[Value.oneCell']) (by unfold maxLen;omega) ai (by simp;omega) ?_);intro v2 w2 I O _ K)
    obtain⟨h1,h2,h3⟩:=vA HG.out HM.out I rfl O (by simpa using K);have H1:=Lib.hid h1;have H2:=Lib.hid h2;have H3:=Lib.hid h3;clear h1 h2 h3 I O K E
    go_roundw
    case rel=>exact⟨T++[x],m/128,by go_num,ai,by rw[<-HE.out,HN.out];simp,H1.out,H2.out,H3.out⟩
    case measure=>simp[RowKit.intOf];omega
  · have Y:=xO m
    have HN:=Lib.hid (FK.kg (n:=m) ai);obtain⟨x,hx⟩:∃x:UInt8,x=UInt8.ofNat m:=⟨_,rfl⟩;rw[<-hx] at Y HN;have hy:(m:Int)=x.toNat:=ai;have HY:=Lib.hid hy;clear hx Y hy
    go_wp2_with (at_builtin;go_must (refine wpList_append_own_at _ rfl (.tmp 15) (.tmp 18) 61 rfl base 5 i0 (.int .u8 0) 1 1 Tryz.underlying61 HI.out f8.out f9.out mt.out rfl di u0 T.length (cw T) rfl (World.ownsRow.alloc E _) ⟨wr.heap.size,0,none⟩ 1 1 [.int .u8 (m:Int)] rfl rfl (cell_one_new _ _ _) (by simp[Value.oneCell']) (by unfold maxLen;omega) ai (by simp;omega) ?_);intro v2 w2 I O _ K)
    obtain⟨h1,h2,h3⟩:=vA HG.out HM.out I HY.out O (by simpa using K);have H1:=Lib.hid h1;have H2:=Lib.hid h2;have H3:=Lib.hid h3;clear h1 h2 h3 I O K E
    go_wp2
    go_ret
    exact⟨v2,rfl,by rw[<-HE.out,HN.out];exact H1.out,H2.out,H3.out⟩
end Go.Y

namespace Go.Y
open Go.Proofs Go.RowKit
def Tab (w:World):Prop:=TabAt 2 Lib.deBruijn64tab w
theorem Tab.keep {B:Nat} {w w':World} (h:Tab w) (s:Same B w w') (E:2<B):Tab w':=λj I=>by rw[s.cell E];exact h j I
theorem Ds (x k idx:Nat) (w:World) (I:((x:Int)==0)=false)
 (key:IntKind.u64.wrap (bits BinOp.and IntKind.u64 (x:Int) (IntKind.u64.wrap (-(x:Int)))*285870213051353865)/288230376151711744=(idx:Int))
 (hi:idx<64) (K:k<64) (E:w.cell? ⟨2,idx,none⟩=some (.int .u8 k)) :
 Calls Tryz.prog 149 #[.int .u64 x] w λe w'=>e=.returned (.int .i64 k)/\w=w':=by
 go_enter Tryz.func149,Tryz.ntmps149
 go_wp2_with (simp only[key])
 go_ret
 exact⟨rfl,rfl⟩
theorem tc (x:Nat) (T:x<18446744073709551616) (I:x≠0) (w:World) (hT:Tab w) :
 Calls Tryz.prog 149 #[.int .u64 x] w λe w'=>e=.returned (.int .i64 (Lib.ctz 64 x))/\w=w':=by
 obtain⟨K,Y⟩:=Lib.lowest_bit 64 x I T;obtain⟨hi,O⟩:=Lib.deBruijn64_at _ Y;have E:=hT _ hi;rw[O] at E;exact Ds x _ _ w (by simp;omega) (tz64_key x _ T I K) hi Y E
theorem rT (x:Nat) (I:x<18446744073709551616) (E:x≠0) (w:World) (K:Tab w) :
 Calls Tryz.prog 109 #[.int .u64 x] w λe w'=>e=.returned (.int .i64 (Lib.ctz 64 x))/\w=w':=by
 have H:=Lib.hid (tc x I E);clear I
 go_enter Tryz.func109,Tryz.ntmps109
 go_wp2_with (go_at_call 149;refine(H.out _ K).mono ?_;rintro e w' ⟨rfl,rfl⟩)
 go_ret
 exact⟨rfl,rfl⟩
theorem rx (x:Nat) (O:x<18446744073709551616) (E:x≠0):x.testBit (Lib.ctz 64 x)=true/\(∀j,j<Lib.ctz 64 x->x.testBit j=false)/\Lib.ctz 64 x<64:=by
 unfold Lib.ctz;rw[if_neg E];obtain⟨m,I,K⟩:=Lib.ctzFrom_spec 64 x ai (by simpa using O)
 generalize Lib.ctzFrom 64 x=t at I K ⊢
 refine⟨?_,?_,K⟩
 · rw[I,Nat.mul_comm,Nat.testBit_mul_two_pow,Nat.sub_self,Nat.testBit_zero];simp
 · intro j T
   rw[I,Nat.mul_comm,Nat.testBit_mul_two_pow];simp;omega
end Go.Y
