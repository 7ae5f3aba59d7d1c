/- The engine in plain data: how one run goes on. -/
import Derived.Test.YtkckgjpkkbkkgaaGreatDoorCoA
namespace FK
def lm (R:Rn) (k:Nat):Prop:=∀u∈fP R.fl.Lw k,df R.Lv u 5=true
theorem isAt_iff {l:List Sp} {k:Nat} {x:Int}:df l k x=true<->∃s,l[k]?=some s/\s.state=x:=by
 constructor
 · exact wu
 · rintro⟨s,E,I⟩
   rw[gc E];simpa using I
theorem o9 {R:Rn} {k:Nat} {s:Sp} (O:R.Lv[k]?=some s) (Y:R.Lv.length=R.fl.Lw.length):fA R k=true<->s.state=1/\lm R k:=by
 have hk:=(gfGet.1 O).1;have T:R.fl.Lw[k]?=some (R.fl.Lw[k]'ai):=List.getElem?_eq_getElem _;rw[nK O T];unfold lm;rw[FZ T];simp only[Bool.and_eq_true,beq_iff_eq,List.all_eq_true,List.mem_map];constructor
 · rintro⟨I,K⟩
   exact⟨I,λu ⟨x,E,e⟩=>by rw[<-e];exact K x E⟩
 · rintro⟨I,K⟩
   exact⟨I,λx E=>K _ ⟨x,E,rfl⟩⟩
structure Hon0 (R:Rn):Prop where
 up:∀(k:Nat) (s:Sp),R.Lv[k]?=some s->(2<=s.state/\s.state<=6)->lm R k
 wt:R.state=1->∀(k:Nat) (s:Sp),R.Lv[k]?=some s->s.state=1->¬lm R k
 sk:R.state=1->∀(k:Nat) (s:Sp),R.Lv[k]?=some s->s.state=1->∀u∈fP R.fl.Lw k,df R.Lv u 6=false/\df R.Lv u 7=false
structure Hon (R:Rn):Prop where
 h0:Hon0 R
 go:R.state=1->∃(k:Nat) (s:Sp),R.Lv[k]?=some s/\over s=false
 all:R.state=2->∀(k:Nat) (s:Sp),R.Lv[k]?=some s->s.state=5
 lost:R.state≠1->R.state≠2->∃(k:Nat) (s:Sp),R.Lv[k]?=some s/\s.state≠5
theorem over_iff {s:Sp}:over s=true<->s.state=5\/s.state=6\/s.state=7:=by
 unfold over;simp only[Bool.or_eq_true,beq_iff_eq];omega
theorem sh {s:Sp}:over s=false<->s.state≠5/\s.state≠6/\s.state≠7:=by
 rw[<-Bool.not_eq_true,over_iff];omega
structure Nx (s s':Sp):Prop where
 Lu:s'.Lu=s.Lu
 ov:over s=true->s'.state=s.state
 w3:s'.state=3->s'=s
 w4:s'.state=4->s.state=4
 w2:s'.state=2->s.state=2\/s.state=1
 w1:s'.state=1->s.state=1
section
variable {s:Sp} {R:Rn} {n:Nat}
theorem Nx.refl (s:Sp):Nx s s:=⟨rfl,λ_=>rfl,λ_=>rfl,λh=>h,λh=>.inl h,λh=>h⟩
theorem Nx.trans {a b c:Sp} (h:Nx a b) (k:Nx b c):Nx a c:=⟨k.Lu.trans h.Lu,λE=>(k.ov (by have:=h.ov E;rw[over_iff] at E ⊢;omega)).trans (h.ov E),λe=>by
 have e2:=k.w3 e;rw[e2];exact h.w3 (by rw[<-e2];exact e),λe=>h.w4 (k.w4 e),λe=>by
 rcases k.w2 e with e|e
 · exact h.w2 e
 · exact .inr (h.w1 e),λe=>h.w1 (k.w1 e)⟩
theorem J1 (h:s.state=1):Nx s {s with state:=2}:=⟨rfl,λE=>by rw[over_iff] at E;omega,λe=>by replace e:(2:Int)=3:=e;omega,λe=>by replace e:(2:Int)=4:=e;omega,λ_=>.inr h,λe=>by replace e:(2:Int)=1:=e;omega⟩
theorem Nx.skip (h:s.state=1):Nx s {s with state:=7}:=⟨rfl,λE=>by rw[over_iff] at E;omega,λe=>by replace e:(7:Int)=3:=e;omega,λe=>by replace e:(7:Int)=4:=e;omega,λe=>by replace e:(7:Int)=2:=e;omega,λe=>by replace e:(7:Int)=1:=e;omega⟩
theorem nO (h:over s=true):(ij {s with token:=0}).state=s.state:=by
 rw[over_iff] at h;unfold ij
 split
 · rfl
 · rename_i E
   have:¬(s.state=5\/s.state=6):=E;show(7:Int)=_;omega
theorem sC (h:s.state≠5):(ij {s with token:=0}).state≠5:=by
 unfold ij
 split
 · exact h
 · show(7:Int)≠5
   decide
theorem endS_five:(ij {s with token:=0}).state=5<->s.state=5:=by
 constructor
 · intro h
   exact Classical.byContradiction λE=>sC E h
 · intro h
   rw[nO (over_iff.2 (.inl h))];exact h
theorem Nx.ended (s:Sp):Nx s (ij {s with token:=0}):=by
 have h:=ou {s with token:=0};exact⟨tK _,nO,λe=>by omega,λe=>by omega,λe=>by omega,λe=>by omega⟩
def fv (R:Rn) (n:Nat):Rn:={R with Lv:=R.Lv.mapIdx λj s=>if j<n/\fA R j=true then {s with state:=2} else s}
theorem gH {j:Nat} (E:R.Lv[j]?=some s):(fv R n).Lv[j]?=some (if j<n/\fA R j=true then {s with state:=2} else s):=by
 unfold fv;simp only[List.getElem?_mapIdx,E,Option.map_some]
theorem fZ (R:Rn) (n:Nat):(fv R n).Lv.length=R.Lv.length:=by simp[fv]
theorem su {k:Nat} (I:R.Lv[k]?=some s) (h:fA R k=true):s.state=1:=by
 unfold fA at h;simp only[Bool.and_eq_true] at h;have E:=h.1;rw[gc I] at E;simpa using E
theorem rR {j:Nat} {x:Int} (E:x≠1) (I:x≠2):df (fv R n).Lv j x=df R.Lv j x:=by
 cases hs:R.Lv[j]? with
 | none=>
  unfold df;have:(fv R n).Lv[j]?=none:=by rw[List.getElem?_eq_none_iff] at hs ⊢;rw[fZ];exact hs
  rw[this,hs]
 | some s=>
  rw[gc (gH hs),gc hs]
  split
  · rename_i h
    have:=su hs h.2;rw[this];have e1:((2:Int)==x)=false:=by simpa using λe=>I e.symm
    have e2:((1:Int)==x)=false:=by simpa using λe=>E e.symm
    show((2:Int)==x)=_;rw[e1,e2]
  · rfl
theorem rQ {k:Nat}:lm (fv R n) k<->lm R k:=by
 unfold lm;have:∀u,df (fv R n).Lv u 5=df R.Lv u 5:=λu=>rR di di;simp only[this];exact Iff.rfl
theorem Ad (R:Rn):fv R 0=R:=by
 have:R.Lv.mapIdx (λj s=>if j<0/\fA R j=true then {s with state:=2} else s)=R.Lv:=by
  apply List.ext_getElem?;intro j;rw[List.getElem?_mapIdx];cases R.Lv[j]?<;>simp
 unfold fv;rw[this]
theorem Af (I:R.Lv.length=R.fl.Lw.length) (O:n<R.Lv.length):fA (fv R n) n=fA R n:=by
 have K:R.Lv[n]?=some (R.Lv[n]):=List.getElem?_eq_getElem O;have E:=gH (n:=n) K;rw[if_neg ai] at E;rw[Bool.eq_iff_iff,o9 K I,o9 E (by rw[fZ];exact I),rQ]
theorem Ae (O:R.Lv[n]?=some s):fv R (n+1)=if fA R n=true then(fv R n).setS n {s with state:=2} else fv R n:=by
 have K:=(gfGet.1 O).1;have e:∀A B:Rn,A.fl=B.fl->A.state=B.state->A.ended=B.ended->A.Lv=B.Lv->A=B:=by
  rintro⟨_,_,_,_⟩ ⟨_,_,_,_⟩ T Y h3 h4;simp only at T Y h3 h4;rw[T,Y,h3,h4]
 split
 · rename_i I
   refine e _ _ rfl rfl rfl ?_;apply List.ext_getElem?;intro j;show(fv R (n+1)).Lv[j]?=((fv R n).Lv.set n _)[j]?
   by_cases E:j=n
   · subst E
     rw[List.getElem?_set_self (by rw[fZ];exact K),gH O,if_pos ⟨ai,I⟩]
   · rw[List.getElem?_set_ne (Ne.symm E)]
     cases hsj:R.Lv[j]? with
     | none=>rw[List.getElem?_eq_none_iff] at hsj;rw[List.getElem?_eq_none (by rw[fZ];exact hsj),List.getElem?_eq_none (by rw[fZ];exact hsj)]
     | some u=>
      rw[gH hsj,gH hsj];have:(j<n+1/\fA R j=true)<->(j<n/\fA R j=true):=by
       constructor
       · rintro⟨a,b⟩;exact⟨ai,b⟩
       · rintro⟨a,b⟩;exact⟨ai,b⟩
      simp only[this]
 · rename_i I
   refine e _ _ rfl rfl rfl ?_;apply List.ext_getElem?;intro j;cases hsj:R.Lv[j]? with
   | none=>rw[List.getElem?_eq_none_iff] at hsj;rw[List.getElem?_eq_none (by rw[fZ];exact hsj),List.getElem?_eq_none (by rw[fZ];exact hsj)]
   | some u=>
    rw[gH hsj,gH hsj];have:(j<n+1/\fA R j=true)<->(j<n/\fA R j=true):=by
     constructor
     · rintro⟨a,b⟩
       refine⟨?_,b⟩
       by_cases E:j=n
       · subst E;exact absurd b I
       · omega
     · rintro⟨a,b⟩;exact⟨ai,b⟩
    simp only[this]
end
structure Fr (id:Nat) (S U:En):Prop where
 others:∀a,a≠id->U.getR a=S.getR a
 keys:U.runs.map (·.1)=S.runs.map (·.1)
 now:U.now=S.now
 seed:U.seed=S.seed
 Lt:U.Lt=S.Lt
 Ls:U.Ls=S.Ls
theorem Fr.refl (id:Nat) (S:En):Fr id S S:=⟨λ_ _=>rfl,rfl,rfl,rfl,rfl,rfl⟩
theorem Fr.trans {id:Nat} {S T U:En} (h:Fr id S T) (k:Fr id T U):Fr id S U:=⟨λa E=>(k.others a E).trans (h.others a E),k.keys.trans h.keys,k.now.trans h.now,k.seed.trans h.seed,k.Lt.trans h.Lt,k.Ls.trans h.Ls⟩
structure Same (S U:En):Prop where
 tms:U.tms=S.tms
 Ly:U.Ly=S.Ly
 ends:U.ends=S.ends
 sets:U.sets=S.sets
theorem se {S:En} {id k:Nat} {R:Rn} {s:Sp} (E:S.getR id=some R) (I:R.Lv[k]?=some s):Fr id S (S.ready id k)/\Same S (S.ready id k):=by
 rw[kH E I];exact⟨⟨λa K=>fI K,setR_keys,rfl,rfl,rfl,rfl⟩,⟨rfl,rfl,rfl,rfl⟩⟩
theorem xt {S:En} {id:Nat} {R:Rn} (O:S.getR id=some R) (T:R.Lv.length=R.fl.Lw.length):∀n,n<=R.Lv.length->(S.wakeN id n).getR id=some (fv R n)/\Fr id S (S.wakeN id n)/\Same S (S.wakeN id n)/\∃l,(S.wakeN id n).Lx=S.Lx++l
 | 0,_=>⟨by rw[Ad];exact O,Fr.refl _ _,⟨rfl,rfl,rfl,rfl⟩,[],by simp[En.wakeN]⟩
 | n+1,hn=>by
  obtain⟨I,Y,h3,l,h4⟩:=xt O T n ai;have hs:R.Lv[n]?=some (R.Lv[n]):=List.getElem?_eq_getElem ai;have E:=gH (n:=n) hs;rw[if_neg ai] at E;rw[iR,mY I,Af T ai,Ae hs]
  split
  · have K:=se I E
    refine⟨?_,Y.trans K.1,⟨K.2.tms.trans h3.tms,K.2.Ly.trans h3.Ly,K.2.ends.trans h3.ends,K.2.sets.trans h3.sets⟩,l++[⟨id,(n:Int),0⟩],?_⟩
    · rw[kH I E]
      exact dG I
    · rw[kH I E]
      show(S.wakeN id n).Lx++_=_;rw[h4,List.append_assoc]
  · exact⟨I,Y,h3,l,h4⟩
theorem Ca {S:En} {id:Nat} {R:Rn} (E:S.getR id=some R) (I:R.Lv.length=R.fl.Lw.length):(S.wake id).getR id=some (fv R R.Lv.length)/\Fr id S (S.wake id)/\Same S (S.wake id)/\∃l,(S.wake id).Lx=S.Lx++l:=by
 unfold En.wake;rw[E];simp only;rw[<-I];exact xt E I _ (cm _)
theorem Hon0.wake {R:Rn} (hl:R.Lv.length=R.fl.Lw.length) (hu:∀(k:Nat) (s:Sp),R.Lv[k]?=some s->(2<=s.state/\s.state<=6)->lm R k) (hk:∀(k:Nat) (s:Sp),R.Lv[k]?=some s->s.state=1->∀u∈fP R.fl.Lw k,df R.Lv u 6=false/\df R.Lv u 7=false):Hon0 (fv R R.Lv.length):=by
 have key:∀(k:Nat) (s':Sp),(fv R R.Lv.length).Lv[k]?=some s'->∃s,R.Lv[k]?=some s/\s'=if fA R k=true then {s with state:=2} else s:=λk s' h=>by
  have T:k<R.Lv.length:=by have:=(gfGet.1 h).1;rwa [fZ] at this
  have K:R.Lv[k]?=some (R.Lv[k]):=List.getElem?_eq_getElem T;have:=gH (n:=R.Lv.length) K;rw[h] at this;injection this with this;refine⟨_,K,?_⟩;rw[this];simp only[T,true_and]
 refine⟨λk s' E O=>?_,λ_ k s' E I=>?_,λ_ k s' E I u Y=>?_⟩
 · obtain⟨s,K,e⟩:=key k s' E
   rw[rQ]
   split at e
   · rename_i hf
     exact((o9 K hl).1 hf).2
   · rw[e] at O
     exact hu k s K O
 · obtain⟨s,K,e⟩:=key k s' E
   rw[rQ]
   split at e
   · rw[e] at I
     replace I:(2:Int)=1:=I;omega
   · rename_i hf
     rw[e] at I;exact λh=>hf ((o9 K hl).2 ⟨I,h⟩)
 · obtain⟨s,K,e⟩:=key k s' E
   rw[rR di di,rR di di]
   split at e
   · rw[e] at I
     replace I:(2:Int)=1:=I;omega
   · rw[e] at I
     exact hk k s K I u Y
theorem F6 {R:Rn} {n j:Nat} {s:Sp} (E:R.Lv[j]?=some s):∃s',(fv R n).Lv[j]?=some s'/\Nx s s':=by
 refine⟨_,gH E,?_⟩
 split
 · rename_i h
   exact J1 (su E h.2)
 · exact Nx.refl s
structure Fin (id:Nat) (S U:En) (R R':Rn) (st:Int):Prop where
 get:U.getR id=some R'
 fr:Fr id S U
 fl:R'.fl=R.fl
 state:R'.state=st
 len:R'.Lv.length=R.Lv.length
 Lv:∀(j:Nat) (s:Sp),R.Lv[j]?=some s->R'.Lv[j]?=some (ij {s with token:=0})
 tms:∀x∈U.tms,x∈S.tms
 ends:U.ends=S.ends+1
 sets:U.sets=S.sets
section
variable {id:Nat} {S U:En} {R R':Rn} {st:Int}
theorem Ok.fin (h:Ok S) (I:S.getR id=some R) (st:Int):∃R',Fin id S (S.finish id st) R R' st:=by
 have E:=h.ended I st;obtain⟨R',O,T,Y,g4,g5,g6⟩:=E.run;exact⟨R',O,⟨E.others,E.keys,E.now,E.seed,E.Lt,E.Ls⟩,T,Y,g5,g6,λx K=>((E.tms x).1 K).1,E.ends,E.sets⟩
theorem Fin.back (h:Fin id S U R R' st) {k:Nat} {s':Sp} (K:R'.Lv[k]?=some s'):∃s,R.Lv[k]?=some s/\s'=ij {s with token:=0}:=by
 have I:k<R.Lv.length:=by have:=(gfGet.1 K).1;rwa [h.len] at this
 have E:R.Lv[k]?=some (R.Lv[k]):=List.getElem?_eq_getElem I;have:=h.Lv k _ E;rw[K] at this;injection this with this;exact⟨_,E,this⟩
theorem Fin.up (h:Fin id S U R R' st) {k:Nat} (E:lm R k):lm R' k:=by
 unfold lm at E ⊢;rw[h.fl];intro u O;obtain⟨s,I,K⟩:=isAt_iff.1 (E u O);exact isAt_iff.2 ⟨_,h.Lv u s I,endS_five.2 K⟩
theorem Fin.hon0 (h:Fin id S U R R' st) (E:st≠1) (O:∀(k:Nat) (s:Sp),R.Lv[k]?=some s->(2<=s.state/\s.state<=6)->lm R k):Hon0 R':=by
 refine⟨λk s' K I=>?_,λe=>absurd (h.state.symm.trans e) E,λe=>absurd (h.state.symm.trans e) E⟩;obtain⟨s,T,rfl⟩:=h.back K;refine h.up (O k s T ?_);unfold ij at I
 split at I
 · exact I
 · have:(2:Int)<=7/\(7:Int)<=6:=I
   omega
theorem Fin.hon (h:Fin id S U R R' st) (I:st≠1) (T:st≠2) (K:Hon R) (E:R.state=1):Hon R':=by
 refine⟨h.hon0 I K.h0.up,λe=>absurd (h.state.symm.trans e) I,λe=>absurd (h.state.symm.trans e) T,λ_ _=>?_⟩;obtain⟨k,s,Y,O⟩:=K.go E;rw[sh] at O;exact⟨k,_,h.Lv k s Y,sC O.1⟩
end
structure Settled (id:Nat) (S U:En) (R R':Rn):Prop where
 get:U.getR id=some R'
 fr:Fr id S U
 fl:R'.fl=R.fl
 len:R'.Lv.length=R.Lv.length
 Lv:∀(j:Nat) (s:Sp),R.Lv[j]?=some s->∃s',R'.Lv[j]?=some s'/\Nx s s'/\s'.state=s.state
 hon:Hon R'
 tms:∀x∈U.tms,x∈S.tms
 ends:U.ends<=S.ends+1
 sets:U.sets=S.sets
 stay:R'.state=1->U=S/\R'=R
theorem Ok.settled {S:En} (h:Ok S) {id:Nat} {R:Rn} (hR:S.getR id=some R) (Y:R.state=1) (h0:Hon0 R):∃R',Settled id S (S.settle id) R R':=by
 unfold En.settle;rw[hR];simp only
 by_cases ha:R.Lv.all over=true
 · rw[if_pos ha]
   rw[List.all_eq_true] at ha;have ho:∀(j:Nat) (s:Sp),R.Lv[j]?=some s->over s=true:=λj s E=>ha s (du E);obtain⟨st,T⟩:∃st:Int,st=if (R.Lv.all λs=>s.state==5)=true then 2 else 3:=⟨_,rfl⟩
   have K:st≠1:=by rw[T];split<;>decide
   rw[<-T];obtain⟨R',I⟩:=h.fin hR st;refine⟨R',I.get,I.fr,I.fl,I.len,λj s E=>⟨_,I.Lv j s E,Nx.ended s,nO (ho j s E)⟩,⟨I.hon0 K h0.up,λe=>absurd (I.state.symm.trans e) K,λe k s' d6=>?_,λ_ e=>?_⟩,I.tms,Nat.le_of_eq I.ends,I.sets,λe=>absurd (I.state.symm.trans e) K⟩
   · obtain⟨s,E,rfl⟩:=I.back d6
     rw[nO (ho k s E)];have e2:st=2:=I.state.symm.trans e;rw[T] at e2
     split at e2
     · rename_i O
       rw[List.all_eq_true] at O;simpa using O s (du E)
     · omega
   · have e2:¬(R.Lv.all λs=>s.state==5)=true:=λO=>e (by rw[I.state,T,if_pos O])
     rw[List.all_eq_true] at e2;have:∃s∈R.Lv,s.state≠5:=Classical.byContradiction λhn=>e2 λs E=>by
      have:s.state=5:=Classical.byContradiction λO=>hn ⟨s,E,O⟩;simpa using this
     obtain⟨s,E,O⟩:=this;obtain⟨k,hk⟩:=List.getElem?_of_mem E;exact⟨k,_,I.Lv k s hk,sC O⟩
 · rw[if_neg ha]
   have:∃s∈R.Lv,over s=false:=Classical.byContradiction λhn=>ha (List.all_eq_true.2 λs E=>by
    cases ho:over s with
    | true=>rfl
    | false=>exact absurd ⟨s,E,ho⟩ hn)
   obtain⟨s,E,O⟩:=this;obtain⟨k,hk⟩:=List.getElem?_of_mem E;exact⟨R,hR,Fr.refl _ _,rfl,rfl,λj s E=>⟨s,E,Nx.refl s,rfl⟩,⟨h0,λ_=>⟨k,s,hk,O⟩,λe=>by omega,λe=>absurd Y e⟩,λ_ hx=>hx,Nat.le_succ _,rfl,λ_=>⟨rfl,rfl⟩⟩
structure Mv (id k:Nat) (S U:En) (R R':Rn) (new:List KD):Prop where
 get:U.getR id=some R'
 others:∀a,a≠id->U.getR a=S.getR a
 keys:U.runs.map (·.1)=S.runs.map (·.1)
 now:U.now=S.now
 seed:U.seed=S.seed
 Lt:U.Lt=S.Lt
 Ls:S.Ls<=U.Ls/\U.Ls<=S.Ls+1
 ends:U.ends<=S.ends+1
 sets:U.sets<=S.sets+2
 fl:R'.fl=R.fl
 len:R'.Lv.length=R.Lv.length
 Lv:∀(j:Nat) (s:Sp),j≠k->R.Lv[j]?=some s->∃s',R'.Lv[j]?=some s'/\Nx s s'
 hon:Hon R'
 tms:∀x∈U.tms,x∈S.tms\/x∈new
 keep:R'.state=1->∀x∈S.tms,(∀w,x.1≠⟨id,(k:Int),w⟩)->x∈U.tms
 newin:R'.state=1->∀x∈new,x∈U.tms
section
variable {a id j k:Nat} {R:Rn} {s s':Sp} {S:En} {p:Pl}
theorem jl (R:Rn) (k:Nat) (s:Sp) (st:Int):R.turned k s st=R.setS k ⟨st,s.Lu,0⟩:=by
 unfold Rn.turned;rw[nE]
theorem Dt (E:R.Lv[k]?=some s) (st:Int):(R.turned k s st).Lv[k]?=some ⟨st,s.Lu,0⟩:=by
 rw[jl];exact dM E
theorem kf (h:j≠k):(R.setS k s).Lv[j]?=R.Lv[j]?:=by
 unfold Rn.setS;exact List.getElem?_set_ne (Ne.symm h)
theorem setS_len:(R.setS k s).Lv.length=R.Lv.length:=by simp[Rn.setS]
theorem iZ {u:Sp} (h:(R.setS k s').Lv[j]?=some u):(j=k/\u=s')\/(j≠k/\R.Lv[j]?=some u):=by
 by_cases E:j=k
 · subst E
   have I:j<R.Lv.length:=by have:=(gfGet.1 h).1;rwa [setS_len] at this
   have K:R.Lv[j]?=some (R.Lv[j]):=List.getElem?_eq_getElem I;rw[dM K] at h;injection h with h;exact .inl ⟨rfl,h.symm⟩
 · rw[kf E] at h
   exact .inr ⟨E,h⟩
theorem nn {u:Nat} {x:Int} (E:R.Lv[k]?=some s) (h:u=k->(s'.state=x<->s.state=x)):df (R.setS k s').Lv u x=df R.Lv u x:=by
 by_cases I:u=k
 · subst I
   rw[gc (dM E),gc E,Bool.eq_iff_iff];simpa using h rfl
 · exact l7 (kf I)
theorem Ci (E:R.Lv[k]?=some s) (h:s'.state=5<->s.state=5):lm (R.setS k s') j<->lm R j:=by
 unfold lm;have:∀u,df (R.setS k s').Lv u 5=df R.Lv u 5:=λu=>nn E λ_=>h;simp only[this];exact Iff.rfl
theorem Gq (K:R.Lv[k]?=some s) (h:s.state=5->s'.state=5) (O:lm R j):lm (R.setS k s') j:=by
 unfold lm at O ⊢;intro u Y;obtain⟨t,E,T⟩:=isAt_iff.1 (O u Y)
 by_cases I:u=k
 · subst I
   rw[K] at E;injection E with E;subst E;exact isAt_iff.2 ⟨s',dM K,h T⟩
 · exact isAt_iff.2 ⟨t,by rw[kf I];exact E,T⟩
theorem Hon0.set (h:Hon0 R) (K:R.Lv[k]?=some s) (h1:2<=s.state/\s.state<=4) (h2:2<=s'.state/\s'.state<=4):Hon0 (R.setS k s'):=by
 have T:s'.state=5<->s.state=5:=ai;refine⟨λj u E O=>?_,λI j u E O=>?_,λI j u E O v Y=>?_⟩
 · rw[Ci K T]
   rcases iZ E with⟨rfl,rfl⟩|⟨_,E⟩
   · exact h.up _ s K ai
   · exact h.up j u E O
 · rw[Ci K T]
   rcases iZ E with⟨rfl,rfl⟩|⟨_,E⟩
   · omega
   · exact h.wt I j u E O
 · rcases iZ E with⟨rfl,rfl⟩|⟨_,E⟩
   · omega
   · have:=h.sk I j u E O v Y
     rw[nn K (λ_=>by omega),nn K (λ_=>by omega)];exact this
theorem Hon.set {R:Rn} (h:Hon R) (E:R.state=1) {k:Nat} {s s':Sp} (I:R.Lv[k]?=some s) (K:2<=s.state/\s.state<=4) (O:2<=s'.state/\s'.state<=4):Hon (R.setS k s'):=
 ⟨h.h0.set I K O,λ_=>⟨k,s',dM I,by rw[sh];omega⟩,λe=>absurd (E.symm.trans e) di,λe=>absurd E e⟩
theorem oS {x:KD} (h:x∈(S.setT p a).tms):(x∈S.tms/\x.1≠p)\/x=(p,a):=by
 unfold En.setT at h;rcases List.mem_append.1 h with h|h
 · obtain⟨E,I⟩:=List.mem_filter.1 h
   exact .inl ⟨E,by simpa using I⟩
 · exact .inr (List.mem_singleton.1 h)
theorem lO {x:KD} (h:x∈S.tms) (E:x.1≠p):x∈(S.setT p a).tms:=by
 unfold En.setT;exact List.mem_append_left _ (List.mem_filter.2 ⟨h,by simpa using E⟩)
theorem oP:(p,a)∈(S.setT p a).tms:=by
 unfold En.setT;exact List.mem_append_right _ (List.mem_singleton.2 rfl)
theorem Ok.running {S:En} (h:Ok S) {id k:Nat} {R:Rn} {s:Sp} (E:S.getR id=some R) (I:R.Lv[k]?=some s) (K:s.state=1\/s.state=2\/s.state=3\/s.state=4):R.state=1:=by
 obtain⟨n,T,O⟩:=h.node E I;exact O.running K
def l8 (S:En) (id k:Nat) (n:Node):List KD:=(⟨id,(k:Int),1⟩,S.later n.close.toNat)::(if 0<n.beat then[(⟨id,(k:Int),2⟩,S.later n.beat.toNat)] else[])
theorem Ok.hand_mv (h:Ok S) {q:List Pl} (hq:S.Lx=⟨id,(k:Int),0⟩::q) {n:Node} (hR:S.getR id=some R) (hs:R.Lv[k]?=some s) (hn:R.fl.Lw[k]?=some n) (hH:Hon R):Mv id k S (S.hand ⟨id,(k:Int),0⟩ q R s n) R (R.setS k ⟨3,s.Lu+1,S.Ls+1⟩) (l8 S id k n):=by
 obtain⟨h2,-⟩:=h.handT hq hR hs hn;have d8:=h.running hR hs ai;rw[ri];obtain⟨T,O⟩:∃T,T=S.handT id k q R s:=⟨_,rfl⟩;have f7:T.later=S.later:=by rw[O];rfl
 have d9:T.tms=S.tms:=by rw[O];rfl
 rw[<-O];obtain⟨I,E⟩:∃I,I=T.setT ⟨id,(k:Int),1⟩ (S.later n.close.toNat):=⟨_,rfl⟩;rw[<-E];have f8:I.later=S.later:=by rw[E];exact f7
 have d6:I.life ⟨id,(k:Int),0⟩ n=if 0<n.beat then I.setT ⟨id,(k:Int),2⟩ (S.later n.beat.toNat) else I:=by
  unfold En.life;rw[f8]
 rw[d6];have fr:∀(P:En->Prop),P I->P (I.setT ⟨id,(k:Int),2⟩ (S.later n.beat.toNat))->P (if 0<n.beat then I.setT ⟨id,(k:Int),2⟩ (S.later n.beat.toNat) else I):=λP a b=>by split<;>assumption
 have hg:∀a,I.getR a=if a=id then some (R.setS k ⟨3,s.Lu+1,S.Ls+1⟩) else S.getR a:=λa=>by
  rw[E,O];exact lI hR a
 have g1:=hg id;rw[if_pos rfl] at g1;refine⟨fr (λU=>U.getR id=_) g1 g1,fr (λU=>∀a,a≠id->U.getR a=S.getR a) ?_ ?_,fr (λU=>U.runs.map (·.1)=_) ?_ ?_,fr (λU=>U.now=S.now) ?_ ?_,fr (λU=>U.seed=S.seed) ?_ ?_,fr (λU=>U.Lt=S.Lt) ?_ ?_,fr (λU=>S.Ls<=U.Ls/\U.Ls<=S.Ls+1) ?_ ?_,fr (λU=>U.ends<=S.ends+1) ?_ ?_,fr (λU=>U.sets<=S.sets+2) ?_ ?_,rfl,setS_len,λj u hj hu=>⟨u,by rw[kf hj];exact hu,Nx.refl u⟩,hH.set d8 hs ai (by show(2:Int)<=3/\(3:Int)<=4;omega),?_,?_,?_⟩
 · exact λa ha=>by rw[hg,if_neg ha]
 · exact λa ha=>(hg a).trans (by rw[if_neg ha])
 · rw[E,O];exact setR_keys
 · show I.runs.map (·.1)=_
   rw[E,O];exact setR_keys
 · rw[E,O];rfl
 · show I.now=_
   rw[E,O];rfl
 · rw[E,O];rfl
 · show I.seed=_
   rw[E,O];rfl
 · rw[E,O];rfl
 · show I.Lt=_
   rw[E,O];rfl
 · have:I.Ls=S.Ls+1:=by rw[E,O];rfl
   omega
 · have:I.Ls=S.Ls+1:=by rw[E,O];rfl
   show _<=I.Ls/\I.Ls<=_;omega
 · have:I.ends=S.ends:=by rw[E,O];rfl
   omega
 · have:I.ends=S.ends:=by rw[E,O];rfl
   show I.ends<=_;omega
 · have:I.sets=S.sets+1:=by rw[E,O];rfl
   omega
 · have:I.sets=S.sets+1:=by rw[E,O];rfl
   show I.sets+1<=_;omega
 · intro x K
   unfold l8;have Y:x∈I.tms->x∈S.tms\/x=(⟨id,(k:Int),1⟩,S.later n.close.toNat):=λK=>by
    rw[E] at K;rcases oS K with⟨h,_⟩|h
    · rw[d9] at h;exact .inl h
    · exact .inr h
   split at K
   · rename_i hb
     rw[if_pos hb];rcases oS K with⟨K,_⟩|rfl
     · rcases Y K with h|h
       · exact .inl h
       · rw[h];exact .inr (List.mem_cons_self)
     · exact .inr cP
   · rcases Y K with h|h
     · exact .inl h
     · rw[h];exact .inr (List.mem_cons_self)
 · intro _ x K d7
   have Y:x∈I.tms:=by rw[E];exact lO (by rw[d9];exact K) (d7 1)
   split
   · exact lO Y (d7 2)
   · exact Y
 · intro _ x K
   unfold l8 at K;have Y:((⟨id,(k:Int),1⟩:Pl),S.later n.close.toNat)∈I.tms:=by rw[E];exact oP
   split
   · rename_i hb
     rw[if_pos hb] at K;rcases List.mem_cons.1 K with rfl|K
     · refine lO Y ?_
       simp
     · rw[List.mem_singleton] at K
       subst K;exact oP
   · rename_i hb
     rw[if_neg hb,List.mem_singleton] at K;subst K;exact Y
theorem tO {wh:Int} (n:Node) (O:S.getR id=some R) (_hs:R.Lv[k]?=some s) (T:Hon R):Mv id k S (S.life ⟨id,(k:Int),wh⟩ n) R R (if 0<n.beat then[(⟨id,(k:Int),2⟩,S.later n.beat.toNat)] else[]):=by
 have I:∀(j:Nat) (u:Sp),j≠k->R.Lv[j]?=some u->∃s',R.Lv[j]?=some s'/\Nx u s':=λj u _ Y=>⟨u,Y,Nx.refl u⟩;unfold En.life
 split
 · refine⟨O,λ_ _=>rfl,rfl,rfl,rfl,rfl,⟨cm _,Nat.le_succ _⟩,Nat.le_succ _,by show S.sets+1<=_;omega,rfl,rfl,I,T,λx E=>?_,λ_ x E K=>lO E (K 2),λ_ x E=>?_⟩
   · rcases oS E with⟨E,_⟩|rfl
     · exact .inl E
     · exact .inr (List.mem_singleton.2 rfl)
   · rw[List.mem_singleton] at E
     subst E;exact oP
 · exact⟨O,λ_ _=>rfl,rfl,rfl,rfl,rfl,⟨cm _,Nat.le_succ _⟩,Nat.le_succ _,Nat.le_add_right _ _,rfl,rfl,I,T,λx E=>.inl E,λ_ x E _=>E,λ_ x E=>by cases E⟩
theorem Gv (T:S.getR id=some R) (Y:R.Lv[k]?=some s) (I:R.state=1) (h4:s.state=4) (hH:Hon R):Mv id k S (S.ready id k) R (R.setS k {s with state:=2}) []:=by
 obtain⟨E,O⟩:=se T Y;refine⟨?_,E.others,E.keys,E.now,E.seed,E.Lt,by rw[E.Ls];omega,by rw[O.ends];omega,by rw[O.sets];omega,rfl,setS_len,λj u hj hu=>⟨u,by rw[kf hj];exact hu,Nx.refl u⟩,hH.set I Y ai (by show(2:Int)<=2/\(2:Int)<=4;omega),λx K=>.inl (by rw[<-O.tms];exact K),λ_ x K _=>by rw[O.tms];exact K,λ_ x K=>by cases K⟩;rw[kH T Y];exact dG T
end
structure Part (id k:Nat) (S D:En) (A:Rn):Prop where
 get:D.getR id=some A
 fr:Fr id S D
 ends:D.ends=S.ends
 sets:D.sets=S.sets
 tms:∀x∈D.tms,x∈S.tms
 keep:∀x∈S.tms,(∀w,x.1≠⟨id,(k:Int),w⟩)->x∈D.tms
section
variable {id k:Nat} {S:En} {R:Rn} {s:Sp}
theorem part_at {A:Rn} (K:S.getR id=some R) (O:R.Lv[k]?=some s):Part id k S ((S.leave id k).setR id A) A:=by
 rw[fY K O];have e:((({S with Ly:=S.Ly.eraseP (·.1==s.token)}.setR id (R.setS k {s with token:=0})).unset ⟨id,(k:Int),1⟩).unset ⟨id,(k:Int),2⟩).setR id A={S.setR id A with Ly:=S.Ly.eraseP (·.1==s.token),tms:=(S.tms.filter λx=>x.1 !=⟨id,(k:Int),1⟩).filter λx=>x.1 !=⟨id,(k:Int),2⟩}:=by
  show((({S with Ly:=S.Ly.eraseP (·.1==s.token)}.setR id (R.setS k {s with token:=0})).setR id A).unset _).unset _=_;rw[gJ]
  rfl
 rw[e];refine⟨dG K,⟨λa T=>fI T,setR_keys,rfl,rfl,rfl,rfl⟩,rfl,rfl,λx I=>?_,λx I E=>?_⟩
 · exact(List.mem_filter.1 (List.mem_filter.1 I).1).1
 · exact List.mem_filter.2 ⟨List.mem_filter.2 ⟨I,by simpa using E 1⟩,by simpa using E 2⟩
theorem Ok.rests_mv (h:Ok S) (hR:S.getR id=some R) (Y:R.Lv[k]?=some s) (h3:s.state=3) (E:Nat) (hH:Hon R):Mv id k S (S.rests id k R s E) R (R.setS k ⟨4,s.Lu,0⟩) [(⟨id,(k:Int),1⟩,S.later E)]:=by
 have T:=h.running hR Y ai;have I:=part_at (A:=R.turned k s 4) hR Y;have hl:(S.leave id k).later E=S.later E:=by rw[fY hR Y];rfl
 unfold En.rests;rw[hl];rw[jl] at I ⊢;refine⟨I.get,I.fr.others,I.fr.keys,I.fr.now,I.fr.seed,I.fr.Lt,⟨Nat.le_of_eq I.fr.Ls.symm,Nat.le_trans (Nat.le_of_eq I.fr.Ls) (Nat.le_succ _)⟩,Nat.le_trans (Nat.le_of_eq I.ends) (Nat.le_succ _),Nat.le_trans (Nat.succ_le_succ (Nat.le_of_eq I.sets)) (Nat.le_succ _),rfl,setS_len,λj u hj hu=>⟨u,by rw[kf hj];exact hu,Nx.refl u⟩,hH.set T Y ai (by show(2:Int)<=4/\(4:Int)<=4;omega),λx K=>?_,λ_ x K O=>lO (I.keep x K O) (O 1),λ_ x K=>?_⟩
 · rcases oS K with⟨K,_⟩|rfl
   · exact .inl (I.tms x K)
   · exact .inr (List.mem_singleton.2 rfl)
 · rw[List.mem_singleton] at K
   subst K;exact oP
theorem Settled.mv {D W U:En} {A B R':Rn} (K:Part id k S D A) (d6:Fr id D W) (O:W.tms=D.tms) (d7:W.ends=D.ends) (d8:W.sets=D.sets) (E:Settled id W U B R') (d9:B.fl=R.fl) (T:B.Lv.length=R.Lv.length) (f7:∀(j:Nat) (s:Sp),j≠k->R.Lv[j]?=some s->∃s',B.Lv[j]?=some s'/\Nx s s'):Mv id k S U R R' []:=by
 have I:=(K.fr.trans d6).trans E.fr;refine⟨E.get,I.others,I.keys,I.now,I.seed,I.Lt,by rw[I.Ls];omega,by have:=E.ends;rw[d7,K.ends] at this;exact this,by rw[E.sets,d8,K.sets];omega,E.fl.trans d9,E.len.trans T,λj s hj f8=>?_,E.hon,λx Y=>.inl (K.tms x (by rw[<-O];exact E.tms x Y)),λe x Y f9=>?_,λ_ x Y=>by cases Y⟩
 · obtain⟨s1,h1,n1⟩:=f7 j s hj f8
   obtain⟨s2,h2,n2,_⟩:=E.Lv j s1 h1;exact⟨s2,h2,n1.trans n2⟩
 · rw[(E.stay e).1,O]
   exact K.keep x Y f9
theorem Ok.complete_mv (h:Ok S) {t:Nat} (ht:(S.Ly.find? (·.1==t)).map (·.2)=some ⟨id,(k:Int),0⟩) (hR:S.getR id=some R) (K:R.Lv[k]?=some s) (h3:s.state=3) (hH:Hon R):∃R',Mv id k S (S.complete t) R R' []/\∃s',R'.Lv[k]?=some s'/\s'.state=5/\s'.Lu=s.Lu:=by
 have T:=h.running hR K ai;obtain⟨n,hn,-⟩:=h.node hR K;have hl:=(h.run id R hR).len;rw[qJ ht hR K];have hp:=part_at (A:=R.turned k s 5) hR K;have f7:Ok ((S.leave id k).setR id (R.turned k s 5)):=(h.part hR K hn h3 (st:=5) (.inl rfl));have Y:=f7.wake id;have d6:=Dt K 5;have d7:(R.turned k s 5).Lv.length=(R.turned k s 5).fl.Lw.length:=by rw[jl];exact setS_len.trans hl
 obtain⟨w1,w2,w3,-⟩:=Ca hp.get d7;obtain⟨A,hA⟩:∃A,A=R.turned k s 5:=⟨_,rfl⟩;have E:A=R.setS k ⟨5,s.Lu,0⟩:=by rw[hA,jl]
 rw[<-hA] at hp d6 d7 w1 w2 w3;have h0:Hon0 (fv A A.Lv.length):=by
  refine Hon0.wake d7 (λj u I hr=>?_) λj u I h1 v hv=>?_
  · rw[E] at I ⊢
    refine Gq K (λ_=>rfl) ?_;rcases iZ I with⟨rfl,rfl⟩|⟨_,I⟩
    · exact hH.h0.up _ s K ai
    · exact hH.h0.up j u I hr
  · rw[E] at I hv ⊢
    rcases iZ I with⟨rfl,rfl⟩|⟨_,I⟩
    · replace h1:(5:Int)=1:=h1
      omega
    · have:=hH.h0.sk T j u I h1 v hv
      rw[nn K (λ_=>by show(5:Int)=6<->_;omega),nn K (λ_=>by show(5:Int)=7<->_;omega)];exact this
 have d8:(fv A A.Lv.length).state=1:=by rw[E];exact T
 rw[<-hA] at Y ⊢;obtain⟨R',O⟩:=Y.settled w1 d8 h0;refine⟨R',Settled.mv (B:=fv A A.Lv.length) hp w2 w3.tms w3.ends w3.sets O (by rw[E];rfl) (by rw[fZ,E,setS_len]) λj u I hu=>?_,?_⟩
 · refine F6 ?_
   rw[E,kf I];exact hu
 · have d9:=gH (n:=A.Lv.length) d6
   have hf:fA A k=false:=by
    cases hf:fA A k with
    | false=>rfl
    | true=>
     have:=su d6 hf;replace this:(5:Int)=1:=this;omega
   rw[hf] at d9;simp only[Bool.false_eq_true,and_false,if_false] at d9;obtain⟨s',g1,g2,g3⟩:=O.Lv k _ d9;exact⟨s',g1,g3,g2.Lu⟩
theorem IE {f:Flow} (hf:Fit f):∃T,Ordering f.Lw 0 T:=by
 have key:∀(m left:Nat) (E:List Nat),Ordering f.Lw left E->f.Lw.length-E.length<=m->∃T,Ordering f.Lw 0 T:=by
  intro m
  induction m with
  | zero=>
   intro left E h K;refine⟨E,?_⟩;have:left=0:=Nat.eq_of_testBit_eq λi=>by
    rw[Nat.zero_testBit];cases hb:left.testBit i with
    | false=>rfl
    | true=>
     obtain⟨h1,h2⟩:=(h.bits i).1 hb;have:=lF (l:=i::E) (m:=List.range f.Lw.length) (List.nodup_cons.2 ⟨h2,h.nodup⟩) (λx I=>by
      rcases List.mem_cons.1 I with rfl|I
      · exact List.mem_range.2 h1
      · exact List.mem_range.2 (h.lt x I))
     rw[List.length_range] at this;simp only[List.length_cons] at this;omega
   rw[this] at h;exact h
  | succ m ih=>
   intro left E h K
   by_cases Y:∀i,left.testBit i=true->∃k∈fP f.Lw i,left.testBit k=true
   · have:=h.zero hf Y
     rw[this] at h;exact⟨E,h⟩
   · have:∃i,left.testBit i=true/\∀k∈fP f.Lw i,left.testBit k=false:=Classical.byContradiction λhn=>Y λi hi=>Classical.byContradiction λhk=>hn ⟨i,hi,λk K=>by
      cases hb:left.testBit k with
      | false=>rfl
      | true=>exact absurd ⟨k,K,hb⟩ hk⟩
     obtain⟨i,hi,O⟩:=this;refine ih (left ^^^ (1<<<i)) (E++[i]) (h.tell hi O λj=>?_) (by simp;omega);rw[Nat.testBit_xor,mI]
     by_cases hj:j=i
     · subst hj
       simp[hi]
     · simp[hj]
 exact key _ _ _ (Ordering.start _) (cm _)
theorem Ok.dies_mv (h:Ok S) {n:Node} (hR:S.getR id=some R) (hs:R.Lv[k]?=some s) (hn:R.fl.Lw[k]?=some n) (h3:s.state=3) (hb:s.Lu=n.Lz) (hH:Hon R):∃R',Mv id k S (S.dies id k R s (qM R.fl.Lw)) R R' []/\∃s',R'.Lv[k]?=some s'/\s'.state=6/\s'.Lu=s.Lu:=by
 have f8:=h.running hR hs ai;have mt:=h.run id R hR;have hl:=mt.len;obtain⟨A,hA⟩:∃A,A=R.turned k s 6:=⟨_,rfl⟩;have K:A=R.setS k ⟨6,s.Lu,0⟩:=by rw[hA,jl]
 obtain⟨T,hT⟩:∃T,T=qM R.fl.Lw:=⟨_,rfl⟩;have wf:∃T,Ordering R.fl.Lw 0 T:=by
  have:=IE mt.fl;exact this
 have t6:Ordering R.fl.Lw 0 T:=by
  rw[hT];unfold qM;rw[dif_pos wf];exact wf.choose_spec
 unfold En.dies;rw[<-hT,<-hA];have hp:=part_at (A:=(R.turned k s 6).skips T) hR hs;have t7:Ok ((S.leave id k).setR id ((R.turned k s 6).skips T)):=by
  have Y:=h.part hR hs hn h3 (st:=6) (.inr (.inr ⟨rfl,hb⟩));have h2:=Ok.skips (id:=id) T Y (nJ hR hs);rw[gJ] at h2;exact h2
 rw[<-hA] at hp t7;have d6:A.Lv.length=R.fl.Lw.length:=by rw[K,setS_len];exact hl
 have f9:A.fl=R.fl:=by rw[K];rfl
 have d7:=λj u O=>oO (ns:=R.fl.Lw) (l:=A.Lv) d6 T.length T rfl (t6.beh mt.fl) j u O;obtain⟨B,hB⟩:∃B,B=A.skips T:=⟨_,rfl⟩;have BT:B.Lv=T.foldl (dt R.fl.Lw) A.Lv:=by rw[hB];unfold Rn.skips;rw[f9]
 have d8:B.fl=R.fl:=by rw[hB];exact f9
 have d9:B.Lv.length=R.Lv.length:=by rw[BT,nD,d6,hl]
 rw[<-BT] at d7;rw[<-hB] at hp t7 ⊢;have E:∀(j:Nat) (u:Sp),B.Lv[j]?=some u->∃v,A.Lv[j]?=some v/\((v.state=1/\u={v with state:=7})\/(u=v/\¬(v.state=1/\∃y∈fP R.fl.Lw j,df B.Lv y 6=true\/df B.Lv y 7=true))):=λj u O=>by
  have Fd:j<A.Lv.length:=by have:=(gfGet.1 O).1;rw[d9] at this;rw[d6,<-hl];exact this
  have I:A.Lv[j]?=some (A.Lv[j]):=List.getElem?_eq_getElem Fd;refine⟨_,I,?_⟩;obtain⟨g1,g2⟩:=d7 j _ I
  by_cases hc:(A.Lv[j]).state=1/\∃y∈fP R.fl.Lw j,df B.Lv y 6=true\/df B.Lv y 7=true
  · have:=g1 ⟨t6.full j (by rw[<-d6];exact Fd),hc⟩
    rw[O] at this;injection this with this;exact .inl ⟨hc.1,this⟩
  · have:=g2 λh=>hc h.2
    rw[O] at this;injection this with this;exact .inr ⟨this,hc⟩
 have h5:∀u,df B.Lv u 5=df R.Lv u 5:=λu=>by
  have ha:df A.Lv u 5=df R.Lv u 5:=by rw[K];exact nn hs λ_=>by show(6:Int)=5<->_;omega
  rw[<-ha,Bool.eq_iff_iff,isAt_iff,isAt_iff];constructor
  · rintro⟨x,hx,e⟩
    obtain⟨v,I,⟨_,rfl⟩|⟨rfl,_⟩⟩:=E u x hx
    · replace e:(7:Int)=5:=e
      omega
    · exact⟨_,I,e⟩
  · rintro⟨x,hx,e⟩
    exact⟨x,(d7 u x hx).2 (λh=>by omega),e⟩
 have In:∀j,lm B j<->lm R j:=λj=>by
  unfold lm;rw[d8];simp only[h5]
 have h0:Hon0 B:=by
  refine⟨λj u O hr=>?_,λ_ j u O Y=>?_,λ_ j u O Y v I=>?_⟩
  · rw[In]
    obtain⟨v,I,⟨_,rfl⟩|⟨rfl,_⟩⟩:=E j u O
    · have:(2:Int)<=7/\(7:Int)<=6:=hr
      omega
    · rw[K] at I
      rcases iZ I with⟨rfl,rfl⟩|⟨_,I⟩
      · exact hH.h0.up _ s hs ai
      · exact hH.h0.up j _ I hr
  · rw[In]
    obtain⟨v,I,⟨_,rfl⟩|⟨rfl,_⟩⟩:=E j u O
    · replace Y:(7:Int)=1:=Y
      omega
    · rw[K] at I
      rcases iZ I with⟨rfl,rfl⟩|⟨_,I⟩
      · replace Y:(6:Int)=1:=Y
        omega
      · exact hH.h0.wt f8 j _ I Y
  · obtain⟨x,hx,⟨_,rfl⟩|⟨rfl,hc⟩⟩:=E j u O
    · replace Y:(7:Int)=1:=Y
      omega
    · rw[d8] at I
      constructor
      · cases hi:df B.Lv v 6 with
        | false=>rfl
        | true=>exact absurd ⟨Y,v,I,.inl hi⟩ hc
      · cases hi:df B.Lv v 7 with
        | false=>rfl
        | true=>exact absurd ⟨Y,v,I,.inr hi⟩ hc
 have t8:B.state=1:=by rw[hB,K];exact f8
 obtain⟨R',f7⟩:=t7.settled hp.get t8 h0;refine⟨R',Settled.mv hp (Fr.refl _ _) rfl rfl rfl f7 d8 d9 λj u O hu=>?_,?_⟩
 · have LB:A.Lv[j]?=some u:=by rw[K,kf O];exact hu
   obtain⟨g1,g2⟩:=d7 j u LB
   by_cases hc:u.state=1/\∃y∈fP R.fl.Lw j,df B.Lv y 6=true\/df B.Lv y 7=true
   · exact⟨_,g1 ⟨t6.full j (by rw[<-d6];exact(gfGet.1 LB).1),hc⟩,Nx.skip hc.1⟩
   · exact⟨_,g2 λh=>hc h.2,Nx.refl u⟩
 · have LC:A.Lv[k]?=some ⟨6,s.Lu,0⟩:=by rw[K];exact dM hs
   have LD:B.Lv[k]?=some ⟨6,s.Lu,0⟩:=(d7 k _ LC).2 λh=>by
    have:=h.2.1;replace this:(6:Int)=1:=this;omega
   obtain⟨s',g1,g2,g3⟩:=f7.Lv k _ LD;exact⟨s',g1,g3,g2.Lu⟩
end
structure Lone (id:Nat) (F:Flow) (S:En) (R:Rn):Prop where
 ok:Ok S
 get:S.getR id=some R
 fl:R.fl=F
 seed:S.seed=0
 alone:∀a A,a≠id->S.getR a=some A->A.state≠1
 hon:Hon R
 due:∀x∈S.tms,S.now<=x.2
structure Wt (R R':Rn):Prop where
 len:R'.Lv.length=R.Lv.length
 tr:∀(k:Nat) (s s':Sp),R.Lv[k]?=some s->R'.Lv[k]?=some s'->s.Lu<=s'.Lu/\(over s=true->s'.state=s.state)
 st:R.state≠1->R'.state=R.state
theorem Wt.refl (R:Rn):Wt R R:=⟨rfl,λk s s' h E=>by rw[h] at E;injection E with E;subst E;exact⟨Int.le_refl _,λ_=>rfl⟩,λ_=>rfl⟩
theorem Wt.trans {A B C:Rn} (h:Wt A B) (k:Wt B C):Wt A C:=⟨k.len.trans h.len,λj s s' K E=>by
 have I:j<B.Lv.length:=by rw[h.len];exact(gfGet.1 K).1
 have Y:B.Lv[j]?=some (B.Lv[j]):=List.getElem?_eq_getElem I;obtain⟨a1,a2⟩:=h.tr j s _ K Y;obtain⟨b1,b2⟩:=k.tr j _ s' Y E;refine⟨Int.le_trans a1 b1,λO=>?_⟩;have e:=a2 O;rw[<-e];exact b2 (by rw[over_iff] at O ⊢;omega),λT=>by
 have:=h.st T;rw[<-this];exact k.st (by rw[this];exact T)⟩
def Kl (id:Nat) (S:En) (R:Rn) (rd:Nat->Nat):Prop:=∀(k:Nat) (s:Sp),R.Lv[k]?=some s->(s.state=1\/s.state=2\/s.state=3->rd k<=S.now)/\(s.state=4->∀a,((⟨id,(k:Int),1⟩:Pl),a)∈S.tms->rd k<=a)
structure Hd where
 node:Nat
 tri:Int
 tok:Nat
structure Tsk (S:En) (R:Rn) (ts:List Hd):Prop where
 nd:(ts.map (·.tok)).Nodup
 low:∀a∈ts,1<=a.tok/\a.tok<=S.Ls
 at_:∀a∈ts,1<=a.tri/\∃s,R.Lv[a.node]?=some s/\a.tri<=s.Lu
 inj:∀a∈ts,∀b∈ts,a.node=b.node->a.tri=b.tri->a=b
 work:∀(k:Nat) (s:Sp),R.Lv[k]?=some s->s.state=3->⟨k,s.Lu,s.token⟩∈ts
theorem Lone.live {id:Nat} {F:Flow} {S:En} {R:Rn} (h:Lone id F S R) {a k:Nat} {s:Sp} (I:S.stp a k=some s) (K:s.state=1\/s.state=2\/s.state=3\/s.state=4):a=id/\R.Lv[k]?=some s:=by
 obtain⟨A,E,I⟩:=jO I;have T:=h.ok.running E I K;have:a=id:=Classical.byContradiction λO=>h.alone a A O E T;subst this;rw[h.get] at E;injection E with E;subst E;exact⟨rfl,I⟩
theorem Tsk.works {id:Nat} {F:Flow} {S:En} {R:Rn} {ts:List Hd} (h:Tsk S R ts) (I:Lone id F S R) {a:Hd} (Y:a∈ts) {s:Sp} (E:R.Lv[a.node]?=some s):(s.state=3/\s.Lu=a.tri)<->S.Ly.any (·.1==a.tok)=true:=by
 rw[List.any_eq_true];constructor
 · rintro⟨h3,O⟩
   have:=h.inj _ (h.work a.node s E h3) a Y rfl O;have e:s.token=a.tok:=by rw[<-this]
   exact⟨_,I.ok.task I.get E h3,by simpa using e⟩
 · rintro⟨⟨t,p⟩,hm,e⟩
   have e:t=a.tok:=by simpa using e
   subst e;obtain⟨i,k,u,rfl,K,h3,O⟩:=(I.ok.Ly _ _).1 hm;obtain⟨rfl,K⟩:=I.live K ai;have hb:=h.work k u K h3;have T:(⟨k,u.Lu,u.token⟩:Hd)=a:=fX h.nd hb Y O;rw[<-T] at E ⊢;simp only at E;rw[K] at E;injection E with E;subst E;exact⟨h3,rfl⟩
theorem Tsk.find {id:Nat} {F:Flow} {S:En} {R:Rn} {ts:List Hd} (h:Tsk S R ts) (E:Lone id F S R) {a:Hd} (O:a∈ts) {s:Sp} (K:R.Lv[a.node]?=some s) (h3:s.state=3) (T:s.Lu=a.tri):(S.Ly.find? (·.1==a.tok)).map (·.2)=some ⟨id,(a.node:Int),0⟩:=by
 have:=h.inj _ (h.work a.node s K h3) a O rfl T;have e:s.token=a.tok:=by rw[<-this]
 have I:=E.ok.task E.get K h3;rw[e] at I;cases hf:S.Ly.find? (·.1==a.tok) with
 | none=>
  have:=List.find?_eq_none.1 hf _ I;simp at this
 | some x=>
  have Y:=List.mem_of_find?_eq_some hf;have h2:=List.find?_some hf;have:x=(a.tok,⟨id,(a.node:Int),0⟩):=fX E.ok.tkeys Y I (by simpa using h2);rw[this]
  rfl
theorem lG {S:En} (h:S.now<=4611686018427387904) (n:Nat):S.now<=S.later n:=by unfold En.later;omega
section
variable {id k:Nat} {F:Flow} {S U:En} {R R':Rn} {new:List KD}
theorem Mv.lone (E:Mv id k S U R R' new) (K:Lone id F S R) (O:Ok U) (I:∀x∈new,S.now<=x.2):Lone id F U R':=
 ⟨O,E.get,E.fl.trans K.fl,E.seed.trans K.seed,λa A T Y=>K.alone a A T (by rw[<-E.others a T];exact Y),E.hon,λx hx=>by
  rw[E.now];rcases E.tms x hx with h|h
  · exact K.due x h
  · exact I x h⟩
theorem Mv.wt (O:Mv id k S U R R' new) (E:R.state=1) (hk:∀s s',R.Lv[k]?=some s->R'.Lv[k]?=some s'->s.Lu<=s'.Lu/\(over s=true->s'.state=s.state)):Wt R R':=
 ⟨O.len,λj s s' T I=>by
  by_cases hj:j=k
  · subst hj
    exact hk s s' T I
  · obtain⟨u,K,Y⟩:=O.Lv j s hj T
    rw[I] at K;injection K with K;subst K;exact⟨Int.le_of_eq Y.Lu.symm,Y.ov⟩,λh=>absurd E h⟩
theorem Mv.back (O:Mv id k S U R R' new) {j:Nat} {s':Sp} (Y:j≠k) (E:R'.Lv[j]?=some s'):∃s,R.Lv[j]?=some s/\Nx s s':=by
 have K:j<R.Lv.length:=by rw[<-O.len];exact(gfGet.1 E).1
 have T:R.Lv[j]?=some (R.Lv[j]):=List.getElem?_eq_getElem K;obtain⟨u,I,hn⟩:=O.Lv j _ Y T;rw[E] at I;injection I with I;subst I;exact⟨_,T,hn⟩
theorem Mv.rdy (O:Mv id k S U R R' new) {rd rd':Nat->Nat} (hr:Kl id S R rd) (T:∀x∈new,∃w,x.1=⟨id,(k:Int),w⟩) (Y:∀j,j≠k->rd' j=rd j)
 (hk:∀s',R'.Lv[k]?=some s'->(s'.state=1\/s'.state=2\/s'.state=3->rd' k<=U.now)/\(s'.state=4->∀a,((⟨id,(k:Int),1⟩:Pl),a)∈U.tms->rd' k<=a)):Kl id U R' rd':=by
 intro j s' E
 by_cases K:j=k
 · subst K
   exact hk s' E
 · obtain⟨s,hs,I⟩:=O.back K E
   obtain⟨a1,a2⟩:=hr j s hs;rw[Y j K,O.now];refine⟨λh=>a1 ?_,λh4 a ha=>?_⟩
   · rcases h with h|h|h
     · exact .inl (I.w1 h)
     · rcases I.w2 h with h|h
       · exact .inr (.inl h)
       · exact .inl h
     · have:=I.w3 h
       rw[<-this];exact .inr (.inr h)
   · rcases O.tms _ ha with h|h
     · exact a2 (I.w4 h4) a h
     · obtain⟨w,e⟩:=T _ h
       obtain⟨_,e,_⟩:=j5 e;exact absurd e K
theorem Mv.tsk (T:Mv id k S U R R' new) (Y:R.state=1) {ts:List Hd} (I:Tsk S R ts) (hk:∀s s',R.Lv[k]?=some s->R'.Lv[k]?=some s'->s.Lu<=s'.Lu/\(over s=true->s'.state=s.state)/\(s'.state=3->s'=s)):Tsk U R' ts:=by
 have hw:=T.wt Y λs s' h h'=>⟨(hk s s' h h').1,(hk s s' h h').2.1⟩;refine⟨I.nd,λa ha=>⟨(I.low a ha).1,Nat.le_trans (I.low a ha).2 T.Ls.1⟩,λa ha=>?_,I.inj,λj s' E h3=>?_⟩
 · obtain⟨h1,s,K,h2⟩:=I.at_ a ha
   have O:a.node<R'.Lv.length:=by rw[T.len];exact(gfGet.1 K).1
   have E:R'.Lv[a.node]?=some (R'.Lv[a.node]):=List.getElem?_eq_getElem O;exact⟨h1,_,E,Int.le_trans h2 (hw.tr _ _ _ K E).1⟩
 · by_cases hj:j=k
   · subst hj
     have O:j<R.Lv.length:=by rw[<-T.len];exact(gfGet.1 E).1
     have K:R.Lv[j]?=some (R.Lv[j]):=List.getElem?_eq_getElem O;have:=(hk _ _ K E).2.2 h3;rw[this] at h3 ⊢;exact I.work j _ K h3
   · obtain⟨s,K,hn⟩:=T.back hj E
     have:=hn.w3 h3;rw[this] at h3 ⊢;exact I.work j s K h3
theorem Fin.mv {st:Int} (h:Fin id S U R R' st) (E:st≠1) (K:Hon R'):Mv id R.Lv.length S U R R' []:=
 ⟨h.get,h.fr.others,h.fr.keys,h.fr.now,h.fr.seed,h.fr.Lt,⟨Nat.le_of_eq h.fr.Ls.symm,Nat.le_trans (Nat.le_of_eq h.fr.Ls) (Nat.le_succ _)⟩,Nat.le_of_eq h.ends,Nat.le_trans (Nat.le_of_eq h.sets) (Nat.le_add_right _ _),h.fl,h.len,λj s _ O=>⟨_,h.Lv j s O,Nx.ended s⟩,K,λx I=>.inl (h.tms x I),λe=>absurd (h.state.symm.trans e) E,λ_ x I=>by cases I⟩
end
structure Go (id:Nat) (F:Flow) (S U:En) (R R':Rn):Prop where
 lone:Lone id F U R'
 wt:Wt R R'
 rdy:∀rd,Kl id S R rd->Kl id U R' rd
 tsk:∀ts,Tsk S R ts->Tsk U R' ts
 now:S.now<=U.now
 keys:U.runs.map (·.1)=S.runs.map (·.1)
 Lt:U.Lt=S.Lt
 Ls:U.Ls<=S.Ls
theorem Go.refl {id:Nat} {F:Flow} {S:En} {R:Rn} (h:Lone id F S R):Go id F S S R R:=⟨h,Wt.refl R,λ_ h=>h,λ_ h=>h,cm _,rfl,rfl,cm _⟩
theorem Go.trans {id:Nat} {F:Flow} {S T U:En} {R A B:Rn} (h:Go id F S T R A) (k:Go id F T U A B):Go id F S U R B:=
 ⟨k.lone,h.wt.trans k.wt,λrd E=>k.rdy rd (h.rdy rd E),λts I=>k.tsk ts (h.tsk ts I),Nat.le_trans h.now k.now,k.keys.trans h.keys,k.Lt.trans h.Lt,Nat.le_trans k.Ls h.Ls⟩
theorem Lone.failed {id:Nat} {F:Flow} {S:En} {R:Rn} (E:Lone id F S R) {k:Nat} {s:Sp} (O:R.Lv[k]?=some s) (h3:s.state=3):∃R' s' n,F.Lw[k]?=some n/\R'.Lv[k]?=some s'/\s'.Lu=s.Lu/\(s'.state=4\/s'.state=6)/\∃new,Mv id k S (S.failed id k) R R' new/\(∀x∈new,S.now<=x.2)/\(∀x∈new,∃w,x.1=⟨id,(k:Int),w⟩)/\Ok (S.failed id k)/\(s'.state=4->R'.state=1/\R'=R.setS k ⟨4,s.Lu,0⟩/\new=[(⟨id,(k:Int),1⟩,S.later (fk n.base n.cap n.LA s.Lu 0).toNat)])/\(s'.state=6->new=[]):=by
 obtain⟨n,hn,hp⟩:=E.ok.node E.get O;have T:=E.ok.running E.get O ai;have K:=E.ok.failed E.get O h3;have Y:F.Lw[k]?=some n:=by rw[<-E.fl];exact hn
 have hf:=ku E.get O hn
 by_cases hb:s.Lu<n.Lz
 · rw[if_pos hb] at hf
   rw[hf] at K ⊢;refine⟨R.setS k ⟨4,s.Lu,0⟩,⟨4,s.Lu,0⟩,n,Y,dM O,rfl,.inl rfl,_,E.ok.rests_mv E.get O h3 _ E.hon,λx I=>?_,λx I=>?_,K,λ_=>⟨T,rfl,by rw[E.seed];rfl⟩,λe=>by replace e:(4:Int)=6:=e;omega⟩
   · rw[List.mem_singleton] at I
     subst I;exact lG E.ok.now _
   · rw[List.mem_singleton] at I
     subst I;exact⟨_,rfl⟩
 · rw[if_neg hb] at hf
   rw[hf] at K ⊢;obtain⟨R',hm,s',h1,h2,h4⟩:=E.ok.dies_mv E.get O hn h3 (by have:=hp.trb;omega) E.hon;exact⟨R',s',n,Y,h1,h4,.inr h2,[],hm,λx I=>(by cases I),λx I=>(by cases I),K,λe=>by omega,λ_=>rfl⟩
theorem tZ (E I K k:Int) (Y:1<=E) (h2:E<=I):1<=fk E I K k 0:=by
 unfold fk;have O:(0:Int)%(K+1)=0:=Int.zero_emod _;rw[O]
 split
 · omega
 · split
   · have T:(1:Int)<=2 ^ (k.toNat-1):=by
      have:=Nat.one_le_two_pow (n:=k.toNat-1)
      exact_mod_cast this
     have:E*1<=E*2 ^ (k.toNat-1):=Int.mul_le_mul_of_nonneg_left T ai;omega
   · omega
theorem Lone.due_go {id:Nat} {F:Flow} {S:En} {R:Rn} (hL:Lone id F S R) {x:KD} {tms':List KD} (hm:IsMin S.tms x tms'):∃R',Go id F S ({S with now:=x.2,tms:=tms'}.due x.1) R R':=by
 obtain⟨d7,LC,R1,f9,f7⟩:=hL.ok.pop hm;have Fd:=hm.mem;have mt:=hm.perm;have I:x.1.run=id:=Classical.byContradiction λhn=>hL.alone _ R1 hn f9 f7.1;have d8:R1=R:=by rw[I,hL.get] at f9;injection f9 with f9;exact f9.symm
 subst d8;have O:=f7.1;obtain⟨S1,d6⟩:∃S1:En,S1={S with now:=x.2,tms:=tms'}:=⟨_,rfl⟩;have K:Lone id F S1 R1:=by
  rw[d6];refine⟨d7,hL.get,hL.fl,hL.seed,hL.alone,hL.hon,λy hy=>?_⟩;exact hm.le y (mt.mem_iff.2 (.tail _ hy))
 have t8:∀rd,Kl id S R1 rd->Kl id S1 R1 rd:=λrd hr j s hs=>by
  obtain⟨a1,a2⟩:=hr j s hs;rw[d6];exact⟨λh=>Nat.le_trans (a1 h) (hL.due x Fd),λh a ha=>a2 h a (mt.mem_iff.2 (.tail _ ha))⟩
 have wf:∀ts,Tsk S R1 ts->Tsk S1 R1 ts:=λts h=>by
  rw[d6];exact⟨h.nd,h.low,h.at_,h.inj,h.work⟩
 have f8:Go id F S S1 R1 R1:=⟨K,Wt.refl _,t8,wf,by rw[d6];exact hL.due x Fd,by rw[d6],by rw[d6],by rw[d6];exact cm _⟩;rw[<-d6] at d7 ⊢;have d8:S1.getR x.1.run=some R1:=by rw[I];exact K.get
 have T:=d7.due d8 f7 (by rw[d6];exact LC);obtain⟨p,hp⟩:∃p,p=x.1:=⟨_,rfl⟩;rw[<-hp] at d8 f7 I T ⊢;rcases lU d8 f7 with⟨_,e⟩|⟨k,s,hs,⟨e1,h4,e⟩|⟨_,h3,e⟩⟩
 · rw[e,I] at T ⊢
   obtain⟨R',hF⟩:=d7.fin K.get 5;have E:=hF.mv di (hF.hon di di K.hon O);have t6:∀{α:Prop} (s:Sp),R1.Lv[R1.Lv.length]?=some s->α:=λs hs=>by
    have:=(gfGet.1 hs).1;omega
   refine⟨R',f8.trans ⟨E.lone K T (λx hx=>by cases hx),E.wt O λs s' h _=>t6 s h,λrd hr=>E.rdy hr (λx hx=>by cases hx) (λ_ _=>rfl) λs' BT=>?_,λts ht=>E.tsk O ht λs s' h _=>t6 s h,Nat.le_of_eq E.now.symm,E.keys,E.Lt,Nat.le_of_eq hF.fr.Ls⟩⟩;have:=(gfGet.1 BT).1;rw[hF.len] at this;omega
 · rw[e,I] at T ⊢
   have E:=Gv K.get hs O h4 K.hon;have hk:∀u u',R1.Lv[k]?=some u->(R1.setS k {s with state:=2}).Lv[k]?=some u'->u=s/\u'={s with state:=2}:=λu u' h Y=>by
    rw[hs] at h;rw[dM hs] at Y;injection h with h;injection Y with Y;exact⟨h.symm,Y.symm⟩
   have d9:¬over s=true:=by rw[over_iff];omega
   have LE:=E.lone K T (λx hx=>by cases hx);refine⟨_,⟨LE,E.wt O λu u' h Y=>?_,λrd hr=>E.rdy (t8 rd hr) (λx hx=>by cases hx) (λ_ _=>rfl) λu' Y=>?_,λts ht=>E.tsk O (wf ts ht) λu u' h Y=>?_,Nat.le_trans f8.now (Nat.le_of_eq E.now.symm),E.keys.trans f8.keys,E.Lt.trans f8.Lt,?_⟩⟩
   · obtain⟨rfl,rfl⟩:=hk u u' h Y
     exact⟨Int.le_refl _,λh=>absurd h d9⟩
   · obtain⟨_,rfl⟩:=hk s u' hs Y
     refine⟨λ_=>?_,λe=>by replace e:(2:Int)=4:=e;omega⟩;rw[E.now,d6];have In:((⟨id,(k:Int),1⟩:Pl),x.2)∈S.tms:=by
      rw[<-I,<-e1,hp];exact Fd
     exact(hr k s hs).2 h4 _ In
   · obtain⟨rfl,rfl⟩:=hk u u' h Y
     exact⟨Int.le_refl _,λh=>absurd h d9,λe=>by replace e:(2:Int)=3:=e;omega⟩
   · have:(S1.ready id k).Ls=S1.Ls:=(se K.get hs).1.Ls
     rw[this];exact f8.Ls
 · rw[e,I] at T ⊢
   obtain⟨R',s',n,hn,BT,ht,LF,new,E,t7,LD,_,h4,_⟩:=K.failed hs h3;have d9:¬over s=true:=by rw[over_iff];omega
   have hk:∀u u',R1.Lv[k]?=some u->R'.Lv[k]?=some u'->u=s/\u'=s':=λu u' h Y=>by
    rw[hs] at h;rw[BT] at Y;injection h with h;injection Y with Y;exact⟨h.symm,Y.symm⟩
   refine⟨R',f8.trans ⟨E.lone K T t7,E.wt O λu u' h Y=>?_,λrd hr=>E.rdy hr LD (λ_ _=>rfl) λu' Y=>?_,λts hT=>E.tsk O hT λu u' h Y=>?_,Nat.le_of_eq E.now.symm,E.keys,E.Lt,?_⟩⟩
   · obtain⟨rfl,rfl⟩:=hk u u' h Y
     exact⟨Int.le_of_eq ht.symm,λh=>absurd h d9⟩
   · obtain⟨_,rfl⟩:=hk s u' hs Y
     have LB:=(hr k s hs).1 (.inr (.inr h3));refine⟨λe=>by omega,λ_ a ha=>?_⟩;rcases E.tms _ ha with h|h
     · exact Nat.le_trans LB (K.due _ h)
     · exact Nat.le_trans LB (t7 _ h)
   · obtain⟨rfl,rfl⟩:=hk u u' h Y
     exact⟨Int.le_of_eq ht.symm,λh=>absurd h d9,λe=>by omega⟩
   · have:=(d7.due_less (by rw[I];exact K.get) f7).Ls
     rw[e,I] at this;exact Nat.le_of_eq this
theorem Ticks.go {up:Nat} {S U:En} (h:Ticks up S U):∀{id:Nat} {F:Flow} {R:Rn},S.now<=up->up<=4611686018427387904->Lone id F S R->∃R',Go id F S U R R'/\U.now=up/\∀x∈U.tms,up<x.2:=by
 induction h with
 | @done S hd=>
  intro id F R I K E;refine⟨R,⟨⟨E.ok.times (sets:=_) K E.ok.knd E.ok.tms,E.get,E.fl,E.seed,E.alone,E.hon,λx hx=>Nat.le_of_lt (hd x hx)⟩,Wt.refl _,λrd hr j s hs=>⟨λe=>Nat.le_trans ((hr j s hs).1 e) I,(hr j s hs).2⟩,λts O=>⟨O.nd,O.low,O.at_,O.inj,O.work⟩,I,rfl,rfl,cm _⟩,rfl,hd⟩
 | @step S U x tms' hm hx _ ih=>
  intro id F R I K E;obtain⟨R1,hg⟩:=E.due_go hm;have Y:({S with now:=x.2,tms:=tms'}.due x.1).now=x.2:=by
   obtain⟨T,d9,R1,d6,d7⟩:=E.ok.pop hm;exact(T.due_less d6 d7).now
  obtain⟨R2,d8,h1,h2⟩:=ih (by rw[Y];exact hx) K hg.lone;exact⟨R2,hg.trans d8,h1,h2⟩
theorem Ticks.bound {up:Nat} {S U:En} (h:Ticks up S U) (T:Ok S):U.sets<=S.sets+S.mass/\U.ends<=S.ends+S.mass/\U.Ls=S.Ls/\U.Lt=S.Lt:=by
 induction h with
 | done _=>exact⟨Nat.le_add_right _ _,Nat.le_add_right _ _,rfl,rfl⟩
 | @step S U x tms' hm hx _ ih=>
  obtain⟨E,Y,R1,I,K⟩:=T.pop hm;have O:=E.due_less I K;obtain⟨a1,a2,a3,a4⟩:=ih (E.due I K Y);have h1:({S with now:=x.2,tms:=tms'}.due x.1).mass<S.mass:=O.mass;have h2:({S with now:=x.2,tms:=tms'}.due x.1).sets<=S.sets+1:=O.sets;have h3:({S with now:=x.2,tms:=tms'}.due x.1).ends<=S.ends+1:=O.ends;exact⟨ai,ai,a3.trans O.Ls,a4.trans O.Lt⟩
structure Seen (id:Nat) (F:Flow) (S:En) (R:Rn) (rd:Nat->Nat) (ts:List Hd):Prop where
 lone:Lone id F S R
 rdy:Kl id S R rd
 tsk:Tsk S R ts
structure Few (n:Nat) (S:En):Prop where
 sets:S.sets<=100+200*n
 ends:S.ends<=100+200*n
 tok:S.Ls<=100+n
 run:S.Lt<=100
 now:S.now<=100+100*n
section
variable {id:Nat} {F:Flow} {S:En} {R:Rn} {rd:Nat->Nat} {ts:List Hd}
theorem Lone.head (h:Lone id F S R) {p:Pl} {q:List Pl} (K:S.Lx=p::q):∃(k:Nat) (s:Sp) (n:Node),p=⟨id,(k:Int),0⟩/\R.Lv[k]?=some s/\s.state=2/\F.Lw[k]?=some n/\s.Lu<n.Lz/\R.fl.Lw[k]?=some n:=by
 obtain⟨a,k,s,rfl,E,O⟩:=(h.ok.Lx p).1 (by rw[K];exact List.mem_cons_self);obtain⟨rfl,E⟩:=h.live E ai;obtain⟨n,I,T⟩:=h.ok.node h.get E;exact⟨k,s,n,rfl,E,O,by rw[<-h.fl];exact I,T.low ai,I⟩
theorem Seen.poll (h:Seen id F S R rd ts) {k:Nat} {q:List Pl} {s:Sp} {n:Node} (hq:S.Lx=⟨id,(k:Int),0⟩::q) (O:R.Lv[k]?=some s) (h2:s.state=2) (hn:R.fl.Lw[k]?=some n) :
 Seen id F (S.hand ⟨id,(k:Int),0⟩ q R s n) (R.setS k ⟨3,s.Lu+1,S.Ls+1⟩) rd (ts++[⟨k,s.Lu+1,S.Ls+1⟩])/\Wt R (R.setS k ⟨3,s.Lu+1,S.Ls+1⟩)/\rd k<=S.now/\(∀a∈ts,a.tok≠S.Ls+1)/\(S.hand ⟨id,(k:Int),0⟩ q R s n).Ls=S.Ls+1:=by
 have Y:=h.lone;have f9:=Y.ok.hand hq Y.get O hn;have hm:=Y.ok.hand_mv hq Y.get O hn Y.hon;have d7:=Y.ok.running Y.get O ai;have d8:∀x∈l8 S id k n,S.now<=x.2:=λx I=>by
  unfold l8 at I;rcases List.mem_cons.1 I with rfl|I
  · exact lG Y.ok.now _
  · split at I
    · rw[List.mem_singleton] at I
      subst I;exact lG Y.ok.now _
    · cases I
 have mt:∀x∈l8 S id k n,∃w,x.1=⟨id,(k:Int),w⟩:=λx I=>by
  unfold l8 at I;rcases List.mem_cons.1 I with rfl|I
  · exact⟨_,rfl⟩
  · split at I
    · rw[List.mem_singleton] at I
      subst I;exact⟨_,rfl⟩
    · cases I
 have d9:¬over s=true:=by rw[over_iff];omega
 have hk:∀u u',R.Lv[k]?=some u->(R.setS k ⟨3,s.Lu+1,S.Ls+1⟩).Lv[k]?=some u'->u=s/\u'=⟨3,s.Lu+1,S.Ls+1⟩:=λu u' a a'=>by
  rw[O] at a;rw[dM O] at a';injection a with a;injection a' with a';exact⟨a.symm,a'.symm⟩
 have hw:Wt R (R.setS k ⟨3,s.Lu+1,S.Ls+1⟩):=hm.wt d7 λu u' a a'=>by
  obtain⟨rfl,rfl⟩:=hk u u' a a';exact⟨by show _<=_+1;omega,λo=>absurd o d9⟩
 have f7:=(h.rdy k s O).1 (.inr (.inl h2));have K:∀a∈ts,a.tok≠S.Ls+1:=λa E=>by have:=(h.tsk.low a E).2;omega
 have d6:(S.hand ⟨id,(k:Int),0⟩ q R s n).Ls=S.Ls+1:=by
  rw[ri];unfold En.life
  split<;>rfl
 refine⟨⟨hm.lone Y f9 d8,hm.rdy h.rdy mt (λ_ _=>rfl) λs' f8=>?_,?_⟩,hw,f7,K,d6⟩
 · obtain⟨_,rfl⟩:=hk s s' O f8
   refine⟨λ_=>by rw[hm.now];exact f7,λe=>by replace e:(3:Int)=4:=e;omega⟩
 · refine⟨?_,λa E=>?_,λa E=>?_,λa E b T e1 e2=>?_,λj u hj h3=>?_⟩
   · rw[List.map_append,List.nodup_append]
     refine⟨h.tsk.nd,by simp,λx I y hy=>?_⟩;obtain⟨a,E,rfl⟩:=List.mem_map.1 I;simp at hy;subst hy;exact K a E
   · rw[d6]
     rcases List.mem_append.1 E with E|E
     · have:=h.tsk.low a E
       omega
     · rw[List.mem_singleton] at E
       subst E;simp
   · rcases List.mem_append.1 E with E|E
     · obtain⟨b1,u,hu,b2⟩:=h.tsk.at_ a E
       refine⟨b1,?_⟩
       by_cases e:a.node=k
       · rw[e] at hu ⊢
         rw[O] at hu;injection hu with hu;subst hu;exact⟨_,dM O,by show _<=s.Lu+1;omega⟩
       · exact⟨u,by rw[kf e];exact hu,b2⟩
     · rw[List.mem_singleton] at E
       subst E;obtain⟨_,_,hp⟩:=Y.ok.node Y.get O;have:=hp.tr0;exact⟨by show 1<=s.Lu+1;omega,_,dM O,Int.le_refl _⟩
   · have key:∀a∈ts,a.node=k->a.tri=s.Lu+1->False:=λa E e1 e2=>by
      obtain⟨_,u,hu,b2⟩:=h.tsk.at_ a E;rw[e1,O] at hu;injection hu with hu;subst hu;omega
     rcases List.mem_append.1 E with E|E
     · rcases List.mem_append.1 T with T|T
       · exact h.tsk.inj a E b T e1 e2
       · rw[List.mem_singleton] at T
         subst T;exact(key a E e1 e2).elim
     · rw[List.mem_singleton] at E
       subst E;rcases List.mem_append.1 T with T|T
       · exact(key b T e1.symm e2.symm).elim
       · rw[List.mem_singleton] at T
         exact T.symm
   · rcases iZ hj with⟨rfl,rfl⟩|⟨_,hj⟩
     · exact List.mem_append_right _ (List.mem_singleton.2 rfl)
     · exact List.mem_append_left _ (h.tsk.work j u hj h3)
theorem Seen.complete (h:Seen id F S R rd ts) {t k:Nat} {s:Sp} (ht:(S.Ly.find? (·.1==t)).map (·.2)=some ⟨id,(k:Int),0⟩) (hs:R.Lv[k]?=some s) (h3:s.state=3):∃R',Seen id F (S.complete t) R' rd ts/\Wt R R':=by
 have T:=h.lone;have d8:=T.ok.complete t;obtain⟨R',hm,s',d7,h5,Y⟩:=T.ok.complete_mv ht T.get hs h3 T.hon;have K:=T.ok.running T.get hs ai;have O:¬over s=true:=by rw[over_iff];omega
 have hk:∀u E,R.Lv[k]?=some u->R'.Lv[k]?=some E->u=s/\E=s':=λu E a I=>by
  rw[hs] at a;rw[d7] at I;injection a with a;injection I with I;exact⟨a.symm,I.symm⟩
 refine⟨R',⟨hm.lone T d8 (λx hx=>by cases hx),hm.rdy h.rdy (λx hx=>by cases hx) (λ_ _=>rfl) λE d6=>?_,hm.tsk K h.tsk λu E a I=>?_⟩,hm.wt K λu E a I=>?_⟩
 · obtain⟨_,rfl⟩:=hk s E hs d6
   exact⟨λe=>by omega,λe=>by omega⟩
 · obtain⟨rfl,rfl⟩:=hk u E a I
   exact⟨Int.le_of_eq Y.symm,λo=>absurd o O,λe=>by omega⟩
 · obtain⟨rfl,rfl⟩:=hk u E a I
   exact⟨Int.le_of_eq Y.symm,λo=>absurd o O⟩
theorem Seen.fail (h:Seen id F S R rd ts) {t k:Nat} {s:Sp} (ht:(S.Ly.find? (·.1==t)).map (·.2)=some ⟨id,(k:Int),0⟩) (hs:R.Lv[k]?=some s) (h3:s.state=3) {n:Node} (hn:F.Lw[k]?=some n) (t6:S.now+(fk n.base n.cap n.LA s.Lu 0).toNat<=4611686018427387904) {rd':Nat->Nat} (d8:∀j,j≠k->rd' j=rd j) (d9:rd' k=S.now+(fk n.base n.cap n.LA s.Lu 0).toNat):∃R',Seen id F (S.fail t) R' rd' ts/\Wt R R':=by
 have hL:=h.lone;have O:=hL.ok.running hL.get hs ai;have T:¬over s=true:=by rw[over_iff];omega
 rw[oJ ht];obtain⟨R',s',n',I,f8,Y,t7,t8,hm,d6,f9,d7,h4,h6⟩:=hL.failed hs h3;rw[hn] at I;injection I with I;subst I;have hk:∀u E,R.Lv[k]?=some u->R'.Lv[k]?=some E->u=s/\E=s':=λu E a K=>by
  rw[hs] at a;rw[f8] at K;injection a with a;injection K with K;exact⟨a.symm,K.symm⟩
 refine⟨R',⟨hm.lone hL d7 d6,hm.rdy h.rdy f9 d8 λE f7=>?_,hm.tsk O h.tsk λu E a K=>?_⟩,hm.wt O λu E a K=>?_⟩
 · obtain⟨_,rfl⟩:=hk s E hs f7
   refine⟨λe=>by omega,λe4 a ha=>?_⟩;obtain⟨g1,-,g3⟩:=h4 e4;have mt:=hm.newin g1 (⟨id,(k:Int),1⟩,S.later (fk n.base n.cap n.LA s.Lu 0).toNat) (by rw[g3];exact List.mem_singleton.2 rfl);have:=fX d7.knd ha mt rfl;injection this with _ e;rw[e,d9];unfold En.later;omega
 · obtain⟨rfl,rfl⟩:=hk u E a K
   exact⟨Int.le_of_eq Y.symm,λo=>absurd o T,λe=>by omega⟩
 · obtain⟨rfl,rfl⟩:=hk u E a K
   exact⟨Int.le_of_eq Y.symm,λo=>absurd o T⟩
theorem Seen.beat (h:Seen id F S R rd ts) {k:Nat} {wh:Int} {s:Sp} (T:R.Lv[k]?=some s) (h3:s.state=3) {n:Node}:Seen id F (S.life ⟨id,(k:Int),wh⟩ n) R rd ts:=by
 have K:=h.lone;have Y:=K.ok.running K.get T ai;have hm:=tO (wh:=wh) n K.get T K.hon;have d6:=K.ok.life (wh:=wh) n K.get T h3;have d7:¬over s=true:=by rw[over_iff];omega
 have O:∀x∈(if 0<n.beat then[((⟨id,(k:Int),2⟩:Pl),S.later n.beat.toNat)] else[]),S.now<=x.2/\∃w,x.1=⟨id,(k:Int),w⟩:=λx I=>by
  split at I
  · rw[List.mem_singleton] at I
    subst I;exact⟨lG K.ok.now _,_,rfl⟩
  · cases I
 refine⟨hm.lone K d6 λx I=>(O x I).1,hm.rdy h.rdy (λx I=>(O x I).2) (λ_ _=>rfl) λs' E=>?_,hm.tsk Y h.tsk λu u' a a'=>?_⟩
 · rw[T] at E
   injection E with E;subst E;have:=h.rdy k s T;exact⟨λe=>by rw[hm.now];exact this.1 e,λe=>by omega⟩
 · rw[a] at a'
   injection a' with a';subst a';exact⟨Int.le_refl _,λ_=>rfl,λ_=>rfl⟩
theorem Seen.tick (h:Seen id F S R rd ts) {n:Nat} {U:En} (I:Ticks (S.later n) S U):∃R',Seen id F U R' rd ts/\Wt R R'/\U.now=S.later n/\∀x∈U.tms,S.later n<x.2:=by
 obtain⟨R',E,K,O⟩:=I.go (lG h.lone.ok.now n) (m4 S n) h.lone;exact⟨R',⟨E.lone,E.rdy rd h.rdy,E.tsk ts h.tsk⟩,E.wt,K,O⟩
end
theorem Seen.begin {S:En} (d6:Ok S) (h5:S.runs.length<=5) {F:Flow} (hF:Fit F) (f9:S.seed=0) (d7:∀a A,S.getR a=some A->A.state≠1):∃R,Seen (S.Lt+1) F (S.submit F) R (λ_=>0) []/\R.state=1/\(∀(k:Nat) (s:Sp),R.Lv[k]?=some s->s.Lu=0/\s.token=0/\(s.state=1\/s.state=2))/\(S.submit F).now=S.now/\(S.submit F).tms=[(⟨S.Lt+1,-1,0⟩,S.later F.deadline.toNat)]/\(S.submit F).sets=S.sets+1/\(S.submit F).ends=S.ends/\(S.submit F).Ls=S.Ls/\(S.submit F).Lt=S.Lt+1:=by
 have d8:=d6.submit h5 hF;have wf:S.tms=[]:=by
  cases h:S.tms with
  | nil=>rfl
  | cons x l=>
   obtain⟨_,A,hA,I⟩:=d6.tms x (by rw[h];exact List.mem_cons_self);exact absurd I.1 (d7 _ A hA)
 obtain⟨T,I⟩:∃T,T=(S.begin F).setT ⟨S.Lt+1,-1,0⟩ (S.later F.deadline.toNat):=⟨_,rfl⟩;have d9:∀a,T.getR a=if a=S.Lt+1 then some (Rn.begun F) else S.getR a:=λa=>by
  rw[I];exact p8 d6 F a
 have t6:=d9 (S.Lt+1);rw[if_pos rfl] at t6;have hl:(Rn.begun F).Lv.length=(Rn.begun F).fl.Lw.length:=by simp[Rn.begun]
 obtain⟨w1,w2,w3,-⟩:=Ca t6 hl;have t7:S.submit F=T.wake (S.Lt+1):=by rw[I];rfl
 rw[t7] at d8 ⊢;have K:∀(k:Nat) (s:Sp),(Rn.begun F).Lv[k]?=some s->s=s1:=λk s E=>sI E;have mt:∀(k:Nat) (s:Sp),(fv (Rn.begun F) (Rn.begun F).Lv.length).Lv[k]?=some s->s=s1\/s={s1 with state:=2}:=λk s E=>by
  have BT:k<(Rn.begun F).Lv.length:=by have:=(gfGet.1 E).1;rwa [fZ] at this
  have h0:(Rn.begun F).Lv[k]?=some ((Rn.begun F).Lv[k]):=List.getElem?_eq_getElem BT;have Y:=gH (n:=(Rn.begun F).Lv.length) h0;rw[E] at Y;injection Y with Y;rw[K k _ h0] at Y
  split at Y
  · exact .inr Y
  · exact .inl Y
 have f7:(T.wake (S.Lt+1)).tms=[(⟨S.Lt+1,-1,0⟩,S.later F.deadline.toNat)]:=by
  rw[w3.tms,I];show(S.tms.filter _)++_=_;rw[wf]
  rfl
 have f8:(T.wake (S.Lt+1)).now=S.now:=by rw[w2.now,I];rfl
 have h0:Hon0 (fv (Rn.begun F) (Rn.begun F).Lv.length):=by
  refine Hon0.wake hl (λk s E hr=>?_) λk s E _ u _=>?_
  · rw[K k s E] at hr
    have:(2:Int)<=1/\(1:Int)<=6:=hr;omega
  · have:∀x,x≠1->df (Rn.begun F).Lv u x=false:=λx hx=>by
     cases h:df (Rn.begun F).Lv u x with
     | false=>rfl
     | true=>
      obtain⟨s,E,e⟩:=isAt_iff.1 h;rw[K u s E] at e;exact absurd e.symm hx
    exact⟨this 6 di,this 7 di⟩
 have O:(fv (Rn.begun F) (Rn.begun F).Lv.length).state=1:=rfl;have t8:0<(fv (Rn.begun F) (Rn.begun F).Lv.length).Lv.length:=by
  rw[fZ,hl];exact hF.head.2.1
 refine⟨fv (Rn.begun F) (Rn.begun F).Lv.length,⟨⟨d8,w1,rfl,?_,λa A ha hA=>?_,⟨h0,λ_=>?_,λe=>by rw[O] at e;omega,λe=>absurd O e⟩,λx hx=>?_⟩,λk s E=>?_,?_⟩,O,λk s E=>?_,f8,f7,?_,?_,?_,?_⟩
 · rw[w2.seed,I]
   exact f9
 · rw[w2.others a ha,d9,if_neg ha] at hA
   exact d7 a A hA
 · have Y:(fv (Rn.begun F) (Rn.begun F).Lv.length).Lv[0]?=some _:=List.getElem?_eq_getElem t8
   refine⟨0,_,Y,?_⟩;rw[sh];rcases mt 0 _ Y with e|e<;>rw[e]<;>decide
 · rw[f7,List.mem_singleton] at hx
   subst hx;rw[f8];exact lG d6.now _
 · exact⟨λ_=>Nat.zero_le _,λ_ _ _=>Nat.zero_le _⟩
 · refine⟨List.nodup_nil,λa ha=>(by cases ha),λa ha=>(by cases ha),λa ha=>(by cases ha),λk s E h3=>?_⟩
   rcases mt k s E with e|e<;>rw[e] at h3
   · replace h3:(1:Int)=3:=h3
     omega
   · replace h3:(2:Int)=3:=h3
     omega
 · rcases mt k s E with e|e<;>rw[e]
   · exact⟨rfl,rfl,.inl rfl⟩
   · exact⟨rfl,rfl,.inr rfl⟩
 · rw[w3.sets,I];rfl
 · rw[w3.ends,I];rfl
 · rw[w2.Ls,I];rfl
 · rw[w2.Lt,I];rfl
end FK

namespace FR
open FK (Pl KD)
section
end
open FK (Pl KD)
section
end
open FK (Pl KD)
section
variable {ns:List FK.Node} {l F:List FK.Sp}
end
open FK (Pl KD)
section
end
open FK (Pl KD)
section
end
open FK (Pl KD)
section
end
open FK (Pl KD)
structure Tmd where
 run:Nat
 node:Int
 due:Nat
 seq:Nat
def Tmd.lt (a b:Tmd):Prop:=a.due<b.due\/a.due=b.due/\a.seq<b.seq
instance (a b:Tmd):Decidable (a.lt b):=by unfold Tmd.lt;infer_instance
open FK (Pl KD)
theorem lx (a:Tmd):¬a.lt a:=by unfold Tmd.lt;omega
theorem mC {a b c:Tmd} (h:a.lt b) (k:b.lt c):a.lt c:=by unfold Tmd.lt at *;omega
theorem tj:∀{l m:List Tmd},l.Pairwise Tmd.lt->m.Pairwise Tmd.lt->(∀x,x∈l<->x∈m)->l=m
 | [],[],_,_,_=>rfl
 | [],b::m,_,_,h=>by have:=(h b).2 List.mem_cons_self;cases this
 | a::l,[],_,_,h=>by have:=(h a).1 List.mem_cons_self;cases this
 | a::l,b::m,hl,hm,h=>by
  rw[List.pairwise_cons] at hl hm;have O:a=b:=by
   rcases List.mem_cons.1 ((h a).1 List.mem_cons_self) with E|E
   · exact E
   · rcases List.mem_cons.1 ((h b).2 List.mem_cons_self) with K|K
     · exact K.symm
     · exact absurd (mC (hl.1 b K) (hm.1 a E)) (lx a)
  subst O
  congr 1
  refine tj hl.2 hm.2 λx=>⟨λI=>?_,λI=>?_⟩
  · rcases List.mem_cons.1 ((h x).1 (List.mem_cons_of_mem _ I)) with E|E
    · subst E;exact absurd (hl.1 _ I) (lx _)
    · exact E
  · rcases List.mem_cons.1 ((h x).2 (List.mem_cons_of_mem _ I)) with E|E
    · subst E;exact absurd (hm.1 _ I) (lx _)
    · exact E
section
end
structure Srt (X Y:List Tmd):Prop where
 perm:Y.Perm X
 srt:Y.Pairwise Tmd.lt
section
variable {A B l:List Tmd}
theorem xR (h:l.Pairwise Tmd.lt) {z:Tmd} (K:∀x∈l.getLast?,x.lt z):∀x∈l,x.lt z:=λx E=>by
 rcases List.eq_nil_or_concat l with rfl|⟨m,y,rfl⟩
 · cases E
 · have I:y.lt z:=K y cP
   rw[List.concat_eq_append] at h E;rw[List.pairwise_append] at h;rcases List.mem_append.1 E with E|E
   · exact mC (h.2.2 x E y cP) I
   · rw[List.mem_singleton.1 E];exact I
theorem xU (h:l.Pairwise Tmd.lt) {z:Tmd} (K:∀x∈l.head?,z.lt x):∀x∈l,z.lt x:=λx E=>by
 cases l with
 | nil=>cases E
 | cons y l=>
  have I:z.lt y:=K y cP;rw[List.pairwise_cons] at h;rcases List.mem_cons.1 E with rfl|E
  · exact I
  · exact mC I (h.1 x E)
theorem vz {m:List Tmd} (E:l.Pairwise Tmd.lt) (I:m.Pairwise Tmd.lt) (h:∀x∈l.getLast?,∀y∈m.head?,x.lt y):∀x∈l,∀y∈m,x.lt y:=λx K y O=>by
 refine xU I (λz T=>?_) y O;exact xR E (λw hw=>h w hw z T) x K
theorem Dy {K O T Y Y1 Y2:List Tmd} (hL:(K++O).Pairwise Tmd.lt) (hR:(T++Y).Pairwise Tmd.lt) (h1:∀x∈K.getLast?,∀y∈Y.head?,x.lt y) (h2:∀x∈T.getLast?,∀y∈O.head?,x.lt y) (k1:Srt (K++T) Y1) (k2:Srt (O++Y) Y2):Srt ((K++O)++(T++Y)) (Y1++Y2):=by
 rw[List.pairwise_append] at hL hR;refine⟨?_,?_⟩
 · refine(k1.perm.append k2.perm).trans ?_
   rw[List.append_assoc,List.append_assoc];refine List.Perm.append_left _ ?_;rw[<-List.append_assoc,<-List.append_assoc];exact List.Perm.append_right _ List.perm_append_comm
 · rw[List.pairwise_append]
   refine⟨k1.srt,k2.srt,λx E y I=>?_⟩;rcases List.mem_append.1 (k1.perm.mem_iff.1 E) with E|E<;>rcases List.mem_append.1 (k2.perm.mem_iff.1 I) with I|I
   · exact hL.2.2 x E y I
   · exact vz hL.1 hR.2.1 h1 x E y I
   · exact vz hR.1 hL.2.1 h2 x E y I
   · exact hR.2.2 x E y I
theorem qr {x:Tmd} (K:A.Pairwise Tmd.lt) (O:B.Pairwise Tmd.lt) (E:∀a∈A,∀b∈B,a.lt b) (Y:∀a∈A.getLast?,a.lt x) (h2:∀b∈B.head?,x.lt b):(A++x::B).Pairwise Tmd.lt:=by
 rw[List.pairwise_append,List.pairwise_cons];exact⟨K,⟨xU O h2,O⟩,λa T b I=>by
  rcases List.mem_cons.1 I with rfl|I
  · exact xR K Y a T
  · exact E a T b I⟩
theorem Srt.refl {X:List Tmd} (h:X.Pairwise Tmd.lt):Srt X X:=⟨List.Perm.refl _,h⟩
theorem Srt.left {x:Tmd} (h:(A++B).Pairwise Tmd.lt) (E:∀a∈A.getLast?,a.lt x) (I:∀b∈B.head?,x.lt b):Srt (x::(A++B)) (A++x::B):=by
 rw[List.pairwise_append] at h;exact⟨List.perm_middle,qr h.1 h.2.1 h.2.2 E I⟩
theorem Srt.right {x:Tmd} (h:(A++B).Pairwise Tmd.lt) (E:∀a∈A.getLast?,a.lt x) (I:∀b∈B.head?,x.lt b):Srt ((A++B)++[x]) (A++x::B):=by
 rw[List.pairwise_append] at h;refine⟨?_,qr h.1 h.2.1 h.2.2 E I⟩;refine List.perm_middle.trans ?_;exact List.perm_append_comm (l₁:=[x])
theorem Srt.unique {X Y Z:List Tmd} (h:Srt X Y) (k:Srt X Z):Y=Z:=tj h.srt k.srt λx=>by rw[h.perm.mem_iff,k.perm.mem_iff]
end
section
variable {A B M P Q l:List Tmd} {i j m:Nat} {y:Tmd}
theorem vK {U V W:List Tmd} {x:Tmd} {p q:Nat} (E:U.length=p) (I:p+1+V.length=q):(U++x::(V++y::W))[p]?=some x/\(U++x::(V++y::W))[q]?=some y/\((U++x::(V++y::W)).set p y).set q x=U++y::(V++x::W):=by
 subst E;subst I;refine⟨by simp,?_,?_⟩
 · rw[List.getElem?_append_right ai,show U.length+1+V.length-U.length=V.length+1 by omega]
   simp
 · rw[List.set_append_right _ _ (cm _),Nat.sub_self,List.set_cons_zero,List.set_append_right _ _ ai,show U.length+1+V.length-U.length=V.length+1 by omega,List.set_cons_succ,List.set_append_right _ _ (cm _),Nat.sub_self,List.set_cons_zero]
def gx (P A M B Q:List Tmd) (i:Nat):List Tmd:=P++(B.take i++(A.drop i++(M++(A.take i++(B.drop i++Q)))))
theorem wD (P A M B Q:List Tmd):gx P A M B Q 0=P++(A++(M++(B++Q))):=by simp[gx]
theorem yy (h:A.length=B.length):gx P A M B Q A.length=P++(B++(M++(A++Q))):=by
 unfold gx;rw[List.drop_of_length_le (cm _),List.take_of_length_le (cm A.length),List.take_of_length_le (by omega:B.length<=A.length),List.drop_of_length_le (by omega:B.length<=A.length)];simp
theorem yx (hi:i<=A.length) (h:A.length=B.length):(gx P A M B Q i).length=(P++(A++(M++(B++Q)))).length:=by
 simp only[gx,List.length_append,List.length_take,List.length_drop];omega
theorem wE {p q:Nat} {x:Tmd} (h:A.length=B.length) (E:A[i]?=some x) (I:B[i]?=some y) (hp:P.length+i=p) (hq:P.length+A.length+M.length+i=q) :
 (gx P A M B Q i)[p]?=some x/\(gx P A M B Q i)[q]?=some y/\((gx P A M B Q i).set p y).set q x=gx P A M B Q (i+1):=by
 obtain⟨hi,e1⟩:=gfGet.1 E;obtain⟨K,e2⟩:=gfGet.1 I;have O:A.drop i=x::A.drop (i+1):=by rw[List.drop_eq_getElem_cons hi,e1]
 have T:B.drop i=y::B.drop (i+1):=by rw[List.drop_eq_getElem_cons K,e2]
 have Y:A.take (i+1)=A.take i++[x]:=by rw[List.take_add_one,E];rfl
 have t2:B.take (i+1)=B.take i++[y]:=by rw[List.take_add_one,I];rfl
 have k:=vK (U:=P++B.take i) (V:=A.drop (i+1)++(M++A.take i)) (W:=B.drop (i+1)++Q) (x:=x) (y:=y) (p:=p) (q:=q) (by rw[List.length_append,List.length_take];omega) (by simp only[List.length_append,List.length_take,List.length_drop];omega);have e3:gx P A M B Q i=(P++B.take i)++x::((A.drop (i+1)++(M++A.take i))++y::(B.drop (i+1)++Q)):=by
  unfold gx;rw[O,T];simp
 have e4:gx P A M B Q (i+1)=(P++B.take i)++y::((A.drop (i+1)++(M++A.take i))++x::(B.drop (i+1)++Q)):=by
  unfold gx;rw[Y,t2];simp
 rw[e3,e4];exact k
theorem part_at {k n:Nat} (h:l.length=n) (E:k<=n):∃A B,l=A++B/\A.length=k/\B.length=n-k:=
 ⟨l.take k,l.drop k,(List.take_append_drop k l).symm,by rw[List.length_take];omega,by rw[List.length_drop];omega⟩
def Rot (l:List Tmd) (m i j:Nat) (fin:List Tmd):Prop:=∃P X Y Q,l=P++(X++(Y++Q))/\P.length+i=m/\X.length=i/\Y.length=j/\fin=P++(Y++(X++Q))
theorem Rot.right {fin:List Tmd} (h:Rot l m i j fin) (E:j<i):∃P A M B Q,l=P++(A++(M++(B++Q)))/\P.length+i=m/\A.length=j/\B.length=j/\M.length+j=i/\Rot (P++(B++(M++(A++Q)))) m (i-j) j fin:=by
 obtain⟨P,X,Y,Q,e1,e2,O,T,e5⟩:=h;obtain⟨A,M,I,K,e8⟩:=part_at O (Nat.le_of_lt E);refine⟨P,A,M,Y,Q,by rw[e1,I];simp,e2,K,T,ai,P++Y,M,A,Q,by simp,by simp;omega,e8,K,by rw[e5,I];simp⟩
theorem Rot.left {fin:List Tmd} (h:Rot l m i j fin) (I:i<j):∃P A M B Q,l=P++(A++(M++(B++Q)))/\P.length+i=m/\A.length=i/\B.length=i/\M.length+i=j/\Rot (P++(B++(M++(A++Q)))) m i (j-i) fin:=by
 obtain⟨P,X,Y,Q,e1,e2,K,O,T⟩:=h;obtain⟨M,B,E,e7,e8⟩:=part_at O (Nat.sub_le j i);refine⟨P,X,M,B,Q,by rw[e1,E];simp,e2,K,ai,ai,P,B,M,X++Q,by simp,e2,ai,ai,by rw[T,E];simp⟩
theorem Rot.same {fin:List Tmd} (h:Rot l m i i fin):∃P A B Q,l=P++(A++(B++Q))/\P.length+i=m/\A.length=i/\B.length=i/\fin=P++(B++(A++Q)):=h
theorem Rot.len {fin:List Tmd} (h:Rot l m i j fin):m+j<=l.length/\fin.length=l.length:=by
 obtain⟨P,X,Y,Q,e1,e2,I,K,E⟩:=h;rw[e1,E];simp only[List.length_append];omega
def vY (X Y:List Tmd):Prop:=∀x∈X,∀y∈Y,x.seq<y.seq
theorem kh {x:Tmd} (h:x.seq<y.seq) (k:x.due<=y.due):x.lt y:=by unfold Tmd.lt;omega
end
structure InsI (P X Q:List Tmd) (k:Nat) (l:List Tmd):Prop where
 ex:∃Y,l=P++(Y++(X.drop k++Q))/\Srt (X.take k) Y
theorem InsI.first (P X Q:List Tmd):InsI P X Q 1 (P++(X++Q)):=⟨X.take 1,by rw[<-List.append_assoc (X.take 1),List.take_append_drop],Srt.refl (by cases X<;>simp)⟩
theorem InsI.fin {P X Q l:List Tmd} {k:Nat} (h:InsI P X Q k l) (E:X.length<=k):∃Y,l=P++(Y++Q)/\Srt X Y:=by
 obtain⟨Y,e,s⟩:=h.ex;rw[List.drop_of_length_le E,List.nil_append] at e;rw[List.take_of_length_le E] at s;exact⟨Y,e,s⟩
structure InsJ (P X Q:List Tmd) (k j:Nat) (x:Tmd) (l:List Tmd):Prop where
 ex:∃A B,l=P++(A++x::(B++(X.drop (k+1)++Q)))/\Srt (X.take k) (A++B)/\P.length+A.length=j/\∀b∈B.head?,x.lt b
section
variable {P Q X l:List Tmd} {k:Nat}
theorem InsI.start {x:Tmd} (h:InsI P X Q k l) (E:X[k]?=some x):InsJ P X Q k (P.length+k) x l:=by
 obtain⟨Y,e,s⟩:=h.ex;obtain⟨I,e1⟩:=gfGet.1 E;refine⟨Y,[],?_,by simpa using s,?_,by simp⟩
 · rw[e,List.drop_eq_getElem_cons I,e1];simp
 · have:=s.perm.length_eq
   rw[List.length_take] at this;omega
theorem InsJ.len {j:Nat} {x:Tmd} (h:InsJ P X Q k j x l) (E:X[k]?=some x):l.length=(P++(X++Q)).length/\P.length<=j/\j<=P.length+k:=by
 obtain⟨A,B,e,s,I,K⟩:=h.ex;have O:=(gfGet.1 E).1;have:=s.perm.length_eq;rw[e];simp only[List.length_append,List.length_cons,List.length_take,List.length_drop] at this ⊢;omega
theorem InsJ.at {P X Q l:List Tmd} {k j:Nat} {x:Tmd} (h:InsJ P X Q k j x l):l[j]?=some x/\(P.length<j->∃z,l[j-1]?=some z/\z∈X.take k/\(x.due<z.due->InsJ P X Q k (j-1) x ((l.set j z).set (j-1) x))):=by
 obtain⟨A,B,e,s,I,E⟩:=h.ex;refine⟨?_,λO=>?_⟩
 · rw[e,<-List.append_assoc,List.getElem?_append_right (by simp;omega)]
   simp[I]
 · rcases List.eq_nil_or_concat A with rfl|⟨A',z,rfl⟩
   · simp at I;omega
   · rw[List.concat_eq_append] at *
     have T:P.length+A'.length+1=j:=by simp at I;omega
     have e2:l=(P++A')++z::([]++x::(B++(X.drop (k+1)++Q))):=by rw[e];simp
     obtain⟨k1,k2,K⟩:=vK (U:=P++A') (V:=[]) (W:=B++(X.drop (k+1)++Q)) (x:=z) (y:=x) (p:=j-1) (q:=j) (by simp;omega) (by simp;omega);rw[<-e2] at k1 k2 K;refine⟨z,k1,s.perm.mem_iff.1 cP,λhd=>⟨A',z::B,?_,by simpa using s,ai,λb E=>?_⟩⟩
     · rw[List.set_comm _ _ ai,K];simp
     · simp at E;subst E;exact .inl hd
theorem InsJ.fin {j:Nat} {x:Tmd} (h:InsJ P X Q k j x l) (O:X[k]?=some x) (T:X.Pairwise λa b=>a.seq<b.seq) (Y:P.length<j->∀z,l[j-1]?=some z->¬x.due<z.due):InsI P X Q (k+1) l:=by
 obtain⟨A,B,e,s,I,hB⟩:=h.ex;refine⟨A++x::B,by rw[e];simp,?_⟩;rw[List.take_add_one,O];have hA:∀a∈A.getLast?,a.lt x:=λa E=>by
  rcases List.eq_nil_or_concat A with rfl|⟨A',z,rfl⟩
  · cases E
  · rw[List.concat_eq_append] at *
    simp at E;subst E;have hm:z∈X.take k:=s.perm.mem_iff.1 cP;have e2:l=(P++A')++z::(x::(B++(X.drop (k+1)++Q))):=by rw[e];simp
    have:=Y (by simp at I;omega) z (by rw[e2,List.getElem?_append_right (by simp at I ⊢;omega)];simp at I;simp[show j-1-(P.length+A'.length)=0 by omega]);obtain⟨i,hi⟩:=List.getElem?_of_mem hm;rw[List.getElem?_take] at hi
    split at hi
    · rename_i K
      obtain⟨h1,h2⟩:=gfGet.1 hi;obtain⟨h3,h4⟩:=gfGet.1 O;have:=List.pairwise_iff_getElem.1 T i k h1 h3 K;rw[h2,h4] at this;exact kh this ai
    · cases hi
 have r:=Srt.right s.srt hA hB;exact⟨r.perm.trans (List.Perm.append_right _ s.perm),r.srt⟩
end
structure Mrg (P L R Q l:List Tmd) (a m b:Nat):Prop where
 is:l=P++(L++(R++Q))
 hP:P.length=a
 hL:a+L.length=m
 hR:m+R.length=b
 sL:L.Pairwise Tmd.lt
 sR:R.Pairwise Tmd.lt
 bf:vY L R
section
variable {L P Q R l:List Tmd} {a b i m:Nat} {y:Tmd}
theorem Mrg.len (h:Mrg P L R Q l a m b):b<=l.length:=by
 obtain⟨e,E,I,h3,_⟩:=h;rw[e];simp only[List.length_append];omega
theorem Mrg.left (h:Mrg P L R Q l a m b) (E:a<=i) (I:i<m):∃x,l[i]?=some x/\L[i-a]?=some x:=by
 obtain⟨e,k1,k2,K,_⟩:=h;refine⟨L[i-a]'ai,?_,by simp⟩;rw[e,List.getElem?_append_right ai,List.getElem?_append_left ai,k1];simp
theorem Mrg.right (h:Mrg P L R Q l a m b) (E:m<=i) (I:i<b):∃x,l[i]?=some x/\R[i-m]?=some x:=by
 obtain⟨e,k1,k2,K,_⟩:=h;refine⟨R[i-m]'ai,?_,by simp⟩;rw[e,List.getElem?_append_right ai,List.getElem?_append_right ai,List.getElem?_append_left ai,k1,show i-a-L.length=i-m by omega];simp
theorem oX {x:Tmd} (h:x∈l.head?):l[0]?=some x:=by cases l<;>simp_all
theorem oU {x:Tmd} (h:x∈l.getLast?):l[l.length-1]?=some x:=by rw[<-List.getLast?_eq_getElem?];exact h
theorem FL {x:Tmd} (h:x.lt y):x.due<=y.due:=by unfold Tmd.lt at h;omega
theorem zT (h:vY L R) {x:Tmd} {j:Nat} (E:L[i]?=some x) (I:R[j]?=some y):x.seq<y.seq:=h x (du E) y (du I)
theorem gY (h:L.Pairwise Tmd.lt) {j:Nat} {x:Tmd} (O:L[i]?=some x) (E:L[j]?=some y) (I:i<=j):x.due<=y.due:=by
 obtain⟨T,e1⟩:=gfGet.1 O;obtain⟨Y,e2⟩:=gfGet.1 E;rcases Nat.lt_or_eq_of_le I with K|rfl
 · have:=List.pairwise_iff_getElem.1 h i j T Y K
   rw[e1,e2] at this;exact FL this
 · rw[O] at E
   injection E with E;rw[E];exact cm _
end
structure Put1 (P R Q l:List Tmd) (x:Tmd) (a b i j:Nat):Prop where
 i1:a+1<=i
 i2:i<=j
 i3:j<=b
 lo:∀k y,a+1<=k->k<i->l[k]?=some y->y.due<x.due
 hi:∀k y,j<=k->k<b->l[k]?=some y->x.due<=y.due
section
variable {P Q R l:List Tmd} {a b i:Nat}
theorem Put1.init {x:Tmd} (h:a+1<=b):Put1 P R Q l x a b (a+1) b:=⟨cm _,h,cm _,λk y E I=>by omega,λk y E I=>by omega⟩
theorem Put1.up {x:Tmd} {j h:Nat} (m:Mrg P [x] R Q l a (a+1) b) (p:Put1 P R Q l x a b i j) (h1:i<=h) (I:h<j) {y:Tmd} (K:l[h]?=some y) (hd:y.due<x.due):Put1 P R Q l x a b (h+1) j:=by
 obtain⟨p1,p2,T,p4,Y⟩:=p;refine⟨ai,I,T,λk z k1 k2 O=>?_,Y⟩;obtain⟨z',e1,e2⟩:=m.right k1 (by omega:k<b);obtain⟨y',E,e4⟩:=m.right (by omega:a+1<=h) (by omega:h<b);rw[O] at e1;injection e1 with e1;subst e1;rw[K] at E;injection E with E;subst E;have:=gY m.sR e2 e4 ai;omega
theorem Put1.down {x:Tmd} {j h:Nat} (m:Mrg P [x] R Q l a (a+1) b) (p:Put1 P R Q l x a b i j) (I:i<=h) (h2:h<j) {y:Tmd} (K:l[h]?=some y) (hd:¬y.due<x.due):Put1 P R Q l x a b i h:=by
 obtain⟨p1,p2,p3,T,p5⟩:=p;refine⟨p1,I,ai,T,λk z k1 k2 O=>?_⟩;obtain⟨z',e1,e2⟩:=m.right (by omega:a+1<=k) k2;obtain⟨y',E,Y⟩:=m.right (by omega:a+1<=h) (by omega:h<b);rw[O] at e1;injection e1 with e1;subst e1;rw[K] at E;injection E with E;subst E;have:=gY m.sR Y e2 ai;omega
theorem Put1.fin {x:Tmd} (m:Mrg P [x] R Q l a (a+1) b) (p:Put1 P R Q l x a b i i):∃A B,R=A++B/\a+1+A.length=i/\Srt ([x]++R) (A++x::B):=by
 obtain⟨p1,p2,p3,O,T⟩:=p;have hR:=m.hR;obtain⟨A,B,e,h1,h2⟩:=part_at (l:=R) (k:=i-(a+1)) rfl ai;refine⟨A,B,e,ai,?_⟩;have I:=m.sR;rw[e] at I ⊢;refine Srt.left I (λz E=>?_) λz E=>?_
 · have g:=oU E
   have Y:A≠[]:=λh=>by rw[h] at E;cases E
   have K:0<A.length:=List.length_pos_iff.2 Y;obtain⟨y,e1,e2⟩:=m.right (i:=i-1) ai ai;have:R[i-1-(a+1)]?=some z:=by rw[e,List.getElem?_append_left ai,show i-1-(a+1)=A.length-1 by omega];exact g
   rw[e2] at this;injection this with this;subst this;exact .inl (O _ _ ai ai e1)
 · have g:=oX E
   have hB:=(gfGet.1 g).1;obtain⟨y,e1,e2⟩:=m.right (i:=i) ai ai;have:R[i-(a+1)]?=some z:=by rw[e,List.getElem?_append_right ai,show i-(a+1)-A.length=0 by omega];exact g
   rw[e2] at this;injection this with this;subst this;exact kh (zT m.bf (i:=0) rfl e2) (T _ _ (cm _) ai e1)
end
structure Put2 (P L Q l:List Tmd) (x:Tmd) (a m i j:Nat):Prop where
 i1:a<=i
 i2:i<=j
 i3:j<=m
 lo:∀k y,a<=k->k<i->l[k]?=some y->y.due<=x.due
 hi:∀k y,j<=k->k<m->l[k]?=some y->x.due<y.due
section
variable {L P Q l:List Tmd} {a i m:Nat}
theorem Put2.init {x:Tmd} (h:a<=m):Put2 P L Q l x a m a m:=⟨cm _,h,cm _,λk y E I=>by omega,λk y E I=>by omega⟩
theorem Put2.up {x:Tmd} {j h:Nat} (mm:Mrg P L [x] Q l a m (m+1)) (p:Put2 P L Q l x a m i j) (h1:i<=h) (I:h<j) {y:Tmd} (K:l[h]?=some y) (hd:¬x.due<y.due):Put2 P L Q l x a m (h+1) j:=by
 obtain⟨p1,p2,T,p4,Y⟩:=p;refine⟨ai,I,T,λk z k1 k2 O=>?_,Y⟩;obtain⟨z',e1,e2⟩:=mm.left k1 (by omega:k<m);obtain⟨y',E,e4⟩:=mm.left (by omega:a<=h) (by omega:h<m);rw[O] at e1;injection e1 with e1;subst e1;rw[K] at E;injection E with E;subst E;have:=gY mm.sL e2 e4 ai;omega
theorem Put2.down {x:Tmd} {j h:Nat} (mm:Mrg P L [x] Q l a m (m+1)) (p:Put2 P L Q l x a m i j) (I:i<=h) (h2:h<j) {y:Tmd} (K:l[h]?=some y) (hd:x.due<y.due):Put2 P L Q l x a m i h:=by
 obtain⟨p1,p2,p3,T,p5⟩:=p;refine⟨p1,I,ai,T,λk z k1 k2 O=>?_⟩;obtain⟨z',e1,e2⟩:=mm.left (by omega:a<=k) k2;obtain⟨y',E,Y⟩:=mm.left (by omega:a<=h) (by omega:h<m);rw[O] at e1;injection e1 with e1;subst e1;rw[K] at E;injection E with E;subst E;have:=gY mm.sL Y e2 ai;omega
theorem Put2.fin {x:Tmd} (mm:Mrg P L [x] Q l a m (m+1)) (p:Put2 P L Q l x a m i i):∃A B,L=A++B/\a+A.length=i/\Srt (L++[x]) (A++x::B):=by
 obtain⟨p1,p2,p3,T,Y⟩:=p;have hL:=mm.hL;obtain⟨A,B,e,h1,h2⟩:=part_at (l:=L) (k:=i-a) rfl ai;refine⟨A,B,e,ai,?_⟩;have K:=mm.sL;have I:=mm.bf;rw[e] at K ⊢;refine Srt.right K (λz E=>?_) λz E=>?_
 · have g:=oU E
   have hA:A≠[]:=λh=>by rw[h] at E;cases E
   have O:0<A.length:=List.length_pos_iff.2 hA;obtain⟨y,e1,e2⟩:=mm.left (i:=i-1) ai ai;have:L[i-1-a]?=some z:=by rw[e,List.getElem?_append_left ai,show i-1-a=A.length-1 by omega];exact g
   rw[e2] at this;injection this with this;subst this;exact kh (zT I e2 (j:=0) rfl) (T _ _ ai ai e1)
 · have g:=oX E
   have hB:=(gfGet.1 g).1;obtain⟨y,e1,e2⟩:=mm.left (i:=i) ai ai;have:L[i-a]?=some z:=by rw[e,List.getElem?_append_right ai,show i-a-A.length=0 by omega];exact g
   rw[e2] at this;injection this with this;subst this;exact .inl (Y _ _ (cm _) ai e1)
end
structure Cut (l:List Tmd) (a m b d s r:Nat):Prop where
 s1:a<=s
 s2:d<=s+b
 s3:s<=r
 s4:r<=m
 s5:r+m<=d
 lo:∀k x y,a<=k->d<=k+b->k<s->l[k]?=some x->l[d-1-k]?=some y->x.due<=y.due
 hi:∀k x y,r<=k->k<m->k+m<d->l[k]?=some x->l[d-1-k]?=some y->y.due<x.due
section
variable {L P Q R l:List Tmd} {a b d h m r s:Nat}
theorem Cut.init (E:a<=s) (I:d<=s+b) (h3:s<=r) (K:r<=m) (O:r+m<=d) (Y:s=a\/d=s+b) (h7:r=m\/r+m=d):Cut l a m b d s r:=
 ⟨E,I,h3,K,O,λk x y k1 k2 T=>by omega,λk x y k1 k2 T=>by omega⟩
theorem Cut.pair (mm:Mrg P L R Q l a m b) (c:Cut l a m b d s r) (K:s<=h) (O:h<r):∃x y,l[h]?=some x/\l[d-1-h]?=some y/\L[h-a]?=some x/\R[d-1-h-m]?=some y:=by
 obtain⟨T,Y,c3,c4,c5,_,_⟩:=c;obtain⟨x,e1,e2⟩:=mm.left (i:=h) ai ai;obtain⟨y,E,I⟩:=mm.right (i:=d-1-h) ai ai;exact⟨x,y,e1,E,e2,I⟩
theorem Cut.up (mm:Mrg P L R Q l a m b) (c:Cut l a m b d s r) (O:s<=h) (K:h<r) {x y:Tmd} (T:l[h]?=some x) (Y:l[d-1-h]?=some y) (hd:¬y.due<x.due):Cut l a m b d (h+1) r:=by
 obtain⟨x',y',e1,e2,e3,e4⟩:=c.pair mm O K;obtain⟨c1,c2,c3,c4,c5,c6,c7⟩:=c;rw[T] at e1;injection e1 with e1;subst e1;rw[Y] at e2;injection e2 with e2;subst e2;refine⟨ai,ai,K,c4,c5,λk u v k1 k2 k3 hu hv=>?_,c7⟩;obtain⟨u',E,f2⟩:=mm.left k1 (by omega:k<m);obtain⟨v',I,f4⟩:=mm.right (i:=d-1-k) ai ai;rw[hu] at E;injection E with E;subst E;rw[hv] at I;injection I with I;subst I;have g1:=gY mm.sL f2 e3 ai;have g2:=gY mm.sR e4 f4 ai;omega
theorem Cut.down (mm:Mrg P L R Q l a m b) (c:Cut l a m b d s r) (K:s<=h) (O:h<r) {x y:Tmd} (T:l[h]?=some x) (Y:l[d-1-h]?=some y) (hd:y.due<x.due):Cut l a m b d s h:=by
 obtain⟨x',y',e1,e2,e3,e4⟩:=c.pair mm K O;obtain⟨c1,c2,c3,c4,c5,c6,c7⟩:=c;rw[T] at e1;injection e1 with e1;subst e1;rw[Y] at e2;injection e2 with e2;subst e2;refine⟨c1,c2,K,ai,ai,c6,λk u v k1 k2 k3 hu hv=>?_⟩;obtain⟨u',E,f2⟩:=mm.left (i:=k) ai k2;obtain⟨v',I,f4⟩:=mm.right (i:=d-1-k) ai ai;rw[hu] at E;injection E with E;subst E;rw[hv] at I;injection I with I;subst I;have g1:=gY mm.sL e3 f2 ai;have g2:=gY mm.sR f4 e4 ai;omega
end
structure Halves (P L R Q l:List Tmd) (a m b s e:Nat) (L1 L2 R1 R2:List Tmd):Prop where
 eL:L=L1++L2
 eR:R=R1++R2
 h1:a+L1.length=s
 h2:m+R1.length=e
 h3:s+L2.length=m
 h4:e+R2.length=b
 join:∀Y1 Y2,Srt (L1++R1) Y1->Srt (L2++R2) Y2->Srt (L++R) (Y1++Y2)
theorem Cut.fin {P L R Q l:List Tmd} {a m b d s:Nat} (mm:Mrg P L R Q l a m b) (c:Cut l a m b d s s):∃K L2 O R2,Halves P L R Q l a m b s (d-s) K L2 O R2:=by
 obtain⟨c1,c2,c3,c4,c5,c6,c7⟩:=c;have hL:=mm.hL;have hR:=mm.hR;obtain⟨K,L2,T,l1,l2⟩:=part_at (l:=L) (k:=s-a) rfl ai;obtain⟨O,R2,Y,r1,r2⟩:=part_at (l:=R) (k:=d-s-m) rfl ai;refine⟨K,L2,O,R2,T,Y,ai,ai,ai,ai,λY1 Y2 k1 k2=>?_⟩;have sL:=mm.sL;have sR:=mm.sR;have bf:=mm.bf;have key:Srt ((K++L2)++(O++R2)) (Y1++Y2):=by
  refine Dy (T▸sL) (Y▸sR) (λx hx y hy=>?_) (λx hx y hy=>?_) k1 k2
  · have g1:=oU hx
    have g2:=oX hy;have n1:=(gfGet.1 g1).1;have n2:=(gfGet.1 g2).1;obtain⟨x',e1,e2⟩:=mm.left (i:=s-1) ai ai;obtain⟨y',e3,e4⟩:=mm.right (i:=d-1-(s-1)) ai ai;have E:L[s-1-a]?=some x:=by rw[T,List.getElem?_append_left ai,show s-1-a=K.length-1 by omega];exact g1
    have I:R[d-1-(s-1)-m]?=some y:=by rw[Y,List.getElem?_append_right ai,show d-1-(s-1)-m-O.length=0 by omega];exact g2
    rw[e2] at E;injection E with E;subst E;rw[e4] at I;injection I with I;subst I;exact kh (zT bf e2 e4) (c6 _ _ _ ai ai ai e1 e3)
  · have g1:=oU hx
    have g2:=oX hy;have n1:=(gfGet.1 g1).1;have n2:=(gfGet.1 g2).1;obtain⟨y',e1,e2⟩:=mm.left (i:=s) ai ai;obtain⟨x',e3,e4⟩:=mm.right (i:=d-1-s) ai ai;have E:L[s-a]?=some y:=by rw[T,List.getElem?_append_right ai,show s-a-K.length=0 by omega];exact g2
    have I:R[d-1-s-m]?=some x:=by rw[Y,List.getElem?_append_left ai,show d-1-s-m=O.length-1 by omega];exact g1
    rw[e2] at E;injection E with E;subst E;rw[e4] at I;injection I with I;subst I;exact .inl (c7 _ _ _ (cm _) ai ai e1 e3)
 rw[T,Y];exact key
inductive Blk (n:Nat):List Tmd->List Tmd->Prop where
 | short {X Y:List Tmd}:X.length<=n->Srt X Y->Blk n X Y
 | more {X Y X' Y':List Tmd}:X.length=n->Srt X Y->Blk n X' Y'->Blk n (X++X') (Y++Y')
theorem Srt.len {X Y:List Tmd} (h:Srt X Y):Y.length=X.length:=h.perm.length_eq
theorem Srt.nil:Srt [] []:=⟨List.Perm.refl _,List.Pairwise.nil⟩
theorem Blk.perm {n:Nat} {X Y:List Tmd} (h:Blk n X Y):Y.Perm X:=by
 induction h with
 | short _ h=>exact h.perm
 | more _ h _ E=>exact h.perm.append E
theorem Blk.part {n:Nat} {X Y:List Tmd} (h:Blk n X Y) (E:n<=X.length):∃A B C D,X=A++B/\Y=C++D/\A.length=n/\Srt A C/\Blk n B D:=by
 cases h with
 | short h k=>exact⟨X,[],Y,[],by simp,by simp,ai,k,.short cP Srt.nil⟩
 | @more A C B D h k b=>exact⟨A,B,C,D,rfl,rfl,h,k,b⟩
theorem Blk.all {n:Nat} {X Y:List Tmd} (h:Blk n X Y) (E:X.length<=n):Srt X Y:=by
 cases h with
 | short h k=>exact k
 | @more A C B D h k b=>
  simp at E;obtain rfl:B=[]:=List.eq_nil_of_length_eq_zero ai;obtain rfl:D=[]:=List.eq_nil_of_length_eq_zero (by have:=b.perm.length_eq;simpa using this);simpa using k
structure BlkTo (n:Nat) (X l:List Tmd) (a:Nat) (U V:List Tmd):Prop where
 ex:∃A Z,X=A++U/\l=Z++V/\A.length=a/\Z.length=a/\∀U' V',Blk n U' V'->Blk n (A++U') (Z++V')
theorem BlkTo.init (n:Nat) (X l:List Tmd):BlkTo n X l 0 X l:=⟨[],[],rfl,rfl,rfl,rfl,λ_ _ h=>h⟩
theorem BlkTo.fin {n a:Nat} {X l U V:List Tmd} (h:BlkTo n X l a U V) (k:Blk n U V):Blk n X l:=by
 obtain⟨A,Z,e1,e2,_,_,h⟩:=h.ex;rw[e1,e2];exact h _ _ k
theorem BlkTo.more {n a:Nat} {X l U V C D Y W:List Tmd} (h:BlkTo n X l a U V) (I:U=C++D) (K:C.length=n) (E:Srt C Y):BlkTo n X (l.take a++(Y++W)) (a+n) D W:=by
 obtain⟨A,Z,e1,e2,h1,h2,h⟩:=h.ex;refine⟨A++C,Z++Y,by rw[e1,I];simp,?_,by simp;omega,by rw[List.length_append,E.len];omega,λO T k=>?_⟩
 · rw[e2,List.take_append_of_le_length ai,List.take_of_length_le ai];simp
 · rw[List.append_assoc,List.append_assoc]
   exact h _ _ (.more K E k)
end FR

namespace FK
section
variable {b:List UInt8} {n p:Nat}
def At (b:List UInt8) (p:Nat) (l:List UInt8):Prop:=∀i,i<l.length->b[p+i]?=l[i]?
theorem At.append {l m:List UInt8} (h:At b p (l++m)):At b p l/\At b (p+l.length) m:=by
 constructor
 · intro i hi
   rw[h i (by simp;omega),List.getElem?_append_left hi]
 · intro i hi
   have:=h (l.length+i) (by simp;omega);rw[Nat.add_assoc,this,List.getElem?_append_right ai]
   congr 1;omega
theorem Io (b:List UInt8):At b 0 b:=by intro i _;simp
theorem kg (h:n<128):co n=[UInt8.ofNat n]:=by rw[co,if_pos h]
theorem me (h:¬n<128):co n=UInt8.ofNat (n%128+128)::co (n/128):=by rw[co,if_neg h]
theorem x9 (n:Nat):0<(co n).length:=by
 rw[co];split<;>simp
theorem dL (h:n<2097152):(co n).length<=3:=by
 by_cases E:n<128
 · rw[kg E];simp
 · rw[me E]
   by_cases I:n/128<128
   · rw[kg I];simp
   · rw[me I,kg ai];simp
theorem Cj (Y:n<2097152) (h:At b p (co n)):rd b p=.ok (n,p+(co n).length):=by
 by_cases O:n<128
 · rw[kg O] at h ⊢
   have I:=h 0 cP;simp at I;unfold rd;rw[I];have:(UInt8.ofNat n).toNat=n:=by simp;omega
   simp only[this];rw[if_pos O];simp
 · rw[me O] at h ⊢
   by_cases T:n/128<128
   · rw[kg T] at h ⊢
     have I:=h 0 cP;have E:=h 1 cP;simp only[Nat.add_zero,List.getElem?_cons_zero,List.getElem?_cons_succ] at I E;have e0:(UInt8.ofNat (n%128+128)).toNat=n%128+128:=by simp;omega
     have e1:(UInt8.ofNat (n/128)).toNat=n/128:=by simp;omega
     unfold rd;rw[I];simp only[e0];rw[if_neg ai,E];simp only[e1];rw[if_pos T,if_neg ai];simp;omega
   · rw[me T,kg (n:=n/128/128) ai] at h ⊢
     have I:=h 0 cP;have E:=h 1 cP;have K:=h 2 cP;simp only[Nat.add_zero,List.getElem?_cons_zero,List.getElem?_cons_succ] at I E K;have e0:(UInt8.ofNat (n%128+128)).toNat=n%128+128:=by simp;omega
     have e1:(UInt8.ofNat (n/128%128+128)).toNat=n/128%128+128:=by simp;omega
     have e2:(UInt8.ofNat (n/128/128)).toNat=n/128/128:=by simp;omega
     unfold rd;rw[I];simp only[e0];rw[if_neg ai,E];simp only[e1];rw[if_neg ai,K];simp only[e2];rw[if_pos ai,if_neg ai];simp;omega
theorem gZ {n:Int} (E:0<=n) (I:n<2097152) (h:At b p (co n.toNat)):gT b p=.ok (n,p+(co n.toNat).length):=by
 unfold gT;rw[Cj ai h];simp;omega
theorem Cv {α:Type} {b:List UInt8} (r:Rd α) (enc:α->List UInt8):∀(xs l:List α) (p:Nat),(∀x∈xs,∀p,At b p (enc x)->r p=.ok (x,p+(enc x).length))->
 At b p (xs.flatMap enc)->oB r xs.length l p=.ok (l++xs,p+(xs.flatMap enc).length)
 | [],l,p,_,_=>by simp[oB]
 | x::xs,l,p,hr,h=>by
  rw[List.flatMap_cons] at h;have⟨h1,h2⟩:=h.append;simp only[List.length_cons,oB];rw[hr x cP p h1];simp only;rw[Cv r enc xs (l++[x]) _ (λy E=>hr y (by simp[E])) h2];simp;omega
theorem uT {α:Type} (r:Rd α) (enc:α->List UInt8) (xs:List α) (p:Nat) (E:xs.length<2097152) (I:∀x∈xs,∀p,At b p (enc x)->r p=.ok (x,p+(enc x).length))
 (h:At b p (co xs.length++xs.flatMap enc)):gu b r p=.ok (xs,p+(co xs.length++xs.flatMap enc).length):=by
 have⟨h1,h2⟩:=h.append;unfold gu;rw[Cj E h1];simp only;rw[Cv r enc xs [] _ I h2];simp;omega
theorem DR {n:Node} {len:Nat} (K:len<=12) (hn:ef n) (O:EdgesOk len (-1) n.after) (h:At b p (fq n)):jd b p=.ok (n,p+(fq n).length):=by
 obtain⟨a1,a2,⟨b1,b2⟩,⟨c1,c2⟩,⟨d1,d2⟩,⟨e1,e2⟩,f1,f2⟩:=hn;have E:(fq n).length=(co n.Lz.toNat).length+((co n.close.toNat).length+((co n.beat.toNat).length+((co n.base.toNat).length+((co n.cap.toNat).length+((co n.LA.toNat).length+(co n.after.length++n.after.flatMap λk=>co k.toNat).length))))):=by
  simp[fq]
 have h':At b p (co n.Lz.toNat++(co n.close.toNat++(co n.beat.toNat++(co n.base.toNat++(co n.cap.toNat++(co n.LA.toNat++(co n.after.length++n.after.flatMap λk=>co k.toNat))))))):=by
  simpa[fq] using h
 have⟨g1,r1⟩:=h'.append;have⟨g2,r2⟩:=r1.append;have⟨g3,r3⟩:=r2.append;have⟨g4,r4⟩:=r3.append;have⟨g5,r5⟩:=r4.append;have⟨g6,r6⟩:=r5.append;unfold jd;rw[gZ ai ai g1];simp only[andThen];rw[gZ ai ai g2];simp only;rw[gZ ai ai g3];simp only;rw[gZ ai ai g4];simp only;rw[gZ ai ai g5];simp only;rw[gZ ai ai g6];simp only;have Y:=O.bounds;have I:n.after.length<2097152:=by
  rcases O.length_le ai with h|h
  · omega
  · rw[h];simp
 rw[uT (gT b) (λk=>co k.toNat) n.after _ I (λx T q hq=>gZ (by have:=Y x T;omega) (by have:=Y x T;omega) hq) r6];simp only;rw[E]
 congr 2
 omega
theorem DU {f:Flow} (I:j8 f) (K:OkTo f f.Lw.length) (h:At b p (bo f)):ls b p=.ok (f,p+(bo f).length):=by
 obtain⟨⟨a1,a2⟩,a3,T⟩:=I;have Y:At b p (co f.deadline.toNat++(co f.Lw.length++f.Lw.flatMap fq)):=by simpa[bo] using h
 have⟨g1,r1⟩:=Y.append;unfold ls;rw[gZ ai ai g1];simp only[andThen];rw[uT (jd b) fq f.Lw _ ai (λx E q O=>by
  obtain⟨i,hi,E⟩:=List.mem_iff_getElem.1 E;have:=K i x hi (by rw[List.getElem?_eq_getElem hi,E]);exact DR T this.1 this.2 O) r1]
 simp only;have:(bo f).length=(co f.deadline.toNat).length+(co f.Lw.length++f.Lw.flatMap fq).length:=by simp[bo]
 rw[this]
 congr 2
 omega
theorem nz {f:Flow} (h:Fit f):uq (bo f)=.ok f:=by
 unfold uq;rw[DU h.head h.Lw (Io _)];simp[h.chk]
end
structure RingOk (N f:Nat) (q:List Pl) (rg:Nat->Pl):Prop where
 len:q.length<=N
 big:N<=2000
 fst:f<N\/N=0/\f=0
 item:∀k p,q[k]?=some p->rg ((f+k)%N)=p
section
variable {rg:Nat->Pl} {q:List Pl} {N f:Nat}
theorem RingOk.pos (h:RingOk N f q rg) (E:0<q.length):0<N/\f<N:=by
 have:=h.len;rcases h.fst with h|h<;>omega
theorem RingOk.push (h:RingOk N f q rg) (T:q.length<N) (p:Pl):RingOk N f (q++[p]) (gg rg ((f+q.length)%N) p):=by
 refine⟨by simp;omega,h.big,h.fst,λk u E=>?_⟩;rcases Nat.lt_or_ge k q.length with I|I
 · rw[List.getElem?_append_left I] at E
   have K:=h.item k u E;rw[dc,K];intro e;have Y:f<N:=by rcases h.fst with h|h<;>omega
   rcases Nat.lt_or_ge (f+k) N with a|a<;>rcases Nat.lt_or_ge (f+q.length) N with b|b
   · rw[Nat.mod_eq_of_lt a,Nat.mod_eq_of_lt b] at e;omega
   · rw[Nat.mod_eq_of_lt a,Nat.mod_eq_sub_mod b,Nat.mod_eq_of_lt ai] at e;omega
   · rw[Nat.mod_eq_of_lt b,Nat.mod_eq_sub_mod a,Nat.mod_eq_of_lt ai] at e;omega
   · rw[Nat.mod_eq_sub_mod a,Nat.mod_eq_sub_mod b,Nat.mod_eq_of_lt ai,Nat.mod_eq_of_lt ai] at e;omega
 · rw[List.getElem?_append_right I] at E
   have O:k-q.length=0:=by
    have:=(gfGet.1 E).1;simp at this;omega
   have:k=q.length:=ai;subst this;rw[dJ];simp at E;exact E
theorem RingOk.pop {p z:Pl} (h:RingOk N f (p::q) rg):rg f=p/\RingOk N ((f+1)%N) q (gg rg f z):=by
 obtain⟨K,O⟩:=h.pos cP;have T:=h.len;simp only[List.length_cons] at T;have I:=h.item 0 p rfl;rw[Nat.add_zero,Nat.mod_eq_of_lt O] at I;refine⟨I,ai,h.big,.inl (Nat.mod_lt _ K),λk u E=>?_⟩;have hk:=(gfGet.1 E).1;have Y:=h.item (k+1) u (by simpa using E);have e:((f+1)%N+k)%N=(f+(k+1))%N:=by rw[Nat.add_mod ((f+1)%N),Nat.mod_mod,<-Nat.add_mod];congr 1;omega
 rw[e,dc,Y];intro e;rcases Nat.lt_or_ge (f+(k+1)) N with a|a
 · rw[Nat.mod_eq_of_lt a] at e;omega
 · rw[Nat.mod_eq_sub_mod a,Nat.mod_eq_of_lt ai] at e;omega
def oI (N f:Nat) (rg:Nat->Pl):Nat->Pl:=λi=>if i<N-f then rg (f+i) else if i<N then rg (i-(N-f)) else⟨0,0,0⟩
theorem RingOk.grow (h:RingOk N f q rg) (O:q.length=N) (T:N<=1000):RingOk (max 4 (2*N)) 0 q (oI N f rg):=by
 refine⟨ai,ai,.inl ai,λk p I=>?_⟩;have K:=(gfGet.1 I).1;have E:=h.item k p I;have Y:f<N:=(h.pos ai).2;rw[Nat.zero_add,Nat.mod_eq_of_lt ai];unfold oI
 split
 · rw[Nat.mod_eq_of_lt ai] at E
   exact E
 · rw[if_pos ai]
   rw[Nat.mod_eq_sub_mod ai,Nat.mod_eq_of_lt ai] at E;rw[<-E]
   congr 1
   omega
end
end FK

namespace FR
abbrev Seqs (X:List Tmd):Prop:=X.Pairwise λx y=>x.seq<y.seq
section
variable {A B C D U V X Y l:List Tmd} {a n:Nat}
theorem Srt.before (h:Srt A C) (k:Srt B D) (E:vY A B):vY C D:=λx I y K=>E x (h.perm.mem_iff.1 I) y (k.perm.mem_iff.1 K)
theorem Srt.both (h:Srt A C) (k:Srt B D) (y:Srt (C++D) Y):Srt (A++B) Y:=⟨y.perm.trans (h.perm.append k.perm),y.srt⟩
theorem Blk.len (h:Blk n X Y):Y.length=X.length:=h.perm.length_eq
theorem BlkTo.ins (h:BlkTo n X l a U U) (K:Seqs X) (O:a+n<=l.length):∃P I Q,l=P++(I++Q)/\P.length=a/\a+I.length=a+n/\Seqs I/\∀Y,Srt I Y->BlkTo n X (P++(Y++Q)) (a+n) Q Q:=by
 obtain⟨A,Z,e1,e2,h1,h2,k⟩:=h.ex;have hU:n<=U.length:=by rw[e2,List.length_append] at O;omega
 obtain⟨I,Q,E,e4,e5⟩:=part_at (l:=U) (k:=n) rfl hU;refine⟨Z,I,Q,by rw[e2,E],h2,ai,?_,λY T=>?_⟩
 · rw[e1,E] at K
   exact(List.pairwise_append.1 (List.pairwise_append.1 K).2.1).1
 · have:=h.more (W:=Q) E e4 T
   rw[e2,List.take_append_of_le_length ai,List.take_of_length_le ai] at this;exact this
theorem BlkTo.insLast (h:BlkTo n X l a U U) (E:Seqs X) (K:l.length<a+n):∃P I,l=P++(I++[])/\P.length=a/\a+I.length=l.length/\Seqs I/\∀Y,Srt I Y->Blk n X (P++(Y++[])):=by
 obtain⟨A,Z,e1,e2,h1,T,k⟩:=h.ex;rw[e2,List.length_append] at K;refine⟨Z,U,by rw[e2];simp,T,by rw[e2,List.length_append];omega,?_,λY O=>?_⟩
 · rw[e1] at E
   exact(List.pairwise_append.1 E).2.1
 · rw[e1,List.append_nil]
   exact k _ _ (.short ai O)
theorem BlkTo.pair (h:BlkTo (2*n) X l a U V) (k:Blk n U V) (hs:Seqs X) (hl:a+2*n<=l.length):∃P L R Q U',Mrg P L R Q l a (a+n) (a+2*n)/\Blk n U' Q/\∀Y,Srt (L++R) Y->BlkTo (2*n) X (P++(Y++Q)) (a+2*n) U' Q:=by
 obtain⟨A,Z,e1,e2,h1,h2,_⟩:=h.ex;have hV:=k.len;have E:=hl;rw[e2,List.length_append] at E;obtain⟨A1,B1,C1,D1,O,T,f3,I,f5⟩:=k.part ai;have d7:=I.len;rw[O,T,List.length_append,List.length_append] at hV;rw[T,List.length_append] at E;obtain⟨A2,B2,C2,D2,g1,g2,g3,K,g5⟩:=f5.part ai;have d8:=K.len;rw[e1,O,g1] at hs;have d6:=(List.pairwise_append.1 hs).2.1;refine⟨Z,C1,C2,D2,B2,⟨by rw[e2,T,g2],h2,ai,ai,I.srt,K.srt,I.before K λx hx y hy=>(List.pairwise_append.1 d6).2.2 x hx y (List.mem_append_left _ hy)⟩,g5,λY hY=>?_⟩;have:=h.more (C:=A1++A2) (D:=B2) (W:=D2) (by rw[O,g1];simp) (by simp;omega) (I.both K hY);rw[e2,List.take_append_of_le_length ai,List.take_of_length_le ai] at this;exact this
theorem BlkTo.pairLast (h:BlkTo (2*n) X l a U V) (k:Blk n U V) (hs:Seqs X) (h1:l.length<a+2*n) (h2:a+n<l.length):∃P L R,Mrg P L R [] l a (a+n) l.length/\∀Y,Srt (L++R) Y->Blk (2*n) X (P++(Y++[])):=by
 obtain⟨A,Z,e1,e2,h3,h4,kk⟩:=h.ex;have hV:=k.len;rw[e2,List.length_append] at h1 h2;obtain⟨A1,B1,C1,D1,I,K,f3,E,f5⟩:=k.part ai;have d6:=E.len;have d7:=f5.len;rw[K,List.length_append] at h1 h2;have O:=f5.all ai;rw[e1,I] at hs;have T:=(List.pairwise_append.1 hs).2.1;refine⟨Z,C1,D1,⟨by rw[e2,K];simp,h4,ai,by rw[e2,K];simp;omega,E.srt,O.srt,E.before O λx hx y hy=>(List.pairwise_append.1 T).2.2 x hx y hy⟩,λY hY=>?_⟩;rw[e1,List.append_nil];exact kk _ _ (.short (by rw[I,List.length_append];omega) (by rw[I];exact E.both O hY))
theorem BlkTo.rest (h:BlkTo (2*n) X l a U V) (k:Blk n U V) (E:l.length<=a+n):Blk (2*n) X l:=by
 obtain⟨A,Z,e1,e2,h3,I,K⟩:=h.ex;have O:=k.len;rw[e2,List.length_append] at E;exact h.fin (.short ai (k.all ai))
theorem BlkTo.len (h:BlkTo n X l a U V):a<=l.length:=by
 obtain⟨A,Z,e1,e2,h3,E,I⟩:=h.ex;rw[e2,List.length_append];omega
end
end FR

namespace FK
def Hu (i:Nat):Node:=⟨1,50,0,1,1,0,if i%3=2 then[((i-1:Nat):Int)] else[]⟩
def Hv (n:Nat):Flow:=⟨100,(List.range n).map Hu⟩
structure FRun (n:Nat) (R:Rn):Prop where
 fl:R.fl=Hv n
 len:R.Lv.length=n
 a:∀(j:Nat) (s:Sp),R.Lv[j]?=some s->j%3≠2->s.state=2\/s.state=5
 b:∀(j:Nat) (s:Sp),R.Lv[j]?=some s->j%3=2->(s.state=1/\df R.Lv (j-1) 2=true)\/((s.state=2\/s.state=5)/\df R.Lv (j-1) 5=true)
 t:∀(j:Nat) (s:Sp),R.Lv[j]?=some s->s.state=2->s=⟨2,0,0⟩
 w:∀(j:Nat) (s:Sp),R.Lv[j]?=some s->s.state=1->s=⟨1,0,0⟩
def fnext (id n k:Nat):List Pl:=if k%3=1/\k+1<n then[⟨id,((k+1:Nat):Int),0⟩] else[]
structure Stepped (S S1 S2:En) (id k n:Nat) (q:List Pl):Prop where
 one:Ok S1
 two:Ok S2
 task:(S1.Ly.find? (·.1==S.Ls+1)).map (·.2)=some ⟨id,(k:Int),0⟩
 Lx:S2.Lx=q++fnext id n k
 run:∃R',S2.getR id=some R'/\FRun n R'
 others:∀a,a≠id->S2.getR a=S.getR a
 Lt:S2.Lt=S.Lt
 runs:S2.runs.length=S.runs.length
 sets:S2.sets=S.sets+1
 now:S2.now=S.now
 Ls:S2.Ls=S.Ls+1
 ends:S2.ends<=S.ends+1
 sets1:S1.sets=S.sets+1
 ends1:S1.ends=S.ends
 token1:S1.Ls=S.Ls+1
 lastRun1:S1.Lt=S.Lt
def flow2:Flow:=⟨100,[⟨2,9,0,3,9,0,[]⟩,⟨1,9,0,1,1,0,[0]⟩]⟩
def vE (st:Int) (a b:Sp) (e:Nat):Rn:=⟨flow2,st,[a,b],e⟩
def o1:En:=⟨0,0,1,0,0,[(1,vE 1 ⟨2,0,0⟩ ⟨1,0,0⟩ 0)],[],[⟨1,0,0⟩],[(⟨1,-1,0⟩,100)],1⟩
def o2:En:=⟨0,0,1,1,0,[(1,vE 1 ⟨3,1,1⟩ ⟨1,0,0⟩ 0)],[(1,⟨1,0,0⟩)],[],[(⟨1,-1,0⟩,100),(⟨1,0,1⟩,9)],2⟩
def o3:En:=⟨0,0,1,1,0,[(1,vE 1 ⟨4,1,0⟩ ⟨1,0,0⟩ 0)],[],[],[(⟨1,-1,0⟩,100),(⟨1,0,1⟩,3)],3⟩
def o4:En:=⟨3,0,1,1,0,[(1,vE 1 ⟨2,1,0⟩ ⟨1,0,0⟩ 0)],[],[⟨1,0,0⟩],[(⟨1,-1,0⟩,100)],3⟩
def o5:En:=⟨3,0,1,2,0,[(1,vE 1 ⟨3,2,2⟩ ⟨1,0,0⟩ 0)],[(2,⟨1,0,0⟩)],[],[(⟨1,-1,0⟩,100),(⟨1,0,1⟩,12)],4⟩
def o6:En:=⟨3,0,1,2,0,[(1,vE 1 ⟨5,2,0⟩ ⟨2,0,0⟩ 0)],[],[⟨1,1,0⟩],[(⟨1,-1,0⟩,100)],4⟩
def o7:En:=⟨3,0,1,3,0,[(1,vE 1 ⟨5,2,0⟩ ⟨3,1,3⟩ 0)],[(3,⟨1,1,0⟩)],[],[(⟨1,-1,0⟩,100),(⟨1,1,1⟩,12)],5⟩
def o8:En:=⟨3,0,1,3,1,[(1,vE 2 ⟨5,2,0⟩ ⟨5,1,0⟩ 1)],[],[],[],5⟩
theorem flow2_fit:Fit flow2:=by
 refine⟨⟨by decide,by decide,by decide⟩,λj nd O I=>?_,λi hi=>?_⟩
 · have:j=0\/j=1:=by have:j<2:=O;omega
   rcases this with rfl|rfl
   · have:(⟨2,9,0,3,9,0,[]⟩:Node)=nd:=by simpa[flow2] using I
     subst this;exact⟨by unfold ef span;simp,trivial⟩
   · have:(⟨1,9,0,1,1,0,[0]⟩:Node)=nd:=by simpa[flow2] using I
     subst this;exact⟨by unfold ef span;simp,by decide,by decide,trivial⟩
 · have K:Ac flow2.Lw 0:=.mk 0 λk E=>by simp[fP,flow2] at E
   have:i=0\/i=1:=by have:i<2:=hi;omega
   rcases this with rfl|rfl
   · exact K
   · refine .mk 1 λk E=>?_
     have:k=0:=by simpa[fP,flow2] using E
     subst this;exact K
theorem J6:En.fresh.submit flow2=o1:=rfl
theorem E3:o1.hand ⟨1,((0:Nat):Int),0⟩ [] (vE 1 ⟨2,0,0⟩ ⟨1,0,0⟩ 0) ⟨2,0,0⟩ ⟨2,9,0,3,9,0,[]⟩=o2:=rfl
theorem E2:o2.fail 1=o3:=by
 have E:o2.getR 1=some (vE 1 ⟨3,1,1⟩ ⟨1,0,0⟩ 0):=rfl;have I:(vE 1 ⟨3,1,1⟩ ⟨1,0,0⟩ 0).Lv[0]?=some ⟨3,1,1⟩:=rfl;have K:(vE 1 ⟨3,1,1⟩ ⟨1,0,0⟩ 0).fl.Lw[0]?=some ⟨2,9,0,3,9,0,[]⟩:=rfl;rw[oJ (id:=1) (k:=0) (w:=0) rfl,ku E I K,if_pos di]
 rfl
theorem o4_ticks:Ticks 3 o3 o4:=by
 refine .step (x:=(⟨1,0,1⟩,3)) (tms':=[(⟨1,-1,0⟩,100)]) ⟨[(⟨1,-1,0⟩,100)],[],rfl,rfl,by intro y E;rw[List.mem_singleton] at E;subst E;decide,by intro y E;cases E⟩ (cm _) ?_;have K:({o3 with now:=3,tms:=[(⟨1,-1,0⟩,100)]}:En).due ⟨1,0,1⟩={o4 with now:=3}:=rfl;rw[show({o3 with now:=((⟨1,0,1⟩,3):KD).2,tms:=[(⟨1,-1,0⟩,100)]}:En).due ((⟨1,0,1⟩,3):KD).1={o4 with now:=3} from K];exact .done (S:={o4 with now:=3}) (by intro y E;have I:y∈[((⟨1,-1,0⟩:Pl),100)]:=E;rw[List.mem_singleton] at I;subst I;decide)
theorem o4_eq {U:En} (h:Ticks 3 o3 U):U=o4:=h.unique o4_ticks
theorem E0:o4.hand ⟨1,((0:Nat):Int),0⟩ [] (vE 1 ⟨2,1,0⟩ ⟨1,0,0⟩ 0) ⟨2,1,0⟩ ⟨2,9,0,3,9,0,[]⟩=o5:=rfl
theorem EZ:o5.complete 2=o6:=rfl
theorem EY:o6.hand ⟨1,((1:Nat):Int),0⟩ [] (vE 1 ⟨5,2,0⟩ ⟨2,0,0⟩ 0) ⟨2,0,0⟩ ⟨1,9,0,1,1,0,[0]⟩=o7:=rfl
theorem EX:o7.complete 3=o8:=rfl
theorem o1_ok:Ok o1:=J6▸Ok.fresh.submit di flow2_fit
theorem o2_ok:Ok o2:=E3▸o1_ok.hand rfl rfl rfl rfl
theorem E1:Ok o3:=E2▸o2_ok.fail 1
theorem o4_ok:Ok o4:=o4_ticks.ok di E1
theorem o5_ok:Ok o5:=E0▸o4_ok.hand rfl rfl rfl rfl
theorem o6_ok:Ok o6:=EZ▸o5_ok.complete 2
theorem o7_ok:Ok o7:=EY▸o6_ok.hand rfl rfl rfl rfl
theorem uv:Ok o8:=EX▸o7_ok.complete 3
theorem cut0 {S0:En} (h:Cut En.fresh S0):S0=En.fresh:=by
 unfold Cut at h;rw[if_neg di] at h;exact h
theorem sD {n k:Nat}:n<128 ^ (k+1)->(co n).length<=k+1:=by
 induction k generalizing n with
 | zero=>
  intro h;rw[co,if_pos (by simpa using h)];simp
 | succ k E=>
  intro h;rw[co]
  split
  · simp
  · have:=E (n:=n/128) (by rw[Nat.div_lt_iff_lt_mul ai];rw[Nat.pow_succ] at h;exact h)
    simp only[List.length_cons];omega
theorem ia {x:Int} (E:x<=1048576):(co x.toNat).length<=3:=sD (k:=2) ai
theorem sw {α β:Type} {f:α->List β} {n:Nat}:∀{l:List α},(∀x∈l,(f x).length<=n)->(l.flatMap f).length<=l.length*n
 | [],_=>by simp
 | x::l,h=>by
  have I:=h x (.head _);have K:=sw (l:=l) λy E=>h y (.tail _ E);rw[List.flatMap_cons,List.length_append,List.length_cons,Nat.succ_mul];omega
theorem mq {len:Nat}:∀(l:List Int) (p:Int),EdgesOk len p l->(l.length:Int)<=max 0 ((len:Int)-1-p)
 | [],_,_=>by simp;omega
 | k::r,p,h=>by
  obtain⟨E,I,h3⟩:=h;have:=mq r k h3;simp only[List.length_cons];omega
theorem Fit.encLen {f:Flow} (h:Fit f):(bo f).length<=1000:=by
 have d6:=h.head.2.2;have hd:=ia h.head.1.2;have hn:(co f.Lw.length).length<=3:=sD (k:=2) ai;have I:(f.Lw.flatMap fq).length<=f.Lw.length*60:=sw λnd hnd=>by
  obtain⟨i,hi⟩:=List.getElem?_of_mem hnd;obtain⟨⟨a1,a2,⟨b1,b2⟩,⟨c1,c2⟩,⟨d1,d2⟩,⟨e1,e2⟩,g1,g2⟩,O⟩:=h.Lw i nd (cB hi) hi;have hl:=mq _ _ O;have k1:=ia (x:=nd.Lz) ai;have k2:=ia (x:=nd.close) ai;have k3:=ia (x:=nd.beat) ai;have k4:=ia (x:=nd.base) ai;have k5:=ia (x:=nd.cap) ai;have k6:=ia (x:=nd.LA) ai;have k7:(co nd.after.length).length<=3:=sD (k:=2) ai;have k8:(nd.after.flatMap λk=>co k.toNat).length<=nd.after.length*3:=sw λx Y=>by
   have K:∀(l:List Int) (p:Int),EdgesOk f.Lw.length p l->∀y∈l,y<f.Lw.length:=by
    intro l
    induction l with
    | nil=>intro _ _ y E;simp at E
    | cons z l ih=>
     intro p T y E;rcases List.mem_cons.1 E with rfl|E
     · exact T.2.1
     · exact ih z T.2.2 y E
   exact ia (by have:=K _ _ O x Y;omega)
  unfold fq;simp only[List.length_append];omega
 unfold bo;simp only[List.length_append];omega
def Low (ns:List Node):Prop:=∀i nd,ns[i]?=some nd->ef nd/\EdgesOk i (-1) nd.after
theorem EdgesOk.more {len E:Nat} (h:len<=E):∀{p:Int} {l:List Int},EdgesOk len p l->EdgesOk E p l
 | _,[],_=>trivial
 | _,_::_,⟨h1,h2,h3⟩=>⟨h1,ai,EdgesOk.more h h3⟩
theorem EdgesOk.snoc {len:Nat}:∀{p:Int} {l:List Int} {k:Int},EdgesOk len p l->(∀x∈l,x<k)->p<k->k<len->EdgesOk len p (l++[k])
 | _,[],_,_,_,h2,h3=>⟨h2,h3,trivial⟩
 | _,x::_l,_,⟨h1,h2,h3⟩,h4,_,h6=>⟨h1,h2,EdgesOk.snoc h3 (λy E=>h4 y (List.mem_cons_of_mem _ E)) (h4 x (List.mem_cons_self ..)) h6⟩
theorem Low.fit {d:Int} {ns:List Node} (h:Low ns) (hd:span d 1) (O:1<=ns.length) (T:ns.length<=12):Fit ⟨d,ns⟩:=by
 refine⟨⟨hd,O,T⟩,λj n _ I=>⟨(h j n I).1,(h j n I).2.more (Nat.le_of_lt (gfGet.1 I).1)⟩,λi _=>?_⟩
 revert i
 have key:∀i,Ac ns i:=by
  intro i
  induction i using Nat.strongRecOn with
  | _ i ih=>
   refine Ac.mk i λk E=>?_;have K:k<i:=by
    unfold fP at E;cases hn:ns[i]? with
    | none=>rw[hn] at E;simp at E
    | some nd=>
     rw[hn] at E;simp at E;obtain⟨x,Y,rfl⟩:=E;have:=(h i nd hn).2.bounds x Y;omega
   exact ih k K
 exact λi _=>key i
structure Reach (ns:List Node) (a:Nat) (R:Nat->Bool):Prop where
 at_:R a=true
 low:∀i,i<a->R i=false
 dom:∀i,R i=true->ns[i]?≠none
 step:∀i nd,a<i->ns[i]?=some nd->(R i=true<->∃k∈nd.after,R k.toNat=true)
section
variable {ns:List Node} {a z:Nat} {nd:Node} {R:Nat->Bool}
end
def Iv (n:Node) (g:Int):Int:=n.close+n.cap+n.LA+g
structure Cred (id:Nat) (g:Int) (τ:Nat) (S:En) (R:Rn) (d:Int) (w:Nat->Int):Prop where
 pos:∀k,0<=w k
 one:∀(k:Nat) (s:Sp) (n:Node),R.Lv[k]?=some s->R.fl.Lw[k]?=some n->s.state=1->n.Lz*Iv n g<=w k
 two:∀(k:Nat) (s:Sp) (n:Node),R.Lv[k]?=some s->R.fl.Lw[k]?=some n->s.state=2->(n.Lz-s.Lu)*Iv n g+d<=w k+g
 three:∀(k:Nat) (s:Sp) (n:Node),R.Lv[k]?=some s->R.fl.Lw[k]?=some n->s.state=3->∃a:Nat,((⟨id,(k:Int),1⟩:Pl),a)∈S.tms/\(n.Lz-s.Lu)*Iv n g+n.cap+n.LA+((a:Int)-τ)<=w k
 four:∀(k:Nat) (s:Sp) (n:Node),R.Lv[k]?=some s->R.fl.Lw[k]?=some n->s.state=4->∃a:Nat,((⟨id,(k:Int),1⟩:Pl),a)∈S.tms/\(n.Lz-s.Lu)*Iv n g+((a:Int)-τ)<=w k
def wsum (w:Nat->Int):Nat->Int
 | 0=>0
 | n+1=>wsum w n+w n
section
variable {id k:Nat} {g:Int} {τ:Nat} {F:Flow} {S U:En} {R R':Rn} {new:List KD} {d:Int} {w:Nat->Int}
end
theorem G6 (S:En) (n:Nat):S.later n<=S.now+n:=by unfold En.later;omega
theorem s9 (n:Node) (h:ef n) (k:Int):1<=fk n.base n.cap n.LA k 0/\fk n.base n.cap n.LA k 0<=n.cap:=by
 obtain⟨_,_,_,_,⟨E,_⟩,⟨I,_⟩,⟨h3,_⟩⟩:=h;refine⟨tZ _ _ _ _ E I,?_⟩;unfold fk;have K:(0:Int)%(n.LA+1)=0:=Int.zero_emod _;rw[K]
 split
 · omega
 · split<;>omega
theorem KT {b t c:Int} (h:t<b) (hc:0<=c):c<=(b-t)*c:=by
 have:1*c<=(b-t)*c:=Int.mul_le_mul_of_nonneg_right ai hc;omega
theorem FH {b t c:Int} (h:t<=b) (hc:0<=c):0<=(b-t)*c:=Int.mul_nonneg ai hc
theorem Lo {n:Node} (h:ef n) {g:Int} (_hg:0<=g):g+1<=Iv n g:=by
 obtain⟨_,_,⟨E,_⟩,_,⟨I,_⟩,⟨h3,_⟩,⟨K,_⟩⟩:=h;unfold Iv;omega
def act (R:Rn) (k:Nat):Bool:=match R.Lv[k]? with|some s=>s.state==2||s.state==3||s.state==4|none=>false
theorem JY {R:Rn} {k:Nat} {s:Sp} (h:R.Lv[k]?=some s):act R k=true<->s.state=2\/s.state=3\/s.state=4:=by
 unfold act;rw[h];simp only[Bool.or_eq_true,beq_iff_eq];omega
section
variable {id:Nat} {g:Int} {F:Flow} {S U:En} {R:Rn} {w:Nat->Int}
theorem Cred.act {d:Int} (h:Cred id g S.now S R d w) (Y:Lone id F S R) (I:∀x∈S.tms,S.now<x.2) (hg:0<=g) (hd:0<=d) {k:Nat} (K:act R k=true):1<=w k:=by
 obtain⟨s,E⟩:∃s,R.Lv[k]?=some s:=by
  unfold FK.act at K;cases E:R.Lv[k]? with
  | none=>rw[E] at K;cases K
  | some s=>exact⟨s,rfl⟩
 obtain⟨n,O,hp⟩:=Y.ok.node Y.get E;have T:=((Y.ok.run id R Y.get).fl.Lw k n (cB O) O).1;have hc:=Lo T hg;rw[JY E] at K;obtain⟨_,_,_,_,⟨h2,_⟩,⟨h3,_⟩,⟨h4,_⟩⟩:=T;rcases K with e|e|e
 · have h1:=h.two k s n E O e
   have h2:=KT (c:=Iv n g) (hp.low ai) ai;omega
 · obtain⟨a,ha,h1⟩:=h.three k s n E O e
   have:=I _ ha;have h2:=FH (c:=Iv n g) hp.trb ai;simp only at this;omega
 · obtain⟨a,ha,h1⟩:=h.four k s n E O e
   have:=I _ ha;have h2:=FH (c:=Iv n g) hp.trb ai;simp only at this;omega
end
def gapOf (t g:Nat):Int:=if t%g=0 then 0 else(g:Int)-(t%g:Nat)
structure Drv (id:Nat) (F:Flow) (polls:Bool) (g T0 D:Nat) (sum:Int) (S:En) (R:Rn) (t:Nat):Prop where
 lone:Lone id F S R
 now:S.now=T0+t
 lt:∀x∈S.tms,S.now<x.2
 dead:R.state=1->((⟨id,-1,0⟩:Pl),D)∈S.tms
 cred:polls=true->R.state=1->∃w,Cred id g S.now S R (gapOf t g) w/\wsum w F.Lw.length+t<=sum
section
variable {id:Nat} {F:Flow} {polls:Bool} {g T0 D:Nat} {sum:Int} {S U:En} {R:Rn} {t:Nat}
theorem F0 {id:Nat} {F:Flow} {S:En} {R:Rn} (E:Lone id F S R) {k:Nat} {s:Sp} (I:R.Lv[k]?=some s):k<F.Lw.length:=by
 have:=(E.ok.run id R E.get).len;rw[<-E.fl,<-this];exact(gfGet.1 I).1
end
structure FI (r B:Nat) (S:En):Prop where
 ok:Ok S
 runs:∀id R,S.getR id=some R->id=1\/∃n,FRun n R
 q1:∀p∈S.Lx,p.run≠1
 Lt:S.Lt=1+r
 len:S.runs.length=1+r
 sets:S.sets<=B
 tok:S.Ls<=B
 ends:S.ends<=B
theorem FI.start:FI 0 10 o8:=by
 refine⟨uv,λid R h=>?_,λp I=>(by cases I),rfl,rfl,by decide,by decide,by decide⟩;have:=kr h;have E:(id,R)∈[(1,vE 2 ⟨5,2,0⟩ ⟨5,1,0⟩ 1)]:=this;rw[List.mem_singleton] at E;injection E with E;exact .inl E
theorem FI.mono {r B I:Nat} {S:En} (h:FI r B S) (E:B<=I):FI r I S:=⟨h.ok,h.runs,h.q1,h.Lt,h.len,Nat.le_trans h.sets E,Nat.le_trans h.tok E,Nat.le_trans h.ends E⟩
end FK
