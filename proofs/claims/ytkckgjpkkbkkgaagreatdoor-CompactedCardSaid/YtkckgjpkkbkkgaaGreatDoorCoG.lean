/- The engine's New, Submit. -/
import Derived.Test.YtkckgjpkkbkkgaaGreatDoorCoF
import Derived.Test.YtkckgjpkkbkkgaaGreatDoorCoD
import Derived.Test.YtkckgjpkkbkkgaaGreatDoorCoC
import Derived.Test.YtkckgjpkkbkkgaaGreatDoorCoE
import Derived.Laws.BitsAllLaws
import Derived.Test.YtkckgjpkkbkkgaaGreatDoorCoA
import Derived.WalkKit
import Derived.Laws.IdiomStrings
import Derived.Shelf.Strconv.Itoa3
import Derived.Shelf.Strconv.AtoiErr
import Derived.Test.YtkckgjpkkbkkgaaGreatDoorChecked
import Derived.Lib.ItoaLen
import Derived.Lib.ItoaMem
import Derived.Lib.AppendIntMem
set_option maxHeartbeats 2000000
set_option maxRecDepth 10000
namespace Go.Y
open Go.Proofs Go.RowKit Go.SL
open FK (gg dJ dc)
variable {G:Env->Prop}
theorem AH (S:FK.En) (p:EA) (id:Nat):(eV S p).eraseP (·.1==id)=eV (S.unrun id) p:=by
 unfold eV FK.En.unrun;rw[List.eraseP_map]
 rfl
theorem Ent.sub:∀{a b:List HP} {r:List HP},b.Sublist a->Ent (a++r) (b++r)
 | _,_,_,.slnil=>aN
 | _::_,_,_,.cons _ h=>Ent.drop.trans (Ent.sub h)
 | _::_,_,_,.cons_cons _ h=>Ent.cons (Ent.sub h)
theorem DJ {p:EA} {L M:List (Nat×FK.Rn)} {r:List HP} (h:M.Sublist L):Ent (fw p L::r) (fw p M::r):=
 (Ent.unall (m:=iw p L)).trans ((Ent.sub (h.map _)).trans (Ent.all (m:=iw p M)))
section
variable {P:Program} {E:Env} {n:Nat} {D:List Deferred} {ts:List (Nat×Value)} {l r:List HP} {Q:Exit->Act->World->Prop} {ty:TypeId} {pos:String} {af:Array Edge} {g:Option (Nat×Bool)} {t:TypeId} {x y z:Operand} {e:Nat} {p:EA} {S:FK.En} {K:Act->World->Prop}
theorem GN [H:HasEng l e p S r] {id:Nat} {t I T:TypeId} {d:Option Tmp} (hd:d=none) (Y:P.underlying t=some (.map I T)) (hk:KeyK P I Nat aV) (hx:ev ts x=some (.map (some p.rm))) (hy:ev ts y=some (aV id))
 (h:At E n D ts (aG e p (S.unrun id)::r) K):At E n D ts l (λac w=>(Oper.mk d (.call {callee:=.builtin .delete,args:=#[x,y],argTypes:=#[t,I]}) ty pos af g).wp P ac w K Q):=by
 refine eK (p:=ep S) (λw hw=>oa hw) λhn=>?_;refine al (Ent.sel H.sel)<|bl ?_
 show At E n D ts (HP.pure (ep S)::dV e (ja S p) S.Lx::cA aV p.rm (eV S p)::fw p S.runs::cA aV p.tm (dH S)::dx p.w S.now S.sets S.tms::r) _;refine vR (b:=p.rm) (a:=id) hd Y hk hx hy dj ?_;rw[AH];refine al ?_ h;refine Ent.trans ?_<|Ent.all (m:=j0 e p (S.unrun id))
 have O:ep (S.unrun id):=hn.sublist ((List.eraseP_sublist).map _);refine(Ent.drop1 bM).trans (gfE1.trans ((Ent.cons (Ent.cons (DJ (M:=(S.unrun id).runs) List.eraseP_sublist))).trans ?_));exact Ent.pure O
def EA.add (p:EA) (id b:Nat) (a:RA):EA:={p with fb:=gg p.fb id b,ra:=gg p.ra id a}
theorem xK {id b:Nat} {a:RA} {R:FK.Rn} {t kt et:TypeId} {d:Option Tmp} (hd:d=none) (ht:P.underlying t=some (.map kt et)) (hk:KeyK P kt Nat aV) (hx:ev ts x=some (.map (some p.rm))) (hy:ev ts y=some (aV id)) (hz:ev ts z=some (aX b)) (O:∀r∈S.runs,r.1≠id)
 (h:At E n D ts (aG e (p.add id b a) {S with runs:=S.runs++[(id,R)]}::r) K):At E n D ts (kV b a R::aG e p S::r) (λac w=>(Oper.mk d (.mapUpdate t x y z) ty pos af g).wp P ac w K Q):=by
 refine eK (p:=ep S) (λw hw=>oa (l:=kV b a R::aG e p S::r) hw) λd6=>?_;refine al gfE1<|bl ?_
 show At E n D ts (HP.pure (ep S)::dV e (ja S p) S.Lx::cA aV p.rm (eV S p)::fw p S.runs::cA aV p.tm (dH S)::dx p.w S.now S.sets S.tms::kV b a R::r) _;have Y:er (eV S p) id=none:=by
  refine DI ?_;unfold FK.En.getR;cases hf:S.runs.find? (·.1==id) with
  | none=>rfl
  | some u=>exact absurd (by simpa using List.find?_some hf) (O u (List.mem_of_find?_eq_some hf))
 refine vQ (b:=p.rm) (a:=id) (v:=aX b) hd ht hk hx hy hz dj Y ?_;refine al ?_ h;have hM:eV S p++[(id,aX b)]=eV {S with runs:=S.runs++[(id,R)]} (p.add id b a):=by
  unfold eV;rw[List.map_append];have h1:(S.runs.map λr=>(r.1,aX (p.fb r.1)))=S.runs.map λr=>(r.1,aX ((p.add id b a).fb r.1)):=List.map_congr_left λr I=>by
   show _=(r.1,aX (gg p.fb id b r.1));rw[dc _ _ (O r I)]
  rw[h1];show _=_++[(id,aX (gg p.fb id b id))];rw[dJ]
 have hL:iw p S.runs++[kV b a R]=iw (p.add id b a) (S.runs++[(id,R)]):=by
  unfold iw;rw[List.map_append];have h1:(S.runs.map λr=>kV (p.fb r.1) (p.ra r.1) r.2)=S.runs.map λr=>kV ((p.add id b a).fb r.1) ((p.add id b a).ra r.1) r.2:=List.map_congr_left λr I=>by
   show _=kV (gg p.fb id b r.1) (gg p.ra id a r.1) r.2;rw[dc _ _ (O r I),dc _ _ (O r I)]
  rw[h1];show _=_++[kV (gg p.fb id b id) (gg p.ra id a id) R];rw[dJ,dJ]
 have T:ep {S with runs:=S.runs++[(id,R)]}:=by
  unfold ep;rw[List.map_append,List.nodup_append];refine⟨d6,by simp,λu hu v Y=>?_⟩;obtain⟨r,I,rfl⟩:=List.mem_map.1 hu;simp at Y;subst Y;exact O r I
 rw[hM];refine Ent.trans ?_<|Ent.all (m:=j0 e (p.add id b a) {S with runs:=S.runs++[(id,R)]})
 have hX:Ent (kV b a R::fw p S.runs::cA aV p.tm (dH S)::dx p.w S.now S.sets S.tms::r) (fw (p.add id b a) (S.runs++[(id,R)])::cA aV p.tm (dH S)::dx p.w S.now S.sets S.tms::r):=by
  refine(Ent.cons (Ent.unall (m:=iw p S.runs))).trans ?_;have hp:(kV b a R::(iw p S.runs++(cA aV p.tm (dH S)::dx p.w S.now S.sets S.tms::r))).Perm (iw (p.add id b a) (S.runs++[(id,R)])++(cA aV p.tm (dH S)::dx p.w S.now S.sets S.tms::r)):=by
   rw[<-hL,List.append_assoc];exact List.perm_middle.symm
  exact(Ent.perm hp).trans (Ent.all (m:=iw (p.add id b a) (S.runs++[(id,R)])))
 refine(Ent.drop1 bM).trans ?_;refine(dd bM .head gC).trans ?_;exact(Ent.pure T).trans (Ent.cons (Ent.cons (Ent.cons hX)))
end
end Go.Y

namespace Go.Y
open Go.Proofs Go.RowKit Go.SL
variable {G:Env->Prop}
def p0 (E tm w:Nat):EA:=⟨E,tm,w,λ_=>0,λ_=>⟨0,0,0,0,[]⟩⟩
theorem ring0:FK.RingOk 0 0 [] (λ_=>⟨0,0,0⟩):=⟨cm _,Nat.zero_le _,.inr ⟨rfl,rfl⟩,λk p h=>by simp at h⟩
theorem wj:dZ G 53 [] [] λv m=>∃e p,v=aX e/\m=[aG e p FK.En.fresh]:=by
 refine bz Tryz.func53 Z λE fr K=>aB<|sS<|sB Z<|sS<|sO (jJ aV Z λI=>(sO (jJ aV Z λtm=>?_)))
 refine ch Z (xM 0) aN ?_;rintro v m ⟨w,rfl,rfl⟩;refine ae<|sP (bT (cs:=vH ⟨0,I,tm,w,0,0,0⟩ (.slice none 0 0) 0 0) Z Z Z Z Z)<|sO (cL Z Z λe=>(sB Z (an (aw [aG e (p0 I tm w) FK.En.fresh] rfl Z ⟨e,p0 I tm w,rfl,rfl⟩ ?_))))
 have hw:Ent (cb w (xg 0)::fr) (dx w 0 0 []::fr):=(Ent.pure (⟨rfl,cm _,inv0 ai,rfl⟩:WOk 0 0 [] (xg 0))).trans ((Ent.all (m:=[HP.pure (WOk 0 0 [] (xg 0)),cb w (xg 0)])).trans (Ent.ex (f:=λW:FK.WS=>HP.all [HP.pure (WOk 0 0 [] W),cb w W]) (xg 0)));refine(dd .head dj bM).trans ?_;refine Ent.trans (b:=oC e ⟨0,I,tm,w,0,0,0⟩ (.slice none 0 0) 0 0::cA aV I []::cA aV tm []::dx w 0 0 []::fr) (Ent.cons (Ent.cons (Ent.cons hw))) ?_;refine Ent.trans (Ent.cons (Ent.row0 (e:=157) (size:=3))) ?_;refine(gL (e:=e) (C:=⟨0,I,tm,w,0,0,0⟩) (q:=[]) (N:=0) (f:=0) (rg:=λ_=>⟨0,0,0⟩) ring0).trans ?_;refine Ent.trans (b:=dV e ⟨0,I,tm,w,0,0,0⟩ []::cA aV I []::fw (p0 I tm w) []::cA aV tm []::dx w 0 0 []::fr) (Ent.cons (Ent.cons (Ent.all (m:=[])))) ?_;exact(Ent.pure (show ep FK.En.fresh from List.nodup_nil)).trans (Ent.all (m:=j0 e (p0 I tm w) FK.En.fresh))
theorem H8 {S T:FK.En} (h:FK.Cut S T):T.now=S.now/\T.seed=S.seed/\T.tms=S.tms/\T.sets=S.sets/\T.Lx=S.Lx/\T.Lt=S.Lt/\T.runs.Sublist S.runs:=by
 unfold FK.Cut at h
 split at h
 · obtain⟨o,_,rfl⟩:=h
   cases o with
   | none=>exact⟨rfl,rfl,rfl,rfl,rfl,rfl,List.Sublist.refl _⟩
   | some m=>exact⟨rfl,rfl,rfl,rfl,rfl,rfl,List.eraseP_sublist⟩
 · subst h;exact⟨rfl,rfl,rfl,rfl,rfl,rfl,List.Sublist.refl _⟩
def js (n k:Nat):List FK.Sp:=List.replicate k FK.s1++List.replicate (n-k) FK.s0
theorem Ax {n k:Nat} (h:k<=n):(js n k).length=n:=by simp[js];omega
theorem Dz {n k:Nat} (h:k<n):(js n k)[k]?=some FK.s0:=by
 unfold js;rw[List.getElem?_append_right cP,List.length_replicate,Nat.sub_self,List.getElem?_replicate,if_pos ai]
theorem Aw {n k:Nat} (h:k<n):(js n k).set k FK.s1=js n (k+1):=by
 unfold js;rw[List.set_append_right _ _ cP,List.length_replicate,Nat.sub_self];obtain⟨m,E⟩:∃m,n-k=m+1:=⟨n-k-1,ai⟩;rw[E,List.replicate_succ,List.set_cons_zero,show n-(k+1)=m by omega,List.replicate_succ',List.append_assoc]
 rfl
theorem Gj (n:Nat):((List.range n).flatMap λ_=>n7 FK.s0)=oy (js n 0):=by
 unfold oy js;rw[List.flatMap_def,List.flatMap_def]
 congr 1
 simp only[List.replicate_zero,List.nil_append,Nat.sub_zero,List.map_replicate];apply List.ext_getElem<;>simp
theorem qm {e:Nat} {p:EA} {S:FK.En} {fl:FK.Flow} {nv:Value} (LG:1<=fl.Lw.length) (t6:fl.Lw.length<=100) (d7:zS fl) (t7:0<=fl.deadline) (hd:fl.deadline<=4611686018427387904) (LF:S.now<=4611686018427387904) (hq:S.Lx.length<=300) (hl:S.tms.length<=99998) (t8:S.sets<9223372036854775807) (d8:∀r∈S.runs,r.1<=S.Lt) (LH:S.Lt<9223372036854775807) :
 dZ G 67 [aX e,.agg #[.int .i64 fl.deadline,nv]] [aG e p S,nodesOwn nv fl.Lw] λv m=>∃S0 p',FK.Cut S S0/\v=aV (S.Lt+1)/\m=[aG e p' (S0.submit fl)]:=by
 have f7:∀(T:FK.En) n,T.now<=4611686018427387904->T.now<=T.later n:=λT n h=>by unfold FK.En.later;omega
 have d6:∀(T:FK.En) n,T.later n<=4611686018427387904:=λT n=>by unfold FK.En.later;omega
 refine bz Tryz.func67 Z λE fr hE=>az (iL bM λvs wf=>(aI .head ?_));rintro A c rfl a1 a2 a3 a4 _;obtain⟨I,rfl⟩:∃g,A=some ⟨g,0,none⟩:=by
  cases A with
  | none=>have:=(a1 rfl).1;omega
  | some ad=>obtain⟨g,rfl⟩:=a2 ad rfl;exact⟨g,rfl⟩
 refine al (Ent.cons (Ent.all (m:=ck vs fl.Lw))) ?_;refine al (l':=row 58 7 (.slice (some ⟨I,0,none⟩) fl.Lw.length c) fl.Lw.length (bU fl.Lw vs)::ey vs fl.Lw::aG e p S::fr) aN ?_;refine sS<|sO (cL Z Z λb3=>(sB Z ?_))
 refine sQ<|cT (X:=FK.En) (λ_=>[(0,aX e),(3,aX b3)]) (λT=>aG e p T::blk b3 25 #[.int .i64 fl.deadline,.slice (some ⟨I,0,none⟩) fl.Lw.length c]::row 58 7 (.slice (some ⟨I,0,none⟩) fl.Lw.length c) fl.Lw.length (bU fl.Lw vs)::ey vs fl.Lw::fr) (λT=>FK.Cut S T) ?_ ?_
 ·
  refine sS<|dS 1 Z Z ?_
  refine cE (aF (v:=.map (some p.rm)) Z) (bc λ_ _ _=>rfl) ?_;refine cE (rr (m:=eV S p) Z Z) eH ?_;refine sP (bC (r:=decide (S.runs.length=6)) Z Z (by rw[List.length_map];exact decide_eq_decide.2 ai)) ?_;refine sN ?_;refine aA Z (λK=>?_) λK=>?_
  ·
   refine bg Z ?_;refine ch Z qt gfE3 ?_;rintro v m ⟨⟨o,ho,rfl⟩,rfl⟩;refine ae<|sM Z<|bG Z Z<|bG Z Z<|sA Z<|sB Z<|sQ ?_
   by_cases HO:o=none
   ·
    subst HO;refine sG<|sM Z<|sN<|ak Z<|ah ?_
    exact bd S (by unfold FK.Cut;rw[if_pos K];exact⟨none,ho,rfl⟩) cf aN
   ·
    obtain⟨x,rfl⟩:=Option.ne_none_iff_exists'.1 HO;refine sG<|sM Z<|sN<|aO Z<|sG<|dS 1 Z Z ?_
    refine cE (aF (v:=.map (some p.rm)) Z) (bc λ_ _ _=>rfl) ?_;refine sM Z<|sO<|GN (id:=x.1) Z Z fy Z Z<|aq ?_
    exact bd (S.unrun x.1) (by unfold FK.Cut;rw[if_pos K];exact⟨some x,ho,rfl⟩) cf aN
  ·
   refine ah ?_;exact bd S (by unfold FK.Cut;rw[if_neg K]) cf gfE3
 intro T hT;obtain⟨k1,k2,k3,k4,k5,k6,k7⟩:=H8 hT;have Y:∀r∈T.runs,r.1<=T.Lt:=λr hr=>by rw[k6];exact d8 r (k7.subset hr)
 refine al (l':=aG e p T::blk b3 25 #[.int .i64 fl.deadline,.slice (some ⟨I,0,none⟩) fl.Lw.length c]::row 58 7 (.slice (some ⟨I,0,none⟩) fl.Lw.length c) fl.Lw.length (bU fl.Lw vs)::ey vs fl.Lw::fr) aN ?_;refine sS<|dS 7 Z Z ?_
 refine cE (aF (v:=.int .u64 T.Lt) Z) (bc λ_ _ _=>rfl) ?_;refine sP (aT (r:=((T.Lt+1:Nat):Int)) Z Z (by rw[mM];omega))<|dA Z<|bX 7 Z ?_
 refine sO<|kZ (S:=T) (S':={T with Lt:=T.Lt+1}) Z Z Z ai Z (λ_ _ _=>rfl) Z Z Z Z Z Z ?_
 refine sN<|sQ<|sZ Z<|iJ 0 Z (bR (vs:=[.int .i64 fl.deadline,.slice (some ⟨I,0,none⟩) fl.Lw.length c]) Z) (aR Z)<|bF Z (bL 1 Z)<|bZ Z (aF Z) (ag Z)<|bF Z (bh Z Z) ?_
 refine cK 4 Z (Ct (zc:=n7 FK.s0) Z Z FP Z Z ai Z ai ai λgs=>?_);refine dK [true,true] (aa (ag Z) (aa (aR Z) ab))<|dr 5 Z (bT (cs:=#[.int .i64 fl.deadline,.slice (some ⟨I,0,none⟩) fl.Lw.length c,.int .i64 1,.slice (some ⟨gs,0,none⟩) fl.Lw.length fl.Lw.length,.int .u64 0]) Z Z Z Z Z)<|tV Z (cL Z Z λrb=>(dK [true,true] (aa (ag Z) (aa (aR Z) ab)) (bF Z (aQ Z) (dE (sT (sQ (sQ ?_)))))))
 refine al (l':=row 150 3 (.slice (some ⟨gs,0,none⟩) fl.Lw.length fl.Lw.length) fl.Lw.length (oy (js fl.Lw.length 0))::blk rb 148 #[.int .i64 fl.deadline,.slice (some ⟨I,0,none⟩) fl.Lw.length c,.int .i64 1,.slice (some ⟨gs,0,none⟩) fl.Lw.length fl.Lw.length,.int .u64 0]::aG e p {T with Lt:=T.Lt+1}::blk b3 25 #[.int .i64 fl.deadline,.slice (some ⟨I,0,none⟩) fl.Lw.length c]::row 58 7 (.slice (some ⟨I,0,none⟩) fl.Lw.length c) fl.Lw.length (bU fl.Lw vs)::ey vs fl.Lw::fr) ?_ ?_
 · refine gfE1.trans<|dI (cm _) (show fl.Lw.length<=9223372036854775807 by omega) (by rw[List.size_toArray,fD (k:=3) (λ_=>rfl),List.length_range]) ?_
   rw[List.toList_toArray,Gj,List.take_of_length_le (by rw[oF,Ax (Nat.zero_le _)];omega)]
 refine sG<|dS 3 Z Z<|aE Z Z Z Z<|sP (bh Z Z)<|sM Z<|sN<|aj ?_
 refine aL (X:=Nat) (λk=>[(45,.int .i64 k),(44,.int .i64 fl.Lw.length),(7,aX rb),(0,aX e),(3,aX b3)]) (λk=>row 150 3 (.slice (some ⟨gs,0,none⟩) fl.Lw.length fl.Lw.length) fl.Lw.length (oy (js fl.Lw.length k))::blk rb 148 #[.int .i64 fl.deadline,.slice (some ⟨I,0,none⟩) fl.Lw.length c,.int .i64 1,.slice (some ⟨gs,0,none⟩) fl.Lw.length fl.Lw.length,.int .u64 0]::aG e p {T with Lt:=T.Lt+1}::blk b3 25 #[.int .i64 fl.deadline,.slice (some ⟨I,0,none⟩) fl.Lw.length c]::row 58 7 (.slice (some ⟨I,0,none⟩) fl.Lw.length c) fl.Lw.length (bU fl.Lw vs)::ey vs fl.Lw::fr) (λk=>k<=fl.Lw.length) (λk=>fl.Lw.length-k) 0 (Nat.zero_le _) cf aN ?_;intro k hk;refine sS<|sP (bB Z Z Z)<|sN<|sQ ?_
 refine aA Z (λBT=>?_) λBT=>?_
 ·
  have O:k<fl.Lw.length:=ai;refine ah<|sT<|sQ<|aj<|bg Z<|sB Z<|sG<|dS 3 Z Z<|aE Z Z Z Z<|cG Z (bp (z:=3) Z Z Z Z O)<|bX 0 Z ?_
  refine sO<|fL .head Z Z Z Z ai ?_
  rw[show 0+k*3+0=0+k*3+0 from rfl,rZ (j:=0) (s':=FK.s1) (Dz O) ai rfl,Aw O];refine aq<|am<|sT<|sG<|sP (aT (r:=((k+1:Nat):Int)) Z Z eg)<|sM Z<|aq ?_
  exact aC (k+1) O ai cf aN
 ·
  have In:k=fl.Lw.length:=ai;subst In;have LB:js fl.Lw.length fl.Lw.length=(FK.Rn.begun fl).Lv:=by unfold js FK.Rn.begun;simp
  rw[LB];refine aK<|av<|au<|ao<|sT<|sQ ?_
  have f8:(FK.Rn.begun fl).Lv.length=fl.Lw.length:=by unfold FK.Rn.begun;simp
  refine al (l':=kV rb ⟨I,c,gs,fl.Lw.length,vs⟩ (FK.Rn.begun fl)::aG e p {T with Lt:=T.Lt+1}::blk b3 25 #[.int .i64 fl.deadline,.slice (some ⟨I,0,none⟩) fl.Lw.length c]::fr) ?_ ?_
  · refine Ent.trans ?_<|Ent.all (m:=oz rb ⟨I,c,gs,fl.Lw.length,vs⟩ (FK.Rn.begun fl))
    unfold oz RA.sv RA.nv zP xj RA.sv RA.nv;rw[f8];refine(dd bM gC gC).trans ?_;exact Ent.pure wf
  refine sZ Z<|eI Z Z<|dv 1 Z Z Z ?_
  refine iJ 3 Z (aF Z) (bc λ_ _ _=>rfl) ?_;refine dr 4 Z (bn Z)<|dv 7 Z Z Z ?_
  refine iJ 7 Z (aF Z) (bc λ_ _ _=>rfl) ?_;refine dr 8 Z (bn Z) ?_;refine cK 9 Z<|xK (id:=T.Lt+1) (b:=rb) (a:=⟨I,c,gs,fl.Lw.length,vs⟩) (R:=FK.Rn.begun fl) Z Z fy Z Z Z (λr hr=>by have:=Y r hr;omega) ?_
  refine dK [false,false] ab<|dE<|sT<|sQ ?_
  obtain⟨p',Fd⟩:∃p',p'=p.add (T.Lt+1) rb ⟨I,c,gs,fl.Lw.length,vs⟩:=⟨_,rfl⟩;rw[<-Fd];refine al (l':=aG e p' (T.begin fl)::blk b3 25 #[.int .i64 fl.deadline,.slice (some ⟨I,0,none⟩) fl.Lw.length c]::fr) aN ?_;have LQ:(T.begin fl).now=S.now:=k1;have LR:(T.begin fl).sets=S.sets:=k4;have LC:(T.begin fl).tms=S.tms:=k3;refine sZ Z<|eI Z Z<|dv 6 Z Z Z ?_
  refine iJ 3 Z (aF Z) (bc λ_ _ _=>rfl) ?_;refine dr 4 Z (bn Z)<|dv 7 Z Z Z ?_
  refine iJ 7 Z (aF Z) (bc λ_ _ _=>rfl) ?_;refine dr 8 Z (bT (cs:=#[.int .u64 ((T.Lt+1:Nat):Int),.int .i64 (-1),.int .i64 0]) Z Z Z Z Z)<|cJ Z Z<|bF Z (bL 0 Z)<|bZ Z (aF Z) (ag Z) ?_
  refine cK 12 Z<|cF Z (mu (S:=T.begin fl) fl.deadline ai t7 hd) aN ?_
  rintro v m ⟨rfl,rfl⟩;refine ae ?_;refine dK [false,true,true] (aa (bc λ_ _ _=>rfl) (aa (bc λ_ _ _=>rfl) ab)) ?_;refine cK 13 Z<|cF Z (oH (S:=T.begin fl) ⟨T.Lt+1,-1,0⟩ ((T.begin fl).later fl.deadline.toNat) (f7 _ _ ai) (d6 _ _) ai (by rw[LC];omega)) aN ?_
  rintro v m ⟨rfl,rfl⟩;refine ae ?_;refine dK [true,false] (aa (bc (S:=(T.begin fl).setT ⟨T.Lt+1,-1,0⟩ ((T.begin fl).later fl.deadline.toNat)) λ_ _ _=>rfl) ab) ?_;refine dE<|sT<|sQ ?_
  obtain⟨U,hU⟩:∃U,U=(T.begin fl).setT ⟨T.Lt+1,-1,0⟩ ((T.begin fl).later fl.deadline.toNat):=⟨_,rfl⟩;rw[<-hU];have LD:U.getR (T.Lt+1)=some (FK.Rn.begun fl):=by rw[hU];exact FK.tH Y
  have f9:U.Lt=T.Lt+1:=by rw[hU];rfl
  have LE:U.Lx=S.Lx:=by rw[hU];exact k5
  refine sG<|sM Z<|dS 7 Z Z ?_
  refine cE (aF (v:=.int .u64 ((T.Lt+1:Nat):Int)) Z) (bc (S:=U) λ_ _ _=>by rw[<-f9];rfl) ?_;refine bV Z (uA (S:=U) LD f8 d7 t6 (by rw[LE];exact hq)) aN ?_;refine ae<|sN<|sQ ?_
  obtain⟨LJ,LK,LL,LM,LN,LO,d9,LP⟩:=FK.uz U (T.Lt+1);obtain⟨V,hV⟩:∃V,V=U.wake (T.Lt+1):=⟨_,rfl⟩;rw[<-hV] at d9;rw[<-hV];refine sG<|dS 7 Z Z ?_
  refine cE (aF (v:=.int .u64 ((T.Lt+1:Nat):Int)) Z) (bc (S:=V) λ_ _ _=>by rw[<-f9,<-d9];rfl) ?_;refine sB Z<|an ?_
  have mt:V=T.submit fl:=by rw[hV,hU];rfl
  exact aw [aG e p' V] rfl Z ⟨T,p',hT,by rw[k6],by rw[mt]⟩<|Ent.cons Ent.drop
end Go.Y

namespace Go.Y
open Go.Proofs Go.RowKit Go.SL
variable {G:Env->Prop}
abbrev dh (run:Nat) (st:Int) (E I:Value):List Value:=[.int .u64 run,.int .i64 st,E,I]
theorem yL {e:Nat} {p:EA} {S:FK.En} {id:Nat} {R:FK.Rn} (hR:S.getR id=some R) (hn:R.Lv.length<=100):dZ G 37 [aX e,aV id] [aG e p S] λv m=>∃v2 v3,v=.tuple #[.agg (dh id R.state v2 v3).toArray,.bool true]/\m=[aG e p S,aU v2 (R.Lv.map (·.state)),aU v3 (R.Lv.map (·.Lu))]:=by
 refine bz Tryz.func37 Z λE fr hE=>ae<|sS<|sO (cX (z:=.agg #[.int .u64 0,.int .i64 0,.slice none 0 0,.slice none 0 0]) Z λb4=>(sB Z (sS (sM Z (dA Z (bX 1 Z ?_))))))
 refine cE (aF (v:=.map (some p.rm)) Z) (bc λ_ _ _=>rfl) ?_;refine sM Z<|cE (lS (m:=eV S p) Z fy Z Z (gV hR)) eH<|sM Z<|bG Z Z<|bG Z Z<|sA Z<|sB Z<|sQ<|bg Z<|sP (dp Z Z)<|sN<|ak Z<|ah<|sT<|sQ ?_
 refine sG<|sM Z<|dS 2 Z Z<|cE (aF (v:=.int .i64 R.state) Z) (cz hR Z)<|sP (bT (cs:=(dh id R.state (.slice none 0 0) (.slice none 0 0)).toArray) Z Z Z Z Z) ?_
 refine sO<|aZ (vs:=dh id R.state (.slice none 0 0) (.slice none 0 0)) Z (m:=4) Z Z Z Z fx (by show 0+4<=4;omega) ?_
 refine sN<|sQ<|sS<|dS 3 Z Z<|cE (aF (v:=(p.ra id).sv R) Z) (cz hR Z)<|sP (bh Z Z)<|sM Z<|sN<|aj ?_
 refine aL (X:=Nat×Value×Value) (λx=>[(32,.int .i64 x.1),(31,.int .i64 R.Lv.length),(30,(p.ra id).sv R),(4,aX b4),(6,aX (p.fb id))]) (λx=>blk b4 32 (dh id R.state x.2.1 x.2.2).toArray::row 3 1 x.2.1 x.1 (bx ((R.Lv.take x.1).map (·.state)))::row 3 1 x.2.2 x.1 (bx ((R.Lv.take x.1).map (·.Lu)))::aG e p S::fr) (λx=>x.1<=R.Lv.length) (λx=>R.Lv.length-x.1) (0,.slice none 0 0,.slice none 0 0) (Nat.zero_le _) cf (Ent.cons (Ent.row0.trans (Ent.cons Ent.row0))) ?_;rintro⟨k,v2,v3⟩ hk;replace hk:k<=R.Lv.length:=hk;refine al (l':=blk b4 32 (dh id R.state v2 v3).toArray::row 3 1 v2 k (bx ((R.Lv.take k).map (·.state)))::row 3 1 v3 k (bx ((R.Lv.take k).map (·.Lu)))::aG e p S::fr) aN ?_;refine sS<|sP (bB Z Z Z)<|sN<|sQ ?_
 refine aA Z (λf7=>?_) λf7=>?_
 ·
  have d7:k<R.Lv.length:=by have:(k:Int)<(R.Lv.length:Int):=f7;omega
  obtain⟨s,hs⟩:∃s,R.Lv[k]?=some s:=⟨R.Lv[k],by simp[d7]⟩;have f8:bx ((R.Lv.take k).map (·.state))++[.int .i64 s.state]=bx ((R.Lv.take (k+1)).map (·.state)):=by rw[List.take_add_one,hs];simp[bx]
  have f9:bx ((R.Lv.take k).map (·.Lu))++[.int .i64 s.Lu]=bx ((R.Lv.take (k+1)).map (·.Lu)):=by rw[List.take_add_one,hs];simp[bx]
  refine ah<|sT<|sQ<|aj<|sS<|sP (bp (z:=3) Z Z Z Z d7)<|cE (bR (vs:=n7 s) Z) (rY hR hs)<|sO (cX (z:=.agg #[.int .i64 0,.int .i64 0,.int .u64 0]) Z λb8=>?_)
  refine sO<|aZ (vs:=n7 s) Z (m:=3) Z Z Z Z fx (by show 0+3<=3;omega) ?_
  refine al (l':=blk b8 150 (n7 s).toArray::blk b4 32 (dh id R.state v2 v3).toArray::row 3 1 v2 k (bx ((R.Lv.take k).map (·.state)))::row 3 1 v3 k (bx ((R.Lv.take k).map (·.Lu)))::aG e p S::fr) aN ?_;refine sN<|sZ Z<|dr 0 Z (bL 2 Z)<|bZ Z (aF Z) (ag Z)<|bF Z (bL 0 Z)<|bZ Z (aF Z) (ag Z)<|dr 6 Z (bL 3 Z)<|bZ Z (aF Z) (ag Z)<|bF Z (bL 1 Z)<|bZ Z (aF Z) (ag Z) ?_
  refine fo 4 10 Z Z Z Z eP (eE Z Z Z Z Z Z λt6=>?_) (eE Z Z Z Z Z Z λmt=>?_)
  ·
   refine dK [true,true,false,true] (aa (ag Z) (aa (ag Z) (aa (ag Z) ab))) ?_;refine fo 5 10 rfl rfl rfl rfl eP (cU rfl rfl jf rfl ai rfl rfl (HasVal.sel (v:=v2)) (news:=[.int .i64 s.state]) rfl (λh=>by cases h) (iu (λj u h=>by simpa using h)) fx (by unfold maxLen;omega) ai λY d8=>?_) (eE rfl rfl rfl rfl rfl rfl λmt=>?_)
   ·
    refine aI (HasVal.sel (v:=Y)) ?_;rintro I K rfl - - - - -
    refine dK [true,true,false] (aa (ag Z) (aa (ag Z) ab))<|dr 12 Z (bL 2 Z)<|cK 10 Z (eE Z Z Z Z Z Z λmt=>(dK [false,true] (aa (ag Z) ab) ?_))
    refine dR 11 rfl rfl (cU rfl rfl jf rfl ai rfl rfl (HasVal.sel (v:=v3)) (news:=[.int .i64 s.Lu]) rfl (λh=>by cases h) (iu (λj u h=>by simpa using h)) fx (by unfold maxLen;omega) ai λd6 d9=>?_);refine aI (HasVal.sel (v:=d6)) ?_;rintro O T rfl - - - - -
    refine dK [false] ab ?_;refine cK 13 Z<|cp Z Z Z Z Z ii ?_
    refine dK [] ab<|dr 14 Z (bL 3 Z) ?_
    refine cK 15 Z<|cp Z Z Z Z Z ii ?_
    refine dK [] ab<|dE<|am<|sT<|aD b4 (dh id R.state (.slice I (k+1) K) (.slice O (k+1) T)).toArray Z<|sG<|sP (aT (r:=((k+1:Nat):Int)) Z Z eg)<|sM Z<|aq ?_
    exact aC (k+1,.slice I (k+1) K,.slice O (k+1) T) d7 (by show R.Lv.length-(k+1)<R.Lv.length-k;omega) cf (by rw[f8,f9];exact ap)
   ·
    refine dK [false,true,true] (aa (ag Z) (aa (ag Z) ab)) ?_;refine dR 5 rfl rfl (cU rfl rfl jf rfl ai rfl rfl (HasVal.sel (v:=v2)) (news:=[.int .i64 s.state]) rfl (λh=>by cases h) (iu (λj u h=>by simpa using h)) fx (by unfold maxLen;omega) ai λY d8=>?_);refine aI (HasVal.sel (v:=Y)) ?_;rintro I K rfl - - - - -
    refine dK [true,false] (aa (ag Z) ab)<|dr 12 Z (bL 2 Z) ?_
    refine dR 11 rfl rfl (cU rfl rfl jf rfl ai rfl rfl (HasVal.sel (v:=v3)) (news:=[.int .i64 s.Lu]) rfl (λh=>by cases h) (iu (λj u h=>by simpa using h)) fx (by unfold maxLen;omega) ai λd6 d9=>?_);refine aI (HasVal.sel (v:=d6)) ?_;rintro O T rfl - - - - -
    refine dK [false] ab ?_;refine cK 13 Z<|cp Z Z Z Z Z ii ?_
    refine dK [] ab<|dr 14 Z (bL 3 Z) ?_
    refine cK 15 Z<|cp Z Z Z Z Z ii ?_
    refine dK [] ab<|dE<|am<|sT<|aD b4 (dh id R.state (.slice I (k+1) K) (.slice O (k+1) T)).toArray Z<|sG<|sP (aT (r:=((k+1:Nat):Int)) Z Z eg)<|sM Z<|aq ?_
    exact aC (k+1,.slice I (k+1) K,.slice O (k+1) T) d7 (by show R.Lv.length-(k+1)<R.Lv.length-k;omega) cf (by rw[f8,f9];exact ap)
  ·
   refine dK [false,true,true,true] (aa (ag Z) (aa (ag Z) (aa (ag Z) ab)))<|cK 4 Z (eE Z Z Z Z Z Z λt6=>(dK [true,false,true] (aa (ag Z) (aa (ag Z) ab)) ?_))
   refine dR 5 rfl rfl (cU rfl rfl jf rfl ai rfl rfl (HasVal.sel (v:=v2)) (news:=[.int .i64 s.state]) rfl (λh=>by cases h) (iu (λj u h=>by simpa using h)) fx (by unfold maxLen;omega) ai λY d8=>?_);refine aI (HasVal.sel (v:=Y)) ?_;rintro I K rfl - - - - -
   refine dK [true,false] (aa (ag Z) ab)<|dr 12 Z (bL 2 Z) ?_
   refine dR 11 rfl rfl (cU rfl rfl jf rfl ai rfl rfl (HasVal.sel (v:=v3)) (news:=[.int .i64 s.Lu]) rfl (λh=>by cases h) (iu (λj u h=>by simpa using h)) fx (by unfold maxLen;omega) ai λd6 d9=>?_);refine aI (HasVal.sel (v:=d6)) ?_;rintro O T rfl - - - - -
   refine dK [false] ab ?_;refine cK 13 Z<|cp Z Z Z Z Z ii ?_
   refine dK [] ab<|dr 14 Z (bL 3 Z) ?_
   refine cK 15 Z<|cp Z Z Z Z Z ii ?_
   refine dK [] ab<|dE<|am<|sT<|aD b4 (dh id R.state (.slice I (k+1) K) (.slice O (k+1) T)).toArray Z<|sG<|sP (aT (r:=((k+1:Nat):Int)) Z Z eg)<|sM Z<|aq ?_
   exact aC (k+1,.slice I (k+1) K,.slice O (k+1) T) d7 (by show R.Lv.length-(k+1)<R.Lv.length-k;omega) cf (by rw[f8,f9];exact ap)
 ·
  have t7:k=R.Lv.length:=by have:¬(k:Int)<(R.Lv.length:Int):=f7;omega
  refine aK<|av<|au<|ao<|sT<|sQ<|aI (HasVal.sel (v:=v2)) ?_
  rintro A2 c2 rfl - - - - -
  refine aI (HasVal.sel (v:=v3)) ?_;rintro A3 c3 rfl - - - - -
  refine sG<|cE (bR (vs:=dh id R.state (.slice A2 k c2) (.slice A3 k c3)) Z) (aR Z) ?_
  refine sO<|aZ (vs:=dh id R.state (.slice A2 k c2) (.slice A3 k c3)) Z (m:=4) Z Z Z Z fx (by show 0+4<=4;omega) ?_
  refine sB Z<|an ?_
  refine eb [aG e p S,aU (.slice A2 k c2) (R.Lv.map (·.state)),aU (.slice A3 k c3) (R.Lv.map (·.Lu))] rfl (ce (vs:=dh id R.state (.slice A2 k c2) (.slice A3 k c3)) Z Z Z Z (aR Z)) (da Z) ⟨_,_,rfl,rfl⟩ ?_;rw[List.take_of_length_le ai];show Ent _ (aG e p S::row 3 1 _ (R.Lv.map (·.state)).length _::row 3 1 _ (R.Lv.map (·.Lu)).length _::fr);rw[List.length_map,List.length_map,<-t7];exact ap
end Go.Y

namespace Go.Y
open Go.Proofs Go.RowKit Go.SL
variable {G:Env->Prop}
theorem Hf:fV Tryz.prog 78 (jR 0 0 0 0) 4 32:=by unfold fV;kernel_rfl
end Go.Y

namespace Go.Y
open Go.Proofs Go.RowKit Go.SL
variable {G:Env->Prop}
theorem tR {Y:List HP} (xs:List Int) (A:Option Addr) (c:Nat) (F:FuncId) (cap:Array Value) (f:Int->Bool) (d9:xs.length<=9223372036854775807) (hA:xs≠[]->∃g,A=some ⟨g,0,none⟩/\∀E w r,Holds E w (Y++r)->∀j x,xs[j]?=some x->cR ⟨g,0+j*1,none⟩ (.int .i64 x) w) (hF:dX Tryz.prog F=true) (hf:∀x∈xs,Does Tryz.prog G F (#[.int .i64 x]++cap) Y λv m=>v=.bool (f x)/\m=Y) :
 dZ G 229 [.slice A xs.length c,.func (.func F) #[] cap] Y λu m=>(∃i:Int,u=.int .i64 i/\(0<=i<->xs.any f=true))/\m=Y:=by
 refine bz Tryz.func229 Z λE fr hE=>sS<|sB Z<|sQ<|bg Z<|sP (bh Z Z)<|sM Z<|sN<|aj ?_
 refine aL (X:=Nat) (λk=>[(8,.int .i64 k),(7,.int .i64 xs.length),(0,.slice A xs.length c),(1,.func (.func F) #[] cap)]) (λ_=>Y++fr) (λk=>k<=xs.length/\(xs.take k).any f=false) (λk=>xs.length-k) 0 ⟨Nat.zero_le _,rfl⟩ cf aN ?_;rintro k ⟨hk,d6⟩;refine sS<|sP (bB Z Z Z)<|sN<|sQ ?_
 refine aA Z (λc9=>?_) λc9=>?_
 ·
  have I:k<xs.length:=ai;obtain⟨g,rfl,T⟩:=hA (by intro h;rw[h] at I;simp at I);obtain⟨x,hx⟩:∃x,xs[k]?=some x:=⟨xs[k],by simp[I]⟩;have d7:xs.take (k+1)=xs.take k++[x]:=by rw[List.take_add_one,hx];rfl
  refine ah<|sT<|sQ<|aj<|bg Z<|sB Z<|bg Z<|sM Z<|cG Z (bp (z:=1) Z Z Z Z I) ?_
  refine cE (aF (v:=.int .i64 x) Z) (λw hw=>T _ _ _ hw k x hx) ?_;refine sO<|ct Z Z hF Z hE (hf x (du hx)) aN ?_
  rintro v m ⟨rfl,hm⟩;rw[hm];refine sN ?_;refine dQ Z (λO=>?_) λO=>?_
  ·
   refine bg Z<|sB Z<|an<|aJ<|aH<|cu<|aJ<|aH ?_
   exact aw Y Z Z ⟨⟨_,rfl,by
    have:xs.any f=true:=List.any_eq_true.2 ⟨x,du hx,O⟩;simp[this]⟩,rfl⟩ aN
  ·
   refine ah<|am<|sT<|sG<|sP (aT (r:=((k+1:Nat):Int)) Z Z eg)<|sM Z<|aq ?_
   exact aC (k+1) ⟨I,by rw[d7,List.any_append,d6];simp[O]⟩ ai cf aN
 ·
  have d8:k=xs.length:=ai;rw[d8,List.take_length] at d6;refine aK<|av<|au<|ao<|sT<|sS<|sB Z<|an ?_
  exact aw Y Z Z ⟨⟨_,rfl,by simp[d6]⟩,rfl⟩ aN
theorem pq {Y:List HP} (xs:List Int) (A:Option Addr) (c:Nat) (F:FuncId) (cap:Array Value) (f:Int->Bool) (I:xs.length<=9223372036854775807) (O:xs≠[]->∃g,A=some ⟨g,0,none⟩/\∀E w r,Holds E w (Y++r)->∀j x,xs[j]?=some x->cR ⟨g,0+j*1,none⟩ (.int .i64 x) w) (T:dX Tryz.prog F=true) (hf:∀x∈xs,Does Tryz.prog G F (#[.int .i64 x]++cap) Y λv m=>v=.bool (f x)/\m=Y) :
 dZ G 201 [.slice A xs.length c,.func (.func F) #[] cap] Y λu m=>u=.bool (xs.any f)/\m=Y:=by
 refine bz Tryz.func201 Z λE fr hE=>sS<|sB Z<|bg Z<|sM Z ?_
 refine ch Z (tR xs A c F cap f I O T hf) aN ?_;rintro v m ⟨⟨i,rfl,hi⟩,hm⟩;rw[hm];refine sP (n9 Z Z Z)<|sB Z<|an ?_
 have hd:decide ((0:Int)<=i)=xs.any f:=by
  cases hx:xs.any f with
  | true=>exact zR (hi.2 hx)
  | false=>exact Dg (λh=>by rw[hi.1 h] at hx;cases hx)
 exact aw Y Z Z ⟨by rw[hd],rfl⟩ aN
theorem Ent.under {n:Nat} {a b:List HP} (h:Ent a b):Ent (a.map (SL.under n)) (b.map (SL.under n)):=λw _ s=>(Star.under (h w _ (mD s)) λ_ I=>I.2).mono λ_ I=>I.1
theorem EU {n g c m size:Nat} {t:TypeId} {xs:List Value} {r:List HP}:Ent (SL.under n (row t size (.slice (some ⟨g,0,none⟩) m c) m xs)::r) (HP.pure (g<n)::row t size (.slice (some ⟨g,0,none⟩) m c) m xs::r):=λw F ⟨F1,F2,O,T,hd,I,Y⟩=>
 Ent.pure (I.2 g rfl).2 w F ⟨F1,F2,O,T,hd,(row t size (.slice (some ⟨g,0,none⟩) m c) m xs).loc (λ_ h=>h.1) (λ_ _=>rfl) I,Y⟩
theorem EV {n g c m size:Nat} {t:TypeId} {xs:List Value} {r:List HP} (T:g<n):Ent (row t size (.slice (some ⟨g,0,none⟩) m c) m xs::r) (SL.under n (row t size (.slice (some ⟨g,0,none⟩) m c) m xs)::r):=λ_ _ ⟨F1,F2,Y,h2,hd,O,hl⟩=>
 ⟨F1,F2,Y,h2,hd,⟨O.1,λk I=>⟨O.2 k I,by injection I with I;subst I;exact T⟩⟩,hl⟩
theorem Im {n b:Nat} {o:Obj} {r:List HP}:Ent (SL.under n (ob b o)::r) (HP.pure (b<n)::ob b o::r):=λw F ⟨F1,F2,O,T,hd,I,Y⟩=>
 Ent.pure I.1.2 w F ⟨F1,F2,O,T,hd,⟨I.1.1,I.2⟩,Y⟩
theorem sW {n b:Nat} {o:Obj} {r:List HP} (O:b<n):Ent (ob b o::r) (SL.under n (ob b o)::r):=λ_ _ ⟨F1,F2,T,Y,hd,I,hl⟩=>
 ⟨F1,F2,T,Y,hd,⟨⟨I.1,O⟩,I.2⟩,hl⟩
section
variable {P:Program} {E:Env} {n:Nat} {D:List Deferred} {ts:List (Nat×Value)} {l r:List HP} {Q:Exit->Act->World->Prop} {ty:TypeId} {pos:String} {af:Array Edge} {g:Option (Nat×Bool)} {t:TypeId} {x y:Operand} {e:Nat} {p:EA} {S:FK.En} {K:Act->World->Prop}
theorem DZ {h id k j o:Nat} {R:FK.Rn} {s s':FK.Sp} {v:Value} (H:Sel (SL.under h (aG e p S)) l r) (hR:S.getR id=some R) (T:R.Lv[k]?=some s) (hz:dm P t 1) (hx:ev ts x=some (.pointer (some ⟨(p.ra id).gs,o,none⟩))) (hy:ev ts y=some v) (ho:o=0+k*3+j) (hj:j<3) (hv:v.oneCell'=true) (I:(n7 s).set j v=n7 s')
 (hk:At E n D ts (SL.under h (aG e p (S.setR id (R.setS k s')))::r) K):At E n D ts l (λa w=>(Oper.mk none (.store t x y) ty pos af g).wp P a w K Q):=by
 refine al (Ent.sel H) ?_;refine eK (p:=ep S) (λw hw=>oa hw) λY=>?_;obtain⟨a,b,O,hset'⟩:=kP hR Y;refine al ((Ent.under (n:=h) (lk (e:=e) (p:=p) (r:=[]) O)).append r) ?_;rw[List.append_nil];have d6:=(gfGet.1 T).1;have hl:(R.setS k s').Lv.length=R.Lv.length:=by simp[FK.Rn.setS]
 show At E n D ts (SL.under h (HP.pure ((p.ra id).vs.length=R.fl.Lw.length))::SL.under h (zP (p.fb id) (p.ra id) R)::SL.under h (row 58 7 ((p.ra id).nv R) R.fl.Lw.length (bU R.fl.Lw (p.ra id).vs))::SL.under h (ey (p.ra id).vs R.fl.Lw)::SL.under h (row 150 3 ((p.ra id).sv R) R.Lv.length (oy R.Lv))::((nX e p S a b).map (SL.under h)++r)) _;refine al (gfE4.trans EU) ?_;refine ec .head λhg=>?_;refine fL .head hz hx hy hv ai ?_;refine al ?_ hk;subst ho;rw[rZ T hj I];refine(EV hg).trans ?_;refine((dd bM bM bM).trans (Ent.cons (Ent.cons (Ent.cons gfE1)))).trans ?_;have hc:=(Ent.under (n:=h) (ki (e:=e) (p:=p) (r:=[]) Y (hset' (R.setS k s')))).append r;rw[List.append_nil] at hc;refine Ent.trans ?_ hc;show Ent _ (SL.under h (HP.pure ((p.ra id).vs.length=R.fl.Lw.length))::SL.under h (blk (p.fb id) 148 #[.int .i64 R.fl.deadline,(p.ra id).nv R,.int .i64 R.state,.slice (some ⟨(p.ra id).gs,0,none⟩) (R.setS k s').Lv.length (p.ra id).cs,.int .u64 R.ended])::SL.under h (row 58 7 ((p.ra id).nv R) R.fl.Lw.length (bU R.fl.Lw (p.ra id).vs))::SL.under h (ey (p.ra id).vs R.fl.Lw)::SL.under h (row 150 3 (.slice (some ⟨(p.ra id).gs,0,none⟩) (R.setS k s').Lv.length (p.ra id).cs) (R.setS k s').Lv.length (oy (R.Lv.set k s')))::((nX e p S a b).map (SL.under h)++r));rw[hl];exact aN
end
end Go.Y

namespace FK
theorem Gn {ns:List Node} {l:List Sp} {k:Nat} {s:Sp} {nd:Node} (E:l[k]?=some s) (I:ns[k]?=some nd):dt ns l k=if s.state=1/\(nd.after.any λu=>df l u.toNat 6||df l u.toNat 7) then l.set k {s with state:=7} else l:=by
 unfold dt;rw[E,I]
end FK
namespace Go.Y
open Go.Proofs
open Go Go.RowKit Go.SL
variable {G:Env->Prop}
abbrev iA (c:Nat) (v:Value):HP:=blk c 136 #[v]
section
variable {S:FK.En} {R:FK.Rn} {id:Nat}
theorem IU (E:S.getR id=some R) (I:ep S):S.setR id R=S:=by
 obtain⟨a,b,K,O⟩:=kP E I;have h3:(S.setR id R).runs=S.runs:=by rw[O,K]
 have T:S.setR id R={S with runs:=(S.setR id R).runs}:=rfl;rw[T,h3]
theorem wZ {e:Nat} {p:EA} {u h c:Nat} {s:FK.Sp} (I:S.getR id=some R) (K:R.Lv[u]?=some s):dZ G 202 [.int .i64 u,aX c] [SL.under h (aG e p S),iA c (aX (p.fb id))] λv m=>v=.bool (decide (s.state∈[6,7]))/\m=[SL.under h (aG e p S),iA c (aX (p.fb id))]:=by
 refine bz Tryz.func202 Z λE fr T=>az<|sS<|sB Z<|sS<|aE Z Z Z Z<|sM Z<|sO (xI Z Z Z Z Z Z Z Z λO=>?_)
 refine bV Z (sn [6,7] (some ⟨O,0,none⟩) 2 I K) ((aY bM .head).trans (Ent.cons (hZ (xs:=[6,7]) (show 2<=9223372036854775807 by omega)))) ?_;exact ae<|sB Z<|an<|aw [_,_] rfl Z ⟨rfl,rfl⟩ aN
theorem zv {e:Nat} {p:EA} {k h c:Nat} (K:S.getR id=some R) (t8:R.Lv.length=R.fl.Lw.length) (d7:zS R.fl) (_hn:R.fl.Lw.length<=100) (hk:k<R.fl.Lw.length) :
 Does Tryz.prog G 200 (#[.int .i64 k]++#[aX c]) [SL.under h (aG e p S),SL.under h (iA c (aX (p.fb id)))] λv m=>v=.tuple #[]/\m=[SL.under h (aG e p (S.setR id {R with Lv:=FK.dt R.fl.Lw R.Lv k})),SL.under h (iA c (aX (p.fb id)))]:=by
 obtain⟨s,hs⟩:∃s,R.Lv[k]?=some s:=⟨R.Lv[k]'ai,by simp⟩;obtain⟨nd,hnd⟩:∃nd,R.fl.Lw[k]?=some nd:=⟨R.fl.Lw[k],by simp[hk]⟩;have mt:=(gfGet.1 hs).1;have d6:=FK.Gn hs hnd;refine bz Tryz.func200 Z λE fr hE=>az ?_;refine al (gfE1.trans Im) (ec .head λT=>?_);refine eK (p:=ep S) (λw hw=>oa hw) λd9=>?_;have I:S.setR id R=S:=IU K d9;refine eK (λw hw=>m7 K hnd hw) λhA=>?_;obtain⟨A,ca,hu,f8,f9,wf,d8⟩:=hA;replace d8:ca<=9223372036854775807:=d8;have t6:∀x∈nd.after,Does Tryz.prog G 202 (#[.int .i64 x]++#[aX c]) [SL.under h (aG e p S),iA c (aX (p.fb id))] λv m=>v=.bool (FK.df R.Lv x.toNat 6||FK.df R.Lv x.toNat 7)/\m=[SL.under h (aG e p S),iA c (aX (p.fb id))]:=λx hx=>by
  obtain⟨BT,Fd⟩:=d7 nd (du hnd) x hx;obtain⟨u,rfl⟩:∃u:Nat,x=(u:Int):=⟨x.toNat,ai⟩;obtain⟨s2,Y⟩:∃s2,R.Lv[u]?=some s2:=⟨R.Lv[u]'ai,by simp⟩;have hb:decide (s2.state∈([6,7]:List Int))=(FK.df R.Lv (u:Int).toNat 6||FK.df R.Lv (u:Int).toNat 7):=by
   rw[Int.toNat_natCast,FK.gc Y,FK.gc Y]
   by_cases h6:s2.state=6
   · simp[h6]
   · by_cases h7:s2.state=7<;>simp[h6,h7]
  rw[<-hb];exact wZ K Y
 have t7:nd.after≠[]->∃g,A=some ⟨g,0,none⟩/\∀E w r,Holds E w ([SL.under h (aG e p S),iA c (aX (p.fb id))]++r)->∀j x,nd.after[j]?=some x->cR ⟨g,0+j*1,none⟩ (.int .i64 x) w:=λf7=>by
  have hp:=List.length_pos_iff.2 f7;cases A with
  | none=>have:=(f8 rfl).1;omega
  | some ad=>
   obtain⟨g,rfl⟩:=f9 ad rfl;exact⟨g,rfl,λE w r hw j x hx=>yl (l:=SL.under h (aG e p S)::iA c (aX (p.fb id))::r) K hnd hu hx w hw⟩
 refine sQ ?_
 by_cases HW:s.state=1
 ·
  refine sG<|aE Z Z Z Z<|sM Z<|sO (eE Z Z Z Z Z Z λb5=>?_)
  refine bV Z (sn [1] (some ⟨b5,0,none⟩) 1 K hs) ((aY dj .head).trans (Ent.cons (hZ (xs:=[1]) (show 1<=9223372036854775807 by omega)))) ?_;refine ae ?_;rw[show decide (s.state∈([1]:List Int))=true by simp[HW]];refine sM Z<|mJ (aF Z) (ag Z)<|eJ (cv Z)<|eJ (bL 0 Z)<|eJ (bL 1 Z)<|mJ (aF (v:=(p.ra id).nv R) Z) (cz K Z)<|iC Z<|eJ (bp (z:=7) Z Z Z Z hk)<|eJ (bL 6 Z) ?_
  refine mJ (aF (v:=.slice A nd.after.length ca) Z) (λw hw=>fG K hnd hu w hw 6 _ Z) ?_;refine eJ (ew Z Z) ?_;refine iK Z Z Z<|cF Z (pq nd.after A ca 202 #[aX c] (λx=>FK.df R.Lv x.toNat 6||FK.df R.Lv x.toNat 7) ai t7 Z t6) aN ?_
  rintro v m ⟨rfl,rfl⟩;refine az<|sP (aS Z Z Z)<|sN ?_
  refine dQ Z (λO=>?_) λO=>?_
  ·
   refine sG<|aE Z Z Z Z<|dA Z<|bX 3 Z<|cE (aF (v:=(p.ra id).sv R) Z) (cz K Z)<|cG Z (bp (z:=3) Z Z Z Z mt)<|bX 0 Z ?_
   refine sO<|DZ (j:=0) (s':={s with state:=7}) .head K hs Z Z Z Z ai Z Z ?_
   refine aq ?_;exact bm [SL.under h (aG e p (S.setR id {R with Lv:=FK.dt R.fl.Lw R.Lv k})),SL.under h (iA c (aX (p.fb id)))] rfl ⟨rfl,rfl⟩ (by
    rw[d6,if_pos ⟨HW,O⟩];exact Ent.cons (sW T))
  ·
   refine ah ?_;exact bm [SL.under h (aG e p (S.setR id {R with Lv:=FK.dt R.fl.Lw R.Lv k})),SL.under h (iA c (aX (p.fb id)))] rfl ⟨rfl,rfl⟩ (by
    rw[d6,if_neg (λh=>by rw[h.2] at O;cases O),I];exact Ent.cons (sW T))
 ·
  refine sG<|aE Z Z Z Z<|sM Z<|sO (eE Z Z Z Z Z Z λb5=>?_)
  refine bV Z (sn [1] (some ⟨b5,0,none⟩) 1 K hs) ((aY dj .head).trans (Ent.cons (hZ (xs:=[1]) (show 1<=9223372036854775807 by omega)))) ?_;refine ae ?_;rw[show decide (s.state∈([1]:List Int))=false by simp[HW]];refine sM Z<|bQ Z<|bQ Z<|bQ Z<|bQ Z<|bQ Z<|bQ Z<|bQ Z<|bQ Z<|bQ Z<|bQ Z<|bQ Z<|sP (aS Z Z Z)<|sN<|ak Z<|ah ?_
  exact bm [SL.under h (aG e p (S.setR id {R with Lv:=FK.dt R.fl.Lw R.Lv k})),SL.under h (iA c (aX (p.fb id)))] rfl ⟨rfl,rfl⟩ (by
   rw[d6,if_neg (λh=>HW h.1),I];exact Ent.cons (sW T))
end
end Go.Y

namespace Go.Y
open Go.Proofs Go.RowKit Go.SL
variable {G:Env->Prop}
theorem OwnNodes.nodesAtB {B:Nat} {w:World} {base:Nat} {A:Option Addr} {c:Nat} {l:List FK.Node} {vs:List Value} (h:OwnNodes w base (.slice A l.length c) l vs)
 (d7:∀g,(Value.slice A l.length c).ownBlock=some g->g<B) (T:∀(i:Nat) (u:Value),vs[i]?=some u->∀g,u.ownBlock=some g->g<B) (hr:∀n∈l,(i64 n.Lz/\i64 n.close/\i64 n.beat/\i64 n.base/\i64 n.cap/\i64 n.LA)/\∀x∈n.after,i64 x):NodesAt w B A c l:=by
 have K:=h.row;rcases K.2 with⟨O,h0⟩|⟨g,cap,f9,O,hb,hg,h1,h2,_⟩
 · injection O with _ _ hc
   subst hc;exact⟨ai,ai,λhl=>by omega⟩
 · injection O with hA _ hc
   subst hA;subst hc;refine⟨h1,by unfold maxLen at h2;omega,λhl=>⟨g,0,rfl,d7 _ Z,λi n hn=>?_⟩⟩;obtain⟨hi,_⟩:=gfGet.1 hn;have Y:∃u,vs[i]?=some u:=⟨vs[i]'(by rw[h.len];exact hi),by simp⟩;obtain⟨u,Y⟩:=Y;have I:=h.ints i n u hn Y;have E:∀j x,j<7->(aP n u)[j]?=some x->w.cell? ⟨g,0+i*7+j,none⟩=some x:=λj x hj hx=>by
    have:=K.cells (g:=g) rfl (i*7+j) x (by rw[jD l vs i j n u h.len hn Y hj];exact hx);have e:(⟨g,0,none⟩:Addr).add (i*7+j)=⟨g,i*7+j,none⟩:=by unfold Addr.add;split<;>simp_all
    rw[e] at this;rw[Nat.zero_add];exact this
   obtain⟨A6,c6,rfl,f8,h6,d8⟩:=xG I;have d6:=hr n (du hn);refine⟨E 0 _ ai Z,E 1 _ ai Z,E 2 _ ai Z,E 3 _ ai Z,E 4 _ ai Z,E 5 _ ai Z,⟨A6,c6,E 6 _ ai Z,d6.2,h6,by unfold maxLen at d8;omega,λhl=>?_⟩,d6.1⟩;rcases I.2 with⟨O,h0⟩|⟨g6,d9,f7,O,_⟩
   · omega
   · injection O with hA _ _
     subst hA;refine⟨g6,0,rfl,T i _ Y _ Z,λj x hx=>?_⟩;have:=I.cells (g:=g6) rfl j (.int .i64 x) (by simp[bx,hx]);have e:(⟨g6,0,none⟩:Addr).add j=⟨g6,j,none⟩:=by unfold Addr.add;split<;>simp_all
     rw[e] at this;rw[Nat.zero_add];exact this
theorem uP (nd:FK.Node) (A:Option Addr) (n c:Nat) (k:Int) (seed:Nat) (E:1<=nd.base) (I:nd.base<=nd.cap) (h3:nd.cap<=1048576) (K:0<=nd.LA) (O:nd.LA<=1048576) (T:seed<18446744073709551616):dZ G 75 [.agg (aP nd (.slice A n c)).toArray,.int .i64 k,.int .u64 seed] [] λv m=>v=.int .i64 (iB nd.base nd.cap nd.LA k seed)/\m=[]:=
 (ge (φ:=λ_=>True) λ_ w _ _ _=>qR nd.Lz nd.close nd.beat nd.base nd.cap nd.LA A n c k seed w E I h3 K O ai ai).does
theorem vw {e:Nat} {p:EA} {S:FK.En} {id n:Nat} {R:FK.Rn} {w:World} {F:Nat->Prop} (hR:S.getR id=some R) (h:(aG e p S).sat w F) (hF:∀k,F k->k<n) (hr:∀n∈R.fl.Lw,(i64 n.Lz/\i64 n.close/\i64 n.beat/\i64 n.base/\i64 n.cap/\i64 n.LA)/\∀x∈n.after,i64 x):NodesAt w n (some ⟨(p.ra id).gn,0,none⟩) (p.ra id).cn R.fl.Lw:=by
 have h0:Star w (j0 e p S) F:=h;have h1:Star w (iw p S.runs) F:=Star.mem (p:=fw p S.runs) h0 cP;have h2:(kV (p.fb id) (p.ra id) R).sat w F:=Star.mem h1 (List.mem_map.2 ⟨(id,R),oZ hR,rfl⟩);have h3:Star w (oz (p.fb id) (p.ra id) R) F:=h2;have E:(p.ra id).vs.length=R.fl.Lw.length:=Star.mem (p:=HP.pure ((p.ra id).vs.length=R.fl.Lw.length)) h3 cP;have I:=Star.mem (p:=row 58 7 ((p.ra id).nv R) R.fl.Lw.length (bU R.fl.Lw (p.ra id).vs)) h3 cP;have O:Star w (ck (p.ra id).vs R.fl.Lw) F:=Star.mem (p:=ey (p.ra id).vs R.fl.Lw) h3 cP;have K:∀(i:Nat) (nd:FK.Node) (u:Value),R.fl.Lw[i]?=some nd->(p.ra id).vs[i]?=some u->(aU u nd.after).sat w F:=λi nd u hi T=>by
  have hz:((p.ra id).vs.zip R.fl.Lw)[i]?=some (u,nd):=by simp[List.getElem?_zip_eq_some,hi,T]
  exact Star.mem O<|List.mem_map.2 ⟨(u,nd),du hz,rfl⟩
 have Y:OwnNodes w 0 ((p.ra id).nv R) R.fl.Lw (p.ra id).vs:=⟨E,I.1,λi nd u hi T=>(K i nd u hi T).1⟩;refine Y.nodesAtB (λg hg=>hF g (I.2 g hg)) (λi u T g hg=>?_) hr;have d6:i<R.fl.Lw.length:=by rw[<-E];exact(gfGet.1 T).1
 exact hF g ((K i R.fl.Lw[i] u (List.getElem?_eq_getElem d6) T).2 g hg)
end Go.Y

namespace Go.Y
open Go.Proofs Go.RowKit Go.SL
variable {G:Env->Prop}
theorem aft_lt {fl:FK.Flow} (h:zS fl):∀i,∀k∈FK.fP fl.Lw i,k<fl.Lw.length:=λi k E=>by
 unfold FK.fP at E
 split at E
 · rename_i n K
   obtain⟨x,I,rfl⟩:=List.mem_map.1 E;obtain⟨O,T⟩:=h n (du K) x I;omega
 · cases E
theorem td {R:FK.Rn} {k:Nat} {s:FK.Sp} {st:Int} {T:List Nat}:((R.turned k s st).skips T).Lv.length=R.Lv.length:=by
 unfold FK.Rn.skips;rw[show({R.turned k s st with Lv:=T.foldl (FK.dt (R.turned k s st).fl.Lw) (R.turned k s st).Lv}:FK.Rn).Lv=T.foldl (FK.dt (R.turned k s st).fl.Lw) (R.turned k s st).Lv from rfl,FK.nD];unfold FK.Rn.turned FK.Rn.setS;simp
theorem BB {e:Nat} {p:EA} {S:FK.En} {id k:Nat} {wh:Int} {R:FK.Rn} {s:FK.Sp} {nd:FK.Node} (hG:∀E w,G E->E.is w->Tab w) (K:S.getR id=some R) (hs:R.Lv[k]?=some s) (hnd:R.fl.Lw[k]?=some nd) (f9:R.Lv.length=R.fl.Lw.length) (hn:R.fl.Lw.length<=12) (d6:zS R.fl) (t8:∀n∈R.fl.Lw,(i64 n.Lz/\i64 n.close/\i64 n.beat/\i64 n.base/\i64 n.cap/\i64 n.LA)/\∀x∈n.after,i64 x)
 (hq:S.Lx.length<=300) (hl:S.tms.length<=99997) (f7:S.ends<9223372036854775807) (LC:S.now<=4611686018427387904) (wf:S.sets+1<9223372036854775807) (d7:S.seed<18446744073709551616) (h1:1<=nd.base) (h2:nd.base<=nd.cap) (h3:nd.cap<=1048576) (h4:0<=nd.LA) (h5:nd.LA<=1048576) (O:0<=iB nd.base nd.cap nd.LA s.Lu S.seed/\iB nd.base nd.cap nd.LA s.Lu S.seed<=4611686018427387904) :
 dZ G 177 [aX e,iW ⟨id,(k:Int),wh⟩] [aG e p S] λv m=>v=.tuple #[]/\((s.Lu<nd.Lz/\m=[aG e p (S.rests id k R s (iB nd.base nd.cap nd.LA s.Lu S.seed).toNat)])\/(nd.Lz<=s.Lu/\∃left T,FK.Ordering R.fl.Lw left T/\(∀i,left.testBit i=true->∃j∈FK.fP R.fl.Lw i,left.testBit j=true)/\m=[aG e p (S.dies id k R s T)])):=by
 have In:=(gfGet.1 hnd).1;have I:=FK.je K hs;have d9:=FK.dM (R:=R) (s':={s with token:=0}) hs;refine bz Tryz.func177 Z λE fr hE=>ae ?_;refine eK (λw hw=>m7 K hnd hw) λhA=>?_;obtain⟨A,c,hu,-⟩:=hA;refine sS<|sO (cL Z Z λb3=>(sN (sQ (sZ Z (eI Z Z (bF Z (cv Z) (bF Z (bL 1 Z) ?_)))))))
 refine iJ 3 Z (aF Z) (bc λ_ _ _=>rfl) ?_;refine dr 4 Z (bL 0 Z)<|bZ Z (aF Z) (ag Z)<|bZ Z (gO (a:=id) (v:=aX (p.fb id)) Z fy Z Z (gV K)) eH<|tV Z (cX (z:=.pointer none) Z λb4=>?_)
 refine dK [true,true,true] (aa eH (aa (ag Z) (aa (bc λ_ _ _=>rfl) ab))) ?_;refine cK 8 Z<|cp Z Z Z Z Z (by show 0<1;omega) ?_
 refine dK [false,false,false] ab<|dE<|sT ?_
 refine sQ<|cT (X:=Nat) (λb=>[(0,aX e),(3,aX b3),(4,aX b4),(5,.pointer (some ⟨(p.ra id).gs,0+k*3,none⟩)),(6,aX b)]) (λb=>aG e p (S.leave id k)::blk b3 157 (iq ⟨id,(k:Int),wh⟩).toArray::iA b4 (aX (p.fb id))::blk b 58 (aP nd (.slice A nd.after.length c)).toArray::fr) (λ_=>True) ?_ ?_
 ·
  refine aD b4 #[aX (p.fb id)] rfl<|sZ Z<|eI Z Z<|bZ Z (bR (vs:=iq ⟨id,(k:Int),wh⟩) Z) (aR Z)<|iJ 3 Z (aF Z) (ag Z)<|dv 0 Z Z Z<|bF Z (bL 1 Z)<|bZ Z (aF (v:=(p.ra id).nv R) Z) (cz K Z)<|bF Z (bL 1 Z)<|bZ Z (aF Z) (ag Z)<|bF Z (bp (z:=7) Z Z Z Z In)<|bZ Z (bR (vs:=aP nd (.slice A nd.after.length c)) Z) (fG K hnd hu) ?_
  refine fo 2 12 Z Z Z Z eP (cF Z (mj (wh:=wh) K hs ai) (Ent.trans (Ent.sel HasEng.sel) aN) ?_) (cX (z:=.agg #[.int .i64 0,.int .i64 0,.int .i64 0,.int .i64 0,.int .i64 0,.int .i64 0,.slice none 0 0]) Z λb6=>?_)
  ·
   rintro v m ⟨rfl,rfl⟩;refine ae ?_;refine dK [true,true,true,true,false] (aa (by first|exact fG I hnd hu|exact fG K hnd hu) (aa (ag Z) (aa (by first|exact cz I Z|exact cz K Z) (aa (ag Z) ab)))) ?_;refine cK 12 Z (cX (z:=.agg #[.int .i64 0,.int .i64 0,.int .i64 0,.int .i64 0,.int .i64 0,.int .i64 0,.slice none 0 0]) Z λb6=>?_);refine dK [true,true,true,true] (aa (by first|exact fG I hnd hu|exact fG K hnd hu) (aa (ag Z) (aa (by first|exact cz I Z|exact cz K Z) (aa (ag Z) ab)))) ?_;refine dr 13 Z (aQ Z) ?_;refine cK 14 Z<|aZ (vs:=aP nd (.slice A nd.after.length c)) Z (m:=7) Z Z Z Z (by simp[aP,Value.oneCell']) (by show 0+7<=7;omega) ?_
   exact dK [false,false,false,false] ab<|dE<|aD b6 (aP nd (.slice A nd.after.length c)).toArray Z<|aD b3 (iq ⟨id,(k:Int),wh⟩).toArray Z<|bd b6 trivial cf ap
  ·
   refine dK [true,true,true,true,true] (aa (by first|exact fG I hnd hu|exact fG K hnd hu) (aa (ag Z) (aa (by first|exact cz I Z|exact cz K Z) (aa (ag Z) (aa (aR Z) ab))))) ?_;refine cK 2 Z<|cF Z (mj (wh:=wh) K hs ai) (Ent.trans (Ent.sel HasEng.sel) aN) ?_
   rintro v m ⟨rfl,rfl⟩;refine ae ?_;refine dK [true,true,true,true,false] (aa (by first|exact fG I hnd hu|exact fG K hnd hu) (aa (ag Z) (aa (by first|exact cz I Z|exact cz K Z) (aa (ag Z) ab)))) ?_;refine dr 13 Z (aQ Z) ?_;refine cK 14 Z<|aZ (vs:=aP nd (.slice A nd.after.length c)) Z (m:=7) Z Z Z Z (by simp[aP,Value.oneCell']) (by show 0+7<=7;omega) ?_
   exact dK [false,false,false,false] ab<|dE<|aD b6 (aP nd (.slice A nd.after.length c)).toArray Z<|aD b3 (iq ⟨id,(k:Int),wh⟩).toArray Z<|bd b6 trivial cf ap
 rintro b6 -
 refine al (l':=aG e p (S.leave id k)::blk b3 157 (iq ⟨id,(k:Int),wh⟩).toArray::iA b4 (aX (p.fb id))::blk b6 58 (aP nd (.slice A nd.after.length c)).toArray::fr) aN ?_;refine sQ<|sQ<|sZ Z<|eI Z Z<|dv 1 Z Z Z<|bZ Z (aF (v:=.int .i64 s.Lu) Z) (gI I d9 Z)<|bF Z (bL 0 Z)<|bZ Z (aF Z) (ag Z)<|bF Z (bB Z Z Z)<|dE<|sT ?_
 refine aA Z (λBT=>?_) λBT=>?_
 ·
  refine sS<|dS 0 Z Z ?_
  refine sO<|lE (S:=S.leave id k) (R:=R.setS k {s with token:=0}) (s:={s with token:=0}) (j:=0) (s':={s with token:=0,state:=4}) I d9 Z Z Z Z ai Z Z ?_
  refine sN<|sQ ?_
  obtain⟨T,hT⟩:∃T,T=(S.leave id k).setR id (R.turned k s 4):=⟨_,rfl⟩;have Y:T.getR id=some (R.turned k s 4):=by rw[hT];exact FK.dG I
  have LB:(R.turned k s 4).Lv[k]?=some {s with token:=0,state:=4}:=FK.dM d9;have LD:T.now=S.now:=by rw[hT,FK.fY K hs];rfl
  have LE:T.sets=S.sets:=by rw[hT,FK.fY K hs];rfl
  have t6:T.seed=S.seed:=by rw[hT,FK.fY K hs];rfl
  have LF:T.tms.length<=S.tms.length:=by rw[hT];exact FK.nG
  refine al (l':=aG e p T::blk b3 157 (iq ⟨id,(k:Int),wh⟩).toArray::iA b4 (aX (p.fb id))::blk b6 58 (aP nd (.slice A nd.after.length c)).toArray::fr) (by rw[hT];exact aN) ?_;rw[<-t6] at O d7;refine sZ Z<|eI Z Z<|dv 6 Z Z Z ?_
  refine iJ 3 Z (aF Z) (bc λ_ _ _=>rfl) ?_;refine dr 4 Z (bL 0 Z)<|bZ Z (aF Z) (ag Z)<|bF Z (bL 1 Z)<|bZ Z (aF Z) (ag Z)<|bF Z (bT (cs:=#[.int .u64 id,.int .i64 (k:Int),.int .i64 1]) Z Z Z Z Z)<|cJ Z Z<|bZ Z (bR (vs:=aP nd (.slice A nd.after.length c)) Z) (aR Z)<|cJ Z Z<|dv 1 Z Z Z<|bZ Z (aF (v:=.int .i64 s.Lu) Z) (gI Y LB Z)<|cJ Z Z<|dv 0 Z Z Z ?_
  refine iJ 18 Z (aF (v:=.int .u64 T.seed) Z) (bc λ_ _ _=>rfl) ?_;refine cK 19 Z<|cF Z (uP nd A nd.after.length c s.Lu T.seed h1 h2 h3 h4 h5 d7) aN ?_
  rintro v m ⟨rfl,rfl⟩;rw[List.nil_append];refine dK [false,false,false,true,true,true] (aa (ag Z) (aa (ag Z) (aa (bc λ_ _ _=>rfl) ab))) ?_;refine cK 20 Z<|cF Z (mu (S:=T) (iB nd.base nd.cap nd.LA s.Lu T.seed) ai O.1 O.2) aN ?_
  rintro v m ⟨rfl,rfl⟩;refine ae ?_;refine dK [true,true,true] (aa (ag Z) (aa (ag Z) (aa (bc λ_ _ _=>rfl) ab))) ?_;refine cK 21 Z<|cF Z (oH (S:=T) ⟨id,(k:Int),1⟩ (T.later (iB nd.base nd.cap nd.LA s.Lu T.seed).toNat) (by unfold FK.En.later;omega) (by unfold FK.En.later;omega) ai ai) aN ?_
  rintro v m ⟨rfl,rfl⟩;refine ae<|dK [true,true,false] (aa (ag Z) (aa (ag Z) ab))<|dE<|sT<|an<|aH<|bm [_] rfl ⟨rfl,.inl ⟨ai,rfl⟩⟩ ?_
  have t7:T.setT ⟨id,(k:Int),1⟩ (T.later (iB nd.base nd.cap nd.LA s.Lu T.seed).toNat)=S.rests id k R s (iB nd.base nd.cap nd.LA s.Lu S.seed).toNat:=by rw[t6,hT];rfl
  rw[<-t7];exact Ent.cons<|Ent.drop.trans<|Ent.drop.trans Ent.drop
 ·
  refine ah<|sT<|sS<|dS 0 Z Z ?_
  refine sO<|lE (S:=S.leave id k) (R:=R.setS k {s with token:=0}) (s:={s with token:=0}) (j:=0) (s':={s with token:=0,state:=6}) I d9 Z Z Z Z ai Z Z ?_
  refine sN<|sQ ?_
  have Y:∀T,((S.leave id k).setR id ((R.turned k s 6).skips T)).getR id=some ((R.turned k s 6).skips T):=λT=>FK.dG I;refine al (l':=aG e p ((S.leave id k).setR id ((R.turned k s 6).skips []))::iA b4 (aX (p.fb id))::blk b3 157 (iq ⟨id,(k:Int),wh⟩).toArray::blk b6 58 (aP nd (.slice A nd.after.length c)).toArray::fr) (Ent.cons gfE1) ?_;refine sG<|aE Z Z Z Z<|dA Z<|bX 0 Z<|bX 1 Z<|cE (aF (v:=(p.ra id).nv R) Z) (cz (Y []) Z) ?_
  refine sP (ew Z Z) ?_;refine sO (rI Z Z Z hE (AQ (l:=R.fl.Lw) (F:=200) (cap:=#[aX b4]) (L:=λT=>[aG e p ((S.leave id k).setR id ((R.turned k s 6).skips T)),iA b4 (aX (p.fb id))]) hn (aft_lt d6) (λn hn x hx=>(d6 n hn x hx).1) (λ_ _=>rfl) hG (λn T w F Fd hF=>(by
 obtain⟨F1,F2,f1,_,_,hp,_⟩:=Fd;exact vw (R:=(R.turned k s 6).skips T) (Y T) hp (λq hq=>hF q (f1 q hq)) t8)) (λn T j hj _ _=>(by
 refine(zv (h:=n) (c:=b4) (Y T) (by rw[td];exact f9) d6 (by show R.fl.Lw.length<=100;omega) hj).mono ?_;rintro v m ⟨rfl,rfl⟩;refine⟨_,⟨rfl,rfl⟩,?_⟩;rw[FK.gJ];have f8:({(R.turned k s 6).skips T with Lv:=FK.dt ((R.turned k s 6).skips T).fl.Lw ((R.turned k s 6).skips T).Lv j}:FK.Rn)=(R.turned k s 6).skips (T++[j]):=by
  unfold FK.Rn.skips;rw[List.foldl_append]
  rfl
 rw[f8];exact aN))) aN ?_)
  rintro v m ⟨left,T,rfl,mt,d8,rfl⟩;refine az<|sN<|sG<|sM Z<|bX 0 Z<|aE Z Z Z Z ?_
  refine bV Z (qp (Y T) (by rw[td];omega) (by show(S.leave id k).Lx.length<=400;rw[FK.ng];omega) (by show(S.leave id k).tms.length<=99999;have:=FK.nG (S:=S) (id:=id) (k:=k);omega) (by show(S.leave id k).ends<_;rw[FK.fY K hs];exact f7)) aN ?_;refine ae<|aq ?_
  exact bm [aG e p (S.dies id k R s T)] rfl ⟨rfl,.inr ⟨ai,left,T,mt,d8,rfl⟩⟩<|Ent.cons<|Ent.drop.trans<|Ent.drop.trans Ent.drop
end Go.Y

namespace Go.Y
open Go.Proofs Go.RowKit Go.SL
variable {G:Env->Prop}
theorem Cn {e:Nat} {p:EA} {S:FK.En} (up:Nat) (T:S.now<=up) (I:up<=4611686018427387904) (Y:S.sets<9223372036854775808) (d6:S.tms.length<=99999) :
 eh 179 [aX p.w,.int .u64 up] [aG e p S] λv m=>(∃(x:FK.KD) (tms':List FK.KD),FK.IsMin S.tms x tms'/\x.2<=up/\v=.tuple #[iW x.1,.int .u64 x.2,.bool true]/\m=[aG e p {S with now:=x.2,tms:=tms'}])\/
  ((∀y∈S.tms,up<y.2)/\v=.tuple #[iW ⟨0,0,0⟩,.int .u64 0,.bool false]/\m=[aG e p {S with now:=up}]):=by
 refine kS λW E=>(GH p.w up E.inv (by rw[E.now];exact T) I (Nat.lt_of_le_of_lt E.seq Y) (by have:=congrArg List.length E.tms;rw[List.length_map] at this;omega)).mono ?_;rintro v m (⟨S',x,K,O,h3,h4,h5,rfl,rfl⟩|⟨S',K,O,h3,h4,h5,rfl,rfl⟩)
 · rw[E.tms] at K
   exact⟨_,⟨S',x.2,S.sets,S'.tms.map FK.kd,rfl,⟨h4,h5▸E.seq,h3,rfl⟩,.inl ⟨x,_,K,O,rfl,rfl⟩⟩,aN⟩
 · rw[E.tms] at K O
   exact⟨_,⟨S',up,S.sets,S.tms,rfl,⟨h4,h5▸E.seq,h3,O⟩,.inr ⟨K,rfl,rfl⟩⟩,aN⟩
theorem zE {e:Nat} {p:EA} {S:FK.En} {id:Nat} {R:FK.Rn} (K:S.getR id=some R) (O:R.Lv.length<=100) (T:S.Lx.length<=400) (Y:S.tms.length<=99999) (I:S.ends<9223372036854775807):dZ G 145 [aX e,aV id] [aG e p S] λv m=>v=.tuple #[]/\m=[aG e p (S.finish id 4)]:=by
 refine bz Tryz.func145 Z λE fr hE=>ae<|sG<|sM Z<|sM Z ?_
 refine bV Z (nh K O T Y I) aN ?_;exact ae<|aq<|bm [_] rfl ⟨rfl,rfl⟩ aN
end Go.Y

namespace FK
def vW (p:Nat×Nat) (c:UInt8):Nat×Nat:=((p.1+c.toNat)%65521,(p.2+(p.1+c.toNat)%65521)%65521)
def gw (bs:List UInt8):Nat×Nat:=bs.foldl vW (1,0)
def jr (bs:List UInt8):Nat:=(gw bs).2*65536+(gw bs).1
theorem vC (bs:List UInt8):(gw bs).1<65521/\(gw bs).2<65521:=by
 have h:∀(l:List UInt8) (p:Nat×Nat),p.1<65521/\p.2<65521->(l.foldl vW p).1<65521/\(l.foldl vW p).2<65521:=by
  intro l
  induction l with
  | nil=>exact λp h=>h
  | cons c l E=>exact λp _=>E _ ⟨Nat.mod_lt _ ai,Nat.mod_lt _ ai⟩
 exact h bs (1,0) ⟨by decide,by decide⟩
end FK
namespace Go.Y
open Go.Proofs
open Go Go.RowKit Go.SL
variable {G:Env->Prop}
theorem wu32 {a:Nat} (h:a<4294967296):IntKind.u32.wrap (a:Int)=(a:Int):=by
 simp only[IntKind.wrap,IntKind.bits,IntKind.signed];simp;omega
theorem xA {p:HP} {A:Option Addr} {bs:List UInt8} (c:Nat) (Y:Reads p A bs) (hl:bs.length<=9223372036854775807):dZ G 134 [.slice A bs.length c] [p] λv m=>v=.int .u32 (FK.jr bs)/\m=[p]:=by
 refine bz Tryz.func134 Z λE fr hE=>ae<|sS<|sB Z<|sS<|sA Z<|sB Z<|sQ<|bg Z<|sP (bh Z Z)<|sM Z<|sN ?_
 refine aj ?_;refine aL (X:=Nat) (λk=>[(9,.int .i64 k),(8,.int .i64 bs.length),(7,.slice A bs.length c),(3,.int .u32 (FK.gw (bs.take k)).1),(4,.int .u32 (FK.gw (bs.take k)).2)]) (λ_=>p::fr) (λk=>k<=bs.length) (λk=>bs.length-k) 0 (Nat.zero_le _) cf aN ?_;intro k hk;refine sS<|sP (bB Z Z Z)<|sN<|sQ ?_
 refine aA Z (λO=>?_) λO=>?_
 ·
  have I:k<bs.length:=ai;obtain⟨x,hx⟩:∃x,bs[k]?=some x:=⟨bs[k],by simp[I]⟩;obtain⟨g,o,hA⟩:=Y.form (by intro h;rw[h] at I;simp at I);subst hA;have K:FK.gw (bs.take (k+1))=FK.vW (FK.gw (bs.take k)) x:=by rw[List.take_add_one,hx];unfold FK.gw;rw[List.foldl_append];rfl
  obtain⟨h1,h2⟩:=FK.vC (bs.take k);have d6:x.toNat<256:=x.toNat_lt;refine ah<|sT<|sQ<|aj<|sS<|sP (bp (z:=1) Z Z Z Z I) ?_
  refine cE (aF (v:=.int .u8 x.toNat) Z) (λw hw=>by have:=Y.at .head Z hx w hw;simpa using this) ?_;refine sB Z<|bg Z<|cG Z (bJ (r:=(x.toNat:Int)) Z Z Z (wu32 ai))<|sP (aT (r:=(((FK.gw (bs.take k)).1+x.toNat:Nat):Int)) Z Z (wu32 ai))<|sP (lZ (r:=((((FK.gw (bs.take k)).1+x.toNat)%65521:Nat):Int)) Z Z ai (np (b:=65521) ai ai))<|sB Z<|sG<|sM Z<|cG Z (aT (r:=(((FK.gw (bs.take k)).2+((FK.gw (bs.take k)).1+x.toNat)%65521:Nat):Int)) Z Z (wu32 ai))<|sP (lZ (r:=((((FK.gw (bs.take k)).2+((FK.gw (bs.take k)).1+x.toNat)%65521)%65521:Nat):Int)) Z Z ai (np (b:=65521) ai ai))<|sA Z<|aq ?_
  refine am<|sT<|sG<|sP (aT (r:=((k+1:Nat):Int)) Z Z eg)<|sM Z<|aq ?_
  exact aC (k+1) I ai ⟨rfl,rfl,rfl,by rw[K];rfl,by rw[K];rfl,trivial⟩ aN
 ·
  have T:k=bs.length:=ai;rw[T,List.take_length];obtain⟨h1,h2⟩:=FK.vC bs;refine aK<|av<|au<|ao<|sT<|bg Z<|sP (mV (r:=(((FK.gw bs).2*65536:Nat):Int)) Z Z ai (by rw[<-wu32 (a:=(FK.gw bs).2*65536) ai];congr 1))<|sM Z ?_
  refine sP (xp (r:=((FK.jr bs:Nat):Int)) Z Z (by
 rw[u32_or_nat _ _ ai ai];unfold FK.jr
 congr 1
 have:=Nat.two_pow_add_eq_or_of_lt (i:=16) (b:=(FK.gw bs).1) ai (FK.gw bs).2;rw[Nat.mul_comm,<-this])) ?_
  exact sB Z<|an<|aw [_] rfl Z ⟨rfl,rfl⟩ aN
end Go.Y

namespace FK
def jp (s:Nat):List UInt8:=[UInt8.ofNat (s/16777216),UInt8.ofNat (s/65536),UInt8.ofNat (s/256),UInt8.ofNat s]
def frame (bs:List UInt8):List UInt8:=(co bs.length++bs)++jp (jr (co bs.length++bs))
end FK
namespace Go.Y
open Go.Proofs
open Go Go.RowKit Go.SL
variable {G:Env->Prop}
section
variable {A:Option Addr} {bs:List UInt8}
theorem Reads.row {c:Nat} (h:bs≠[]->∃g,A=some ⟨g,0,none⟩):Reads (bP (.slice A bs.length c) bs) A bs where
 form hb:=let⟨g,h⟩:=h hb;⟨g,0,h⟩
 cell w F hp b o hA j x hx:=by
  obtain⟨E,_⟩:=hp;obtain⟨g,I⟩:=h (by intro h;simp[h] at hx);rw[hA] at I;injection I with I;injection I with K O;subst K;subst O;subst hA;have:=E.cells (g:=b) rfl j (.int .u8 x.toNat) (by simp[cw,hx])
  rwa [add_plain] at this
theorem Reads.src {E:Env} {p:HP} {l r:List HP} (h:Reads p A bs) (s:Sel p l r):∀w,Holds E w l->B8 A (cw bs) w:=λw hw Y K j u O=>by
 simp only[cw,List.getElem?_map,Option.map_eq_some_iff] at O;obtain⟨x,T,rfl⟩:=O;obtain⟨b,o,I⟩:=h.form (by intro h;simp[h] at T);have:=h.at s I T w hw;rw[K] at I;injection I with I;subst I;rw[add_plain];exact this
theorem vF (s k:Nat):(s:Int).fdiv ((2:Int) ^ k)=((s/2 ^ k:Nat):Int):=by
 rw[Int.fdiv_eq_ediv_of_nonneg _ (Int.pow_nonneg ai)];rw[show((2:Int) ^ k)=((2 ^ k:Nat):Int) from(Int.natCast_pow 2 k).symm]
 rfl
theorem fill4 (a b c d:UInt8):Instr.fill (λi=>some (i*1,1)) (Array.map (λx=>(Value.int .u8 0).cells[x%(Value.int .u8 0).cells.size]!) (Array.range (4*1))) ((List.map (λx=>x.fst) [((0:Nat),Operand.tmp 16),(1,.tmp 19),(2,.tmp 22),(3,.tmp 24)]).zip (cw [a,b,c,d]))=some (cw [a,b,c,d]).toArray:=by
 have e1:Array.range (4*1)=#[0,1,2,3]:=rfl;rw[e1];simp[Instr.fill,Value.cells,cw]
theorem jw (m:Nat):IntKind.u8.wrap (m:Int)=((UInt8.ofNat m).toNat:Int):=by
 rw[<-xO];simp[IntKind.wrap,IntKind.bits,IntKind.signed]
theorem qB {p:HP} (c:Nat) (hp:Reads p A bs) (hA:A=none->bs=[]) (hl:bs.length<=1099511627776):dZ G 83 [.slice A bs.length c] [p] λv m=>m=[bP v (FK.frame bs),p]:=by
 refine bz Tryz.func83 Z λE fr hE=>ae<|sS<|sB Z<|bg Z<|sP (bh Z Z)<|sP (bJ (r:=((bs.length:Nat):Int)) Z Z Z (by rw[mM];omega)) ?_
 refine ch Z (gk (.slice none 0 0) [] bs.length ai cP) Ent.row0 ?_;rintro v m rfl;refine ae ?_;rw[List.nil_append];have hN:(FK.co bs.length).length<=10:=gq ai;refine sM Z ?_;refine eu rfl (cU rfl rfl jh rfl ai rfl rfl (HasVal.sel (v:=v)) (news:=cw bs) (by rw[iG];omega) (λh=>by rw[hA h];rfl) (Reads.src hp bM) (by intro u hu;obtain⟨x,_,rfl⟩:=List.mem_map.1 hu;rfl) (by unfold maxLen;omega) ai λd7 d9=>?_);refine aI (HasVal.sel (v:=d7)) ?_;rintro K O rfl f1 f2 f3 f4 -
 refine al (l':=bP (.slice K ((FK.co bs.length).length+bs.length) O) (FK.co bs.length++bs)::p::fr) ?_ ?_
 · show Ent _ (row 5 1 _ (FK.co bs.length++bs).length (cw (FK.co bs.length++bs))::p::fr)
   rw[List.length_append,iH];exact aN
 have T:(FK.co bs.length++bs).length=(FK.co bs.length).length+bs.length:=List.length_append;have I:FK.co bs.length++bs≠[]->∃g,K=some ⟨g,0,none⟩:=λd8=>by
  have hp:=List.length_pos_iff.2 d8;cases K with
  | none=>have:=(f1 rfl).1;omega
  | some ad=>obtain⟨g,rfl⟩:=f2 ad rfl;exact⟨g,rfl⟩
 rw[<-T];refine sB Z<|bg Z ?_
 refine bV Z (xA O (Reads.row (c:=O) I) ai) aN ?_;refine ae<|sB Z<|sQ ?_
 obtain⟨X,hX⟩:∃X,X=FK.co bs.length++bs:=⟨_,rfl⟩;have d6:FK.frame bs=X++FK.jp (FK.jr X):=by rw[hX];rfl
 rw[<-hX] at T I ⊢;obtain⟨s,hs⟩:∃s,s=FK.jr X:=⟨_,rfl⟩;rw[<-hs] at d6 ⊢;refine sG<|sM Z<|sM Z ?_
 refine sP (fU (r:=((s/16777216:Nat):Int)) Z Z ai (by exact vF s 24)) ?_;refine sP (bJ (r:=((UInt8.ofNat (s/16777216)).toNat:Int)) Z Z Z (jw _))<|sM Z ?_
 refine sP (fU (r:=((s/65536:Nat):Int)) Z Z ai (by exact vF s 16)) ?_;refine sP (bJ (r:=((UInt8.ofNat (s/65536)).toNat:Int)) Z Z Z (jw _))<|sM Z ?_
 refine sP (fU (r:=((s/256:Nat):Int)) Z Z ai (by exact vF s 8)) ?_;refine sP (bJ (r:=((UInt8.ofNat (s/256)).toNat:Int)) Z Z Z (jw _))<|cG Z (bJ (r:=((UInt8.ofNat s).toNat:Int)) Z Z Z (jw _)) ?_
 refine sO (dB (m:=4) (z:=.int .u8 0) (size:=1) (ps:=[(0,.tmp 16),(1,.tmp 19),(2,.tmp 22),(3,.tmp 24)]) (vs:=cw (FK.jp s)) (cs:=(cw (FK.jp s)).toArray) Z Z Z Z ai ai Z (fill4 _ _ _ _) λf8=>?_);refine eu rfl (cU rfl rfl jh rfl ai rfl rfl (HasVal.sel (v:=.slice K X.length O)) (news:=cw (FK.jp s)) rfl (λh=>by cases h) (iu (λj u h=>by rw[Nat.zero_add];simpa using h)) (by intro u hu;obtain⟨x,_,rfl⟩:=List.mem_map.1 hu;rfl) (by unfold maxLen;omega) ai λY f7=>?_);refine sB Z<|an<|aw [bP Y (FK.frame bs),p] rfl Z Z ?_
 rw[d6];show Ent _ (row 5 1 Y (X++FK.jp s).length (cw (X++FK.jp s))::p::fr);rw[List.length_append,iH];exact Ent.cons Ent.drop
end
end Go.Y

namespace FK
def fS {K V:Type} [BEq K] (m:List (K×V)) (a:K) (v:V):List (K×V):=match m.findIdx? (·.1==a) with
 | some j=>m.set j (a,v)
 | none=>m++[(a,v)]
def dw {K V:Type} [BEq K] (m:List (K×V)) (a:K):Option V:=(m.find? (·.1==a)).map (·.2)
theorem wX {K V W:Type} [BEq K] (m:List (K×V)) (f:V->W) (a:K):(m.map λp=>(p.1,f p.2)).findIdx? (·.1==a)=m.findIdx? (·.1==a):=by
 induction m with
 | nil=>rfl
 | cons p m E=>simp only[List.map_cons,List.findIdx?_cons,E]
theorem Ec {K V W:Type} [BEq K] (m:List (K×V)) (f:V->W) (a:K) (v:V):fS (m.map λp=>(p.1,f p.2)) a (f v)=(fS m a v).map λp=>(p.1,f p.2):=by
 unfold fS;rw[wX];cases m.findIdx? (·.1==a) with
 | none=>simp
 | some j=>simp[List.map_set]
structure DOp where
 kind:Int
 name:ByteArray
 data:ByteArray
abbrev jZ:=List (ByteArray×ByteArray)
structure Dsk where
 dur:jZ
 now:jZ
 pend:List DOp
 left:Int
 full:Int
 down:Bool
def ea (fs:jZ) (o:DOp):jZ:=if o.kind=2 then fS fs o.name (match dw fs o.name with|some w=>w++o.data|none=>o.data) else if o.kind=1 then fS fs o.name o.data else if o.kind=3 then fs.eraseP (·.1==o.name) else fs
def Dsk.writes (d:Dsk):Dsk×Int:=if d.down=true\/d.left=0 then({d with down:=true},11) else if d.full=0 then({d with left:=Go.IntKind.i64.wrap (d.left-1),full:=-1},10) else({d with left:=Go.IntKind.i64.wrap (d.left-1),full:=Go.IntKind.i64.wrap (d.full-1)},0)
def Dsk.tell (d:Dsk) (o:DOp):Dsk×Int:=
 if d.writes.2=11 then({d.writes.1 with pend:=d.writes.1.pend++[o]},11) else if d.writes.2≠0 then d.writes else if o.kind=3/\dw d.writes.1.now o.name=none then(d.writes.1,9) else({d.writes.1 with now:=ea d.writes.1.now o,pend:=d.writes.1.pend++[o]},0)
def Dsk.sync (d:Dsk):Dsk×Int:=if d.writes.2≠0 then d.writes else({d.writes.1 with dur:=d.writes.1.pend.foldl ea d.writes.1.dur,pend:=[]},0)
def vol (fs:jZ):Nat:=(fs.map λx=>x.2.size).sum
def fR (l:List DOp):Nat:=(l.map λo=>o.data.size).sum
theorem oD {fs:jZ} {n w:ByteArray} (h:dw fs n=some w):w.size<=vol fs:=by
 unfold dw at h
 induction fs with
 | nil=>cases h
 | cons x fs E=>
  rw[List.find?_cons] at h;unfold vol at E ⊢;rw[List.map_cons,List.sum_cons];cases hx:x.1==n with
  | true=>rw[hx] at h;simp at h;subst h;omega
  | false=>rw[hx] at h;have:=E h;omega
theorem ve {K V:Type} [BEq K] {m:List (K×V)} {a:K} (h:dw m a=none) (v:V):fS m a v=m++[(a,v)]:=by
 unfold fS;have:m.findIdx? (·.1==a)=none:=by
  rw[List.findIdx?_eq_none_iff];intro x E;unfold dw at h;cases hf:m.find? (·.1==a) with
  | none=>
   have:=List.find?_eq_none.1 hf x E;simpa using this
  | some y=>rw[hf] at h;cases h
 rw[this]
theorem Ge {l:List Nat}:∀{j x y:Nat},l[j]?=some x->(l.set j y).sum+x=l.sum+y:=by
 induction l with
 | nil=>intro j x y h;simp at h
 | cons a l E=>
  intro j x y h;cases j with
  | zero=>simp at h;subst h;simp;omega
  | succ j=>have:=E (y:=y) (by simpa using h);simp only[List.set_cons_succ,List.sum_cons];omega
theorem Ha {K V:Type} [BEq K] {m:List (K×V)} {a:K} {j:Nat} (h:m.findIdx? (·.1==a)=some j):∃x,m[j]?=some x/\dw m a=some x.2:=by
 induction m generalizing j with
 | nil=>simp at h
 | cons y m E=>
  rw[List.findIdx?_cons] at h;unfold dw at E ⊢;rw[List.find?_cons];cases hy:y.1==a with
  | true=>rw[hy] at h;simp at h;subst h;exact⟨y,rfl,rfl⟩
  | false=>
   rw[hy] at h;simp only[Bool.false_eq_true,if_false,Option.map_eq_some_iff] at h;obtain⟨i,hi,rfl⟩:=h;obtain⟨x,I,O⟩:=E hi;exact⟨x,by simpa using I,O⟩
theorem Cc {fs:jZ} {n s:ByteArray}:vol (fS fs n s)+(match dw fs n with|some w=>w.size|none=>0)=vol fs+s.size:=by
 cases hf:fs.findIdx? (·.1==n) with
 | none=>
  have K:dw fs n=none:=by
   unfold dw;cases h:fs.find? (·.1==n) with
   | none=>rfl
   | some y=>
    have I:=List.find?_some h;have E:=List.findIdx?_eq_none_iff.1 hf y (List.mem_of_find?_eq_some h);rw[I] at E;cases E
  rw[ve K,K];simp[vol]
 | some j=>
  obtain⟨x,I,E⟩:=Ha hf;rw[E];have:fS fs n s=fs.set j (n,s):=by unfold fS;rw[hf]
  rw[this];unfold vol;rw[List.map_set];exact Ge (by rw[List.getElem?_map,I];rfl)
theorem Cd {fs:jZ} {n:ByteArray}:vol (fs.eraseP (·.1==n))<=vol fs:=by
 induction fs with
 | nil=>exact cm _
 | cons x fs E=>
  rw[List.eraseP_cons];unfold vol at E ⊢;cases x.1==n with
  | true=>simp
  | false=>simp;omega
theorem rG (fs:jZ) (o:DOp):vol (ea fs o)<=vol fs+o.data.size:=by
 unfold ea
 split
 · have:=@Cc fs o.name (match dw fs o.name with|some w=>w++o.data|none=>o.data)
   cases h:dw fs o.name with
   | none=>rw[h] at this;simp at this ⊢;omega
   | some w=>rw[h] at this;simp[ByteArray.size_append] at this ⊢;omega
 · split
   · have:=@Cc fs o.name o.data
     omega
   · split
     · have:=@Cd fs o.name
       omega
     · omega
theorem rS:∀(l:List DOp) (fs:jZ),vol (l.foldl ea fs)<=vol fs+fR l
 | [],_=>cm _
 | o::l,fs=>by
  have E:=rS l (ea fs o);have I:=rG fs o;have h3:fR (o::l)=o.data.size+fR l:=by simp[fR]
  rw[List.foldl_cons,h3];omega
end FK

namespace Go.SL
open Go.RowKit
section
variable {P:Program} {E:Env} {n:Nat} {D:List Deferred} {ts:List (Nat×Value)} {l:List HP} {ops:Array Oper} {Q:Exit->Act->World->Prop} {i:Nat} {ty:TypeId} {pos:String} {af:Array Edge} {g:Option (Nat×Bool)} {K:Type} [BEq K] {enc:K->Value}
theorem yq {m:List (K×Value)} {a:K} (h:m.findIdx? (·.1==a)=none):er m a=none:=by
 have:=ig m a;rw[h] at this;simpa using this.symm
theorem vP {t kt et:TypeId} {x y z:Operand} {b:Nat} {m:List (K×Value)} {a:K} {v:Value} {r:List HP} {d:Option Tmp} {Kk:Act->World->Prop} (hd:d=none) (ht:P.underlying t=some (.map kt et)) (hk:KeyK P kt K enc) (hx:ev ts x=some (.map (some b))) (hy:ev ts y=some (enc a)) (hz:ev ts z=some v)
 (s:Sel (cA enc b m) l r) (h:At E n D ts (cA enc b (FK.fS m a v)::r) Kk):At E n D ts l (λac w=>(Oper.mk d (.mapUpdate t x y z) ty pos af g).wp P ac w Kk Q):=by
 cases hf:m.findIdx? (·.1==a) with
 | none=>
  have hp:FK.fS m a v=m++[(a,v)]:=by unfold FK.fS;rw[hf]
  rw[hp] at h;exact vQ hd ht hk hx hy hz s (yq hf) h
 | some j=>
  have hp:FK.fS m a v=m.set j (a,v):=by unfold FK.fS;rw[hf]
  rw[hp] at h;intro ac w f hw;subst hd;have d8:=hw.sel s;obtain⟨I,c,hb,hm,hs1,f7⟩:=iN .head w d8;have h1:=hk.find w I.toList m a hm;rw[hf] at h1;have hg:=MapKept.run_getObj_map (P:=P) hb;obtain⟨d7,f8,_⟩:=List.findIdx?_eq_some_iff_getElem.1 hf;have t6:m[j]?=some m[j]:=List.getElem?_eq_getElem d7;have t8:I.toList.length=m.length:=by simpa using congrArg List.length hm
  have t7:∃e,I[j]?=some e/\e.key=enc m[j].1:=by
   have:=congrArg (λl=>l[j]?) hm;simp only[List.getElem?_map,t6,Option.map_some] at this;cases he:I.toList[j]? with
   | none=>rw[he] at this;cases this
   | some e=>
    rw[he] at this;simp only[Option.map_some,Option.some.injEq,Prod.mk.injEq] at this;exact⟨e,by rw[<-Array.getElem?_toList];exact he,this.1⟩
  obtain⟨e,he,f9⟩:=t7;have Y:(Instr.keyThatStays (((I[j]?).map (·.key)).getD (enc a)) (enc a)).run P w=.ok (enc a) w:=by
   rw[he];simp[Instr.keyThatStays,f9,hk.bits _ _ f8]
  have hs:=MapKept.run_setObj_map (P:=P) (.map (I.modify j λe=>{e with key:=enc a,val:=v}) c) hb;have hr:(execOp ac.eval (Oper.mk none (.mapUpdate t x y z) ty pos af g)).run P w=.ok .skip {w with heap:=w.heap.setIfInBounds b (.map (I.modify j λe=>{e with key:=enc a,val:=v}) c)}:=by
   simp only[execOp,f.eval hx,f.eval hy,f.eval hz,Instr.mapUpdate,Sem.run_bind,run_underlying ht,Result.andThen_ok,hg,hk.check,h1,Option.map_some,Y,hs,Sem.run_pure]
  show(Oper.mk none (.mapUpdate t x y z) ty pos af g).wp P ac w Kk Q;unfold Oper.wp;rw[hr];have T:∀k,((I.modify j λe=>{e with key:=enc a,val:=v}).toList)[k]?=(I.toList[k]?).map λe=>if j=k then {e with key:=enc a,val:=v} else e:=λk=>by
   rw[Array.toList_modify,List.getElem?_modify]
   rfl
  have O:(I.modify j λe=>{e with key:=enc a,val:=v}).toList.map (·.born)=I.toList.map (·.born):=by
   apply List.ext_getElem?;intro k;rw[List.getElem?_map,List.getElem?_map,T,Option.map_map]
   congr 1
   funext e
   simp only[Function.comp_apply]
   split<;>rfl
  refine h ac _ f<|d8.setVMap ?_ (λy hy=>?_) ?_
  · apply List.ext_getElem?
    intro k;rw[List.getElem?_map,T,List.getElem?_map];have d9:=congrArg (λl=>l[k]?) hm;simp only[List.getElem?_map] at d9
    by_cases d6:j=k
    · subst d6
      rw[List.getElem?_set_self d7];rw[Array.getElem?_toList,he];simp
    · rw[List.getElem?_set_ne d6,<-d9,Option.map_map]
      congr 1
      funext e
      simp[d6]
  · have:y.born∈(I.modify j λe=>{e with key:=enc a,val:=v}).toList.map (·.born):=List.mem_map_of_mem (f:=(·.born)) hy
    rw[O] at this;obtain⟨e',mt,hq⟩:=List.mem_map.1 this;rw[<-hq];exact hs1 e' mt
  · rw[O]
    exact f7
end
end Go.SL

namespace Go.Y
open Go.Proofs Go.RowKit Go.SL
variable {G:Env->Prop}
abbrev dO (e:Int):Value:=if e=0 then .nilIface else .iface 33 (.int .i64 e)
abbrev bY (s:ByteArray):Value:=.string s
theorem kC:KeyK Tryz.prog 9 ByteArray bY:=K4 eP
def fd (P:List (Nat×ByteArray)):HP:=HP.all (P.map λc=>blk c.1 9 #[bY c.2])
inductive Names (P:List (Nat×ByteArray)):List (ByteArray×Nat)->FK.jZ->Prop where
 | nil:Names P [] []
 | cons {M:List (ByteArray×Nat)} {fs:FK.jZ} {n s:ByteArray} {b:Nat} (h:(b,s)∈P) (t:Names P M fs):Names P ((n,b)::M) ((n,s)::fs)
theorem Names.mono {P I:List (Nat×ByteArray)} (h:∀c∈P,c∈I):∀{M:List (ByteArray×Nat)} {fs:FK.jZ},Names P M fs->Names I M fs
 | _,_,.nil=>.nil
 | _,_,.cons a t=>.cons (h _ a) (t.mono h)
theorem Names.get {P:List (Nat×ByteArray)} (n:ByteArray):∀{M:List (ByteArray×Nat)} {fs:FK.jZ},Names P M fs->(FK.dw M n=none/\FK.dw fs n=none)\/∃b s,FK.dw M n=some b/\FK.dw fs n=some s/\(b,s)∈P
 | _,_,.nil=>.inl ⟨rfl,rfl⟩
 | _,_,.cons (M:=M) (fs:=fs) (n:=k) (s:=s) (b:=b) a t=>by
  have I:=t.get n;unfold FK.dw at I ⊢;rw[List.find?_cons,List.find?_cons];cases hk:k==n with
  | true=>exact .inr ⟨b,s,by simp,by simp,a⟩
  | false=>exact I
theorem Names.idx {P:List (Nat×ByteArray)} (n:ByteArray):∀{M:List (ByteArray×Nat)} {fs:FK.jZ},Names P M fs->M.findIdx? (·.1==n)=fs.findIdx? (·.1==n)
 | _,_,.nil=>rfl
 | _,_,.cons _ t=>by
  rw[List.findIdx?_cons,List.findIdx?_cons,t.idx n]
theorem Names.set {P:List (Nat×ByteArray)} {n s:ByteArray} {b:Nat} (h:(b,s)∈P):∀{M:List (ByteArray×Nat)} {fs:FK.jZ} (j:Nat),Names P M fs->Names P (M.set j (n,b)) (fs.set j (n,s))
 | _,_,_,.nil=>.nil
 | _,_,0,.cons _ t=>.cons h t
 | _,_,j+1,.cons a t=>.cons a (t.set h j)
theorem Names.snoc {P:List (Nat×ByteArray)} {n s:ByteArray} {b:Nat} (h:(b,s)∈P):∀{M:List (ByteArray×Nat)} {fs:FK.jZ},Names P M fs->Names P (M++[(n,b)]) (fs++[(n,s)])
 | _,_,.nil=>.cons h .nil
 | _,_,.cons a t=>.cons a (t.snoc h)
theorem Names.put {P:List (Nat×ByteArray)} {n s:ByteArray} {b:Nat} {M:List (ByteArray×Nat)} {fs:FK.jZ} (t:Names P M fs) (h:(b,s)∈P):Names P (FK.fS M n b) (FK.fS fs n s):=by
 unfold FK.fS;rw[t.idx n];cases fs.findIdx? (·.1==n) with
 | none=>exact t.snoc h
 | some j=>exact t.set h j
theorem Names.del {P:List (Nat×ByteArray)} (n:ByteArray):∀{M:List (ByteArray×Nat)} {fs:FK.jZ},Names P M fs->Names P (M.eraseP (·.1==n)) (fs.eraseP (·.1==n))
 | _,_,.nil=>.nil
 | _,_,.cons (n:=k) a t=>by
  rw[List.eraseP_cons,List.eraseP_cons];cases k==n with
  | true=>exact t
  | false=>exact .cons a (t.del n)
abbrev ek (M:List (ByteArray×Nat)):List (ByteArray×Value):=M.map λx=>(x.1,aX x.2)
def bI (mb:Nat) (P:List (Nat×ByteArray)) (fs:FK.jZ):HP:=HP.ex λM:List (ByteArray×Nat)=>HP.all [HP.pure (Names P M fs),cA bY mb (ek M)]
abbrev nl (o:FK.DOp):List Value:=[.int .i64 o.kind,bY o.name,bY o.data]
abbrev ix (l:List FK.DOp):List Value:=l.flatMap nl
theorem lD (M:List (ByteArray×Nat)) (n:ByteArray):er (ek M) n=(FK.dw M n).map aX:=by
 unfold er FK.dw;rw[List.find?_map];show Option.map _ (Option.map _ (M.find? (·.1==n)))=_;cases M.find? (·.1==n)<;>rfl
theorem xE (M:List (ByteArray×Nat)) (n:ByteArray) (b:Nat):FK.fS (ek M) n (aX b)=ek (FK.fS M n b):=FK.Ec M (λb=>aX b) n b
theorem GF (M:List (ByteArray×Nat)) (n:ByteArray):(ek M).eraseP (·.1==n)=ek (M.eraseP (·.1==n)):=by
 unfold ek;rw[List.eraseP_map]
 rfl
section
variable {E:Env} {l r:List HP}
section
variable {P:List (Nat×ByteArray)} {M:List (ByteArray×Nat)} {s:ByteArray} {fs:FK.jZ} {b mb:Nat}
theorem sf (h:(b,s)∈P) (S:Sel (fd P) l r):∀w,Holds E w l->cR ⟨b,0,none⟩ (bY s) w:=λw hw=>by
 obtain⟨F1,_,_,_,_,K,_⟩:=(hw.sel S).star;have I:Star w (P.map λc:Nat×ByteArray=>blk c.1 9 #[bY c.2]) F1:=K;have O:(blk b 9 #[bY s]).sat w F1:=Star.mem I (List.mem_map.2 ⟨(b,s),h,rfl⟩);have:=O.2;simp[cR,World.cell?,this]
theorem BS:Ent (blk b 9 #[bY s]::fd P::r) (fd ((b,s)::P)::r):=by
 refine(Ent.cons (Ent.unall (m:=P.map λc=>blk c.1 9 #[bY c.2]))).trans ?_;exact Ent.all (m:=((b,s)::P).map λc=>blk c.1 9 #[bY c.2])
theorem cW (h:Names P M fs):Ent (cA bY mb (ek M)::r) (bI mb P fs::r):=
 (Ent.pure h).trans ((Ent.all (m:=[HP.pure (Names P M fs),cA bY mb (ek M)])).trans (Ent.ex (f:=λM:List (ByteArray×Nat)=>HP.all [HP.pure (Names P M fs),cA bY mb (ek M)]) M))
theorem mE {n:ByteArray} (h:Names P M fs):Ent (cA bY mb (FK.fS (ek M) n (aX b))::blk b 9 #[bY s]::fd P::r) (bI mb ((b,s)::P) (FK.fS fs n s)::fd ((b,s)::P)::r):=by
 rw[xE];exact(Ent.cons BS).trans (cW ((h.mono λc hc=>.tail _ hc).put (.head _)))
theorem ly {I:List (Nat×ByteArray)} (h:∀c∈P,c∈I):Ent (bI mb P fs::r) (bI mb I fs::r):=λw F ⟨F1,F2,O,T,hd,⟨M,K⟩,Y⟩=>by
 have hn:Names P M fs:=Star.mem (p:=HP.pure (Names P M fs)) (l:=[HP.pure (Names P M fs),cA bY mb (ek M)]) K cP;obtain⟨G1,G2,g1,g2,gd,_,g4⟩:=K;exact⟨F1,F2,O,T,hd,⟨M,G1,G2,g1,g2,gd,hn.mono h,g4⟩,Y⟩
end
end
theorem vt {P:Program} {ts:List (Nat×Value)} {t K:TypeId} {x y:Operand} {a b:ByteArray} (O:ev ts x=some (.string a)) (T:ev ts y=some (.string b)) (Y:a.size+b.size<=9223372036854775807):Ev P ts (.binOp .add t x y K) (.string (a++b)) Any:=by
 intro ac w _ _ _ _ _ I _;refine eT (I.eval O) (I.eval T) (by simp[eqGuard]) ?_;have:¬(((a.size+b.size:Nat):Int)>IntKind.i64.max):=by
  rw[show IntKind.i64.max=9223372036854775807 from rfl];omega
 simp only[binOp,Op.stringOp];rw[if_neg this]
 rfl
structure DA where
 md:Nat
 mn:Nat
 pv:Value
 P:List (Nat×ByteArray)
abbrev gR (q:DA) (σ:FK.Dsk):Array Value:=#[.map (some q.md),.map (some q.mn),q.pv,.int .i64 σ.left,.int .i64 σ.full,.bool σ.down]
abbrev Ff (d:Nat) (q:DA) (σ:FK.Dsk):List HP:=[blk d 88 (gR q σ),bI q.md q.P σ.dur,bI q.mn q.P σ.now,fd q.P,row 113 3 q.pv σ.pend.length (ix σ.pend)]
def ar (d:Nat) (σ:FK.Dsk):HP:=HP.ex λq:DA=>HP.all (Ff d q σ)
abbrev mR (d:Nat) (q:DA) (σ:FK.Dsk) (r:List HP):List HP:=blk d 88 (gR q σ)::bI q.md q.P σ.dur::bI q.mn q.P σ.now::fd q.P::row 113 3 q.pv σ.pend.length (ix σ.pend)::r
theorem cO {d:Nat} (q:DA) (σ:FK.Dsk) {r:List HP}:Ent (Ff d q σ++r) (ar d σ::r):=Ent.all.trans (Ent.ex (f:=λq:DA=>HP.all (Ff d q σ)) q)
theorem qh {d:Nat} {σ:FK.Dsk}:dZ G 268 [aX d] [ar d σ] λv m=>v=dO σ.writes.2/\m=[ar d σ.writes.1]:=by
 obtain⟨dur,now,pend,left,full,down⟩:=σ;refine bz Tryz.func268 Z λE fr hE=>ae ?_;refine cN .head λq=>bl ?_;refine al (l':=mR d q ⟨dur,now,pend,left,full,down⟩ fr) aN ?_;refine sS<|sB Z<|sQ<|sS<|dS 5 Z Z (fC Z (aF Z) (ag Z) λO Y=>(sM Z ?_))
 refine dW O (by rfl) ?_;refine fK Z Z (λ_=>rfl) (bn Z) (λ_ _=>trivial) ?_;refine dW O (by rfl) ?_;refine fK Z Z (λ_=>rfl) (cv Z) (λ_ _=>trivial) ?_;refine dW O (by rfl) ?_;refine fK Z Z (λ_=>rfl) (bL 3 Z) (λ_ _=>trivial) ?_;refine dW O (by rfl) ?_;refine fK Z Z (λ_=>rfl) (aF Z) (ag Z) ?_;refine dW O (by rfl) ?_;refine fK Z Z (λ_=>rfl) (bC Z Z Z) (λ_ _=>trivial) ?_;refine fC Z (Eu Z Z Z) (λ_ _=>trivial) λd6 T=>sN ?_;refine dQ Z (λI=>?_) λI=>?_
 ·
  have hc:down=true\/left=0:=by rw[T,Y] at I;simpa using I
  have hw:FK.Dsk.writes ⟨dur,now,pend,left,full,down⟩=(⟨dur,now,pend,left,full,true⟩,11):=by unfold FK.Dsk.writes;rw[if_pos hc]
  rw[hw];refine sS<|dS 5 Z Z ?_
  refine bK Z Z Z Z ii ?_;exact sN<|sS<|sP (ed Z Z Z)<|sB Z<|an<|aH<|aw [_] rfl Z ⟨rfl,rfl⟩ ((cO (d:=d) q ⟨dur,now,pend,left,full,true⟩))
 ·
  have hc:¬(down=true\/left=0):=by rw[T,Y] at I;simpa using I
  refine ah<|sT<|sS<|dS 3 Z Z<|aE Z Z Z Z<|sP (cH Z Z Z)<|dA Z<|bX 3 Z ?_
  refine bK Z Z Z Z ii ?_;refine sN<|sQ<|sS<|dS 4 Z Z<|aE Z Z Z Z<|sP (bC Z Z Z)<|sN ?_
  refine aA Z (λK=>?_) λK=>?_
  ·
   have hw:FK.Dsk.writes ⟨dur,now,pend,left,full,down⟩=(⟨dur,now,pend,IntKind.i64.wrap (left-1),-1,down⟩,10):=by unfold FK.Dsk.writes;rw[if_neg hc,if_pos K]
   rw[hw];refine sS<|dS 4 Z Z ?_
   refine bK Z Z Z Z ii ?_;exact sN<|sS<|sP (ed Z Z Z)<|sB Z<|an<|aH<|aw [_] rfl Z ⟨rfl,rfl⟩ ((cO (d:=d) q ⟨dur,now,pend,IntKind.i64.wrap (left-1),-1,down⟩))
  ·
   have hw:FK.Dsk.writes ⟨dur,now,pend,left,full,down⟩=(⟨dur,now,pend,IntKind.i64.wrap (left-1),IntKind.i64.wrap (full-1),down⟩,0):=by unfold FK.Dsk.writes;rw[if_neg hc,if_neg K]
   rw[hw];refine ah<|sT<|sS<|dS 4 Z Z<|aE Z Z Z Z<|sP (cH Z Z Z)<|dA Z<|bX 4 Z ?_
   refine bK Z Z Z Z ii ?_;exact sN<|sS<|sB Z<|an<|aw [_] rfl Z ⟨rfl,rfl⟩ ((cO (d:=d) q ⟨dur,now,pend,IntKind.i64.wrap (left-1),IntKind.i64.wrap (full-1),down⟩))
theorem wz {mb:Nat} {P:List (Nat×ByteArray)} {fs:FK.jZ} {o:FK.DOp} (d6:o.kind=2->∀w,FK.dw fs o.name=some w->w.size+o.data.size<=9223372036854775807):dZ G 51 [.map (some mb),.agg (nl o).toArray] [bI mb P fs,fd P] λv m=>v=.tuple #[]/\∃P',(∀c∈P,c∈P')/\m=[bI mb P' (FK.ea fs o),fd P']:=by
 have I:∀b s,∀c∈P,c∈(b,s)::P:=λb s c hc=>.tail _ hc;refine bz Tryz.func51 Z λE fr hE=>az ?_;refine cN .head λM=>bl ?_;refine al (l':=HP.pure (Names P M fs)::cA bY mb (ek M)::fd P::fr) aN ?_;refine ec .head λhN=>sS<|sO (cL Z Z λb3=>(sN (sS (bX 2 Z (aE Z Z Z Z (sO (cX (z:=.string ⟨#[]⟩) Z λb4=>?_)))))))
 refine bK Z Z Z Z ii ?_;refine sN<|sQ<|aD b4 #[bY o.data] rfl<|sG<|bX 0 Z<|aE Z Z Z Z<|sN<|aj<|sS<|sP (bC Z Z Z)<|sB Z ?_
 refine aA Z (λO=>?_) λO=>?_
 ·
  have K:FK.ea fs o=FK.fS fs o.name (match FK.dw fs o.name with|some w=>w++o.data|none=>o.data):=by unfold FK.ea;rw[if_pos O];first|done|rfl
  rw[K];refine sQ<|sQ ?_
  by_cases HG:∃b s,FK.dw M o.name=some b/\FK.dw fs o.name=some s/\(b,s)∈P
  ·
   obtain⟨ob,os,hM,hF,hP⟩:=HG;rw[hF];refine sG<|sM Z<|bX 1 Z<|aE Z Z Z Z<|cE (lS (a:=o.name) (v:=aX ob) Z kC Z Z (by rw[lD,hM];rfl)) (iN (b:=mb) (m:=ek M) dj)<|sM Z<|bG Z Z<|bG Z Z<|sA Z<|sB Z<|bg Z<|sN<|aO Z<|sZ Z<|eI Z Z ?_
   refine dr 1 Z (cv Z)<|bZ Z (aF (v:=bY os) Z) (sf hP gC)<|bZ Z (aF Z) (ag Z)<|bF Z (vt Z Z (d6 O os hF)) ?_
   refine cK 5 Z<|cp Z Z Z Z Z ii ?_
   exact dK [false,false] ab<|dE<|sT<|aD b4 #[bY (os++o.data)] rfl<|sG<|sM Z<|bX 1 Z<|aE Z Z Z Z<|sO<|vP Z Z kC Z Z Z dj<|aq<|am<|bm [_,_] rfl ⟨rfl,(b4,os++o.data)::P,I _ _,rfl⟩ ((dd .head .head bM).trans ((mE hN).trans (Ent.cons (Ent.cons Ent.drop))))
  ·
   obtain⟨hM,hF⟩:FK.dw M o.name=none/\FK.dw fs o.name=none:=by rcases hN.get o.name with h|h;exact h;exact absurd h HG
   rw[hF];refine sG<|sM Z<|bX 1 Z<|aE Z Z Z Z<|cE (nL (m:=ek M) (a:=o.name) Z kC Z Z Z (by rw[lD,hM];rfl)) (iN (b:=mb) (m:=ek M) dj)<|sM Z<|bG Z Z<|bG Z Z<|sA Z<|sB Z<|bg Z<|sN<|ak Z<|ah<|sT ?_
   exact sG<|sM Z<|bX 1 Z<|aE Z Z Z Z<|sO<|vP Z Z kC Z Z Z dj<|aq<|am<|bm [_,_] rfl ⟨rfl,(b4,o.data)::P,I _ _,rfl⟩ ((dd .head .head bM).trans ((mE hN).trans (Ent.cons (Ent.cons Ent.drop))))
 ·
  refine sS<|sP (bC Z Z Z)<|sB Z ?_
  refine aA Z (λT=>?_) λT=>?_
  ·
   have K:FK.ea fs o=FK.fS fs o.name o.data:=by unfold FK.ea;rw[if_neg O,if_pos T]
   rw[K];exact sG<|sM Z<|bX 1 Z<|aE Z Z Z Z<|sO<|vP Z Z kC Z Z Z dj<|aq<|am<|bm [_,_] rfl ⟨rfl,(b4,o.data)::P,I _ _,rfl⟩ ((dd .head .head bM).trans ((mE hN).trans (Ent.cons (Ent.cons Ent.drop))))
  ·
   refine sS<|sP (bC Z Z Z)<|sB Z ?_
   refine aA Z (λY=>?_) λY=>?_
   ·
    have K:FK.ea fs o=fs.eraseP (·.1==o.name):=by unfold FK.ea;rw[if_neg O,if_neg T,if_pos Y]
    rw[K];refine sG<|sM Z<|bX 1 Z<|aE Z Z Z Z<|sO<|vR Z Z kC Z Z dj<|aq<|am ?_
    rw[GF];exact bm [_,_] rfl ⟨rfl,P,λ_ h=>h,rfl⟩ ((aY .head dj).trans ((cW (hN.del o.name)).trans (Ent.cons (Ent.cons (Ent.drop.trans Ent.drop)))))
   ·
    have K:FK.ea fs o=fs:=by unfold FK.ea;rw[if_neg O,if_neg T,if_neg Y]
    rw[K];refine ah<|am ?_
    exact bm [_,_] rfl ⟨rfl,P,λ_ h=>h,rfl⟩ ((aY dj dj).trans ((cW hN).trans (Ent.cons (Ent.cons (Ent.drop.trans Ent.drop)))))
end Go.Y

namespace Go.SL
open Go.RowKit
section
variable {P:Program} {E:Env} {n:Nat} {D:List Deferred} {ts:List (Nat×Value)} {l:List HP} {ops:Array Oper} {Q:Exit->Act->World->Prop} {rest:List Oper} {i:Nat} {ty:TypeId} {pos:String} {af:Array Edge} {g:Option (Nat×Bool)}
def Db (A:Option Addr) (bs:List UInt8) (w:World):Prop:=(A=none->bs=[])/\∀b o,A=some ⟨b,o,none⟩->∀j (I:j<bs.length),w.cell? ⟨b,o+j,none⟩=some (.int .u8 (bs[j].toNat:Int))
theorem JD {src I e:TypeId} {x:Operand} {A:Option Addr} {c:Nat} {bs:List UInt8} (T:P.underlying src=some (.slice e)) (Y:P.underlying e=some (.int .u8)) (hd:P.underlying I=some .string) (hA:∀K,A=some K->∃b o,K=⟨b,o,none⟩)
 (hx:ev ts x=some (.slice A bs.length c)):Ev P ts (.convert src I x) (.string ⟨bs.toArray⟩) (Db A bs):=by
 intro a w _ _ _ _ _ kn hφ;cases A with
 | none=>
  obtain rfl:=hφ.1 rfl;have O:(convert src I (.slice none ([]:List UInt8).length c)).run P w=.ok (.string .empty) w:=by
   rw[run_convert_bytes_string w src I e none _ c T Y hd];simp[Conv.bytesToString]
  simp only[execOp,kn.eval hx,Sem.run_bind,O,Result.andThen_ok,Sem.run_pure]
  rfl
 | some K=>
  obtain⟨b,o,rfl⟩:=hA K rfl;have O:=run_convert_bytes_back (P:=P) w src I e ⟨b,o,none⟩ c bs T Y hd λj hj=>by rw[add_plain];exact hφ.2 b o rfl j hj
  simp only[execOp,kn.eval hx,Sem.run_bind,O,Result.andThen_ok,Sem.run_pure]
theorem lT {t K:TypeId} {x y:Operand} {a b:ByteArray} {r:Bool} (_ht:P.underlying t=some .string) (O:ev ts x=some (.string a)) (T:ev ts y=some (.string b)) (Y:(!(a.toList==b.toList))=r):Ev P ts (.binOp .neq t x y K) (.bool r) Any:=by
 intro ac w _ _ _ _ _ I _;subst Y;exact eT (I.eval O) (I.eval T) (by simp[eqGuard]) (by simp[binOp,Op.stringOp])
end
end Go.SL

namespace Go.Y
open Go.Proofs Go.RowKit Go.SL
variable {G:Env->Prop}
theorem zX:fV Tryz.prog 113 (.agg #[.int .i64 0,.string .empty,.string .empty]) 3 40:=by unfold fV;kernel_rfl
theorem ww (o:FK.DOp) (t:Nat):Instr.fill (λi=>some (i*3,3)) (Array.map (λx=>((.agg #[.int .i64 0,.string .empty,.string .empty]:Value)).cells[x%((.agg #[.int .i64 0,.string .empty,.string .empty]:Value)).cells.size]!) (Array.range (1*3))) ((List.map (λx=>x.fst) [((0:Nat),Operand.tmp t)]).zip [.agg (nl o).toArray])=some (nl o).toArray:=by
 have e1:Array.range (1*3)=#[0,1,2]:=rfl;rw[e1];simp[Instr.fill,Value.cells]
theorem pN (l:List FK.DOp) (o:FK.DOp):ix (l++[o])=ix l++nl o:=by
 unfold ix;rw[List.flatMap_append]
 rfl
theorem uJ {d:Nat} {σ:FK.Dsk} {o:FK.DOp} (f7:FK.vol σ.now+o.data.size<=9223372036854775807) (hp:σ.pend.length<=1099511627776):dZ G 267 [aX d,.agg (nl o).toArray] [ar d σ] λv m=>v=dO (σ.tell o).2/\m=[ar d (σ.tell o).1]:=by
 have t6:FK.vol σ.writes.1.now+o.data.size<=9223372036854775807:=by
  have:σ.writes.1.now=σ.now:=by unfold FK.Dsk.writes;split;rfl;split<;>rfl
  rw[this];exact f7
 have wf:σ.writes.1.pend.length<=1099511627776:=by
  have:σ.writes.1.pend=σ.pend:=by unfold FK.Dsk.writes;split;rfl;split<;>rfl
  rw[this];exact hp
 have d9:σ.writes.2=0\/σ.writes.2=10\/σ.writes.2=11:=by unfold FK.Dsk.writes;split;exact .inr (.inr rfl);split;exact .inr (.inl rfl);exact .inl rfl
 have I:σ.tell o=if σ.writes.2=11 then({σ.writes.1 with pend:=σ.writes.1.pend++[o]},11) else if σ.writes.2≠0 then σ.writes else if o.kind=3/\FK.dw σ.writes.1.now o.name=none then(σ.writes.1,9) else({σ.writes.1 with now:=FK.ea σ.writes.1.now o,pend:=σ.writes.1.pend++[o]},0):=rfl
 clear f7 hp;refine bz Tryz.func267 Z λE fr hE=>ae<|sS<|sO (cL Z Z λb3=>(sB Z (sQ (sS (sM Z ?_)))))
 refine ch Z qh gfE1 ?_;rintro v m ⟨hv,rfl⟩;refine ae ?_
 generalize σ.writes=ω at *
 obtain⟨⟨dur,now,pend,left,full,down⟩,e⟩:=ω;simp only at t6 wf d9 hv ⊢;refine sB Z<|sQ ?_
 by_cases HE:e=0
 ·
  subst HE;subst hv;refine sG<|cG Z (cS Z Z) ?_
  refine cN .head λq=>bl ?_;refine al (l':=mR d q ⟨dur,now,pend,left,full,down⟩ (blk b3 113 (nl o).toArray::fr)) aN ?_;refine cN dj λM=>bl ?_;refine al (l':=HP.pure (Names q.P M now)::cA bY q.mn (ek M)::blk d 88 (gR q ⟨dur,now,pend,left,full,down⟩)::bI q.md q.P dur::fd q.P::row 113 3 q.pv pend.length (ix pend)::blk b3 113 (nl o).toArray::fr) aN ?_;refine ec .head λhN=>sN<|ak Z<|ah<|sT<|sQ<|sQ ?_
  by_cases HG:∃b s,FK.dw M o.name=some b/\FK.dw now o.name=some s/\(b,s)∈q.P
  ·
   obtain⟨ob,os,hM,hF,hP⟩:=HG;refine sZ Z<|eI Z Z<|dv 1 Z Z Z<|bZ Z (aF Z) (ag Z)<|bF Z (bL 1 Z)<|bZ Z (aF Z) (ag Z)<|bZ Z (lS (a:=o.name) (v:=aX ob) Z kC Z Z (by rw[lD,hM];rfl)) (iN .head)<|cJ Z Z<|bF Z (bA Z Z)<|bF Z (bA Z Z)<|bF Z (aQ Z)<|bF Z (aQ Z)<|dE<|sT<|bg Z<|sP (dp Z Z)<|sM Z ?_
   refine bQ Z<|bQ Z<|bQ Z<|sP (aS Z Z Z)<|sN<|ak Z<|ah<|sT<|sQ ?_
   refine al (l':=bI q.mn q.P now::fd q.P::blk d 88 (gR q ⟨dur,now,pend,left,full,down⟩)::bI q.md q.P dur::row 113 3 q.pv pend.length (ix pend)::blk b3 113 (nl o).toArray::fr) ((aY .head dj).trans ((Ent.cons aN).trans (cW hN))) ?_;refine sZ Z<|eI Z Z<|dv 1 Z Z Z<|bZ Z (aF Z) (ag Z)<|bZ Z (bR (vs:=nl o) Z) (aR Z) ?_
   refine cK 5 Z<|cF Z (wz (P:=q.P) (fs:=now) (o:=o) (λ_ w hw=>by have:=FK.oD hw;omega)) aN ?_
   rintro v m ⟨rfl,K,d8,rfl⟩;refine az<|dK [false,false] ab<|dE<|sT<|sQ ?_
   refine al (l':=bI q.md K dur::bI q.mn K (FK.ea now o)::fd K::blk d 88 (gR q ⟨dur,now,pend,left,full,down⟩)::row 113 3 q.pv pend.length (ix pend)::blk b3 113 (nl o).toArray::fr) (gfE3.trans (ly d8)) ?_;refine sZ Z<|eI Z Z<|cJ Z Z<|dv 2 Z Z Z<|bZ Z (aF Z) (ag Z)<|bZ Z (bR (vs:=nl o) Z) (aR Z) ?_
   refine cK 6 Z (dB (m:=1) (z:=.agg #[.int .i64 0,.string .empty,.string .empty]) (size:=3) (ps:=[(0,.tmp 55)]) (vs:=[.agg (nl o).toArray]) (cs:=(nl o).toArray) Z Z Z Z ai ai Z (ww _ _) λt7=>?_);refine dK [false,true] (aa (ag Z) ab) ?_;refine dR 7 rfl rfl (cU rfl rfl zX rfl ai rfl rfl (HasVal.sel (v:=q.pv)) (news:=nl o) rfl (λh=>by cases h) (iu (λj u h=>by simpa using h)) fx (by unfold maxLen;omega) ai λd6 f8=>?_);refine aI (HasVal.sel (v:=d6)) ?_;rintro O T rfl - - - - -
   refine dK [false] ab<|dr 8 Z (cv Z)<|bF Z (bL 2 Z) ?_
   refine cK 10 Z<|cp Z Z Z Z Z ii ?_
   refine aD d (gR ⟨q.md,q.mn,.slice O (pend.length+1) T,K⟩ ⟨dur,FK.ea now o,pend++[o],left,full,down⟩) Z ?_;refine al (l':=ar d ⟨dur,FK.ea now o,pend++[o],left,full,down⟩::fr) ?_ ?_
   · refine Ent.trans ?_<|cO ⟨q.md,q.mn,.slice O (pend.length+1) T,K⟩ ⟨dur,FK.ea now o,pend++[o],left,full,down⟩
     show Ent _ (_::_::_::_::row 113 3 _ (pend++[o]).length (ix (pend++[o]))::fr);rw[pN,List.length_append];exact ap
   refine dK [] ab<|dE<|sT<|sS<|sB Z<|an ?_
   have ht:σ.tell o=(⟨dur,FK.ea now o,pend++[o],left,full,down⟩,0):=by rw[I,if_neg cP,if_neg cP,if_neg (by rw[hF];simp)]
   rw[ht];exact aw [_] rfl Z ⟨rfl,rfl⟩ aN
  ·
   obtain⟨hM,hF⟩:FK.dw M o.name=none/\FK.dw now o.name=none:=by rcases hN.get o.name with h|h;exact h;exact absurd h HG
   refine sZ Z<|eI Z Z<|dv 1 Z Z Z<|bZ Z (aF Z) (ag Z)<|bF Z (bL 1 Z)<|bZ Z (aF Z) (ag Z)<|bZ Z (nL (m:=ek M) (a:=o.name) Z kC Z Z Z (by rw[lD,hM];rfl)) (iN .head)<|cJ Z Z<|bF Z (bA Z Z)<|bF Z (bA Z Z)<|bF Z (aQ Z)<|bF Z (aQ Z)<|dE<|sT<|bg Z<|sP (dp Z Z)<|sM Z ?_
   refine eJ (bL 0 Z)<|mJ (aF Z) (ag Z)<|eJ (bC Z Z Z)<|sP (aS Z Z Z)<|sN ?_
   refine aA Z (λd7=>?_) λd7=>?_
   ·
    refine sS<|sP (ed Z Z Z)<|sB Z<|an<|aH ?_
    have ht:σ.tell o=(⟨dur,now,pend,left,full,down⟩,9):=by rw[I,if_neg cP,if_neg cP,if_pos ⟨d7,hF⟩]
    rw[ht];refine aw [ar d ⟨dur,now,pend,left,full,down⟩] rfl Z ⟨rfl,rfl⟩ ?_;refine Ent.trans ?_<|cO q ⟨dur,now,pend,left,full,down⟩
    refine Ent.trans (cW hN) ?_;show Ent _ (_::bI q.md q.P dur::bI q.mn q.P now::fd q.P::_::fr);exact ap
   ·
    refine ah<|sT<|sQ ?_
    refine al (l':=bI q.mn q.P now::fd q.P::blk d 88 (gR q ⟨dur,now,pend,left,full,down⟩)::bI q.md q.P dur::row 113 3 q.pv pend.length (ix pend)::blk b3 113 (nl o).toArray::fr) ((aY .head dj).trans ((Ent.cons aN).trans (cW hN))) ?_;refine sZ Z<|eI Z Z<|dv 1 Z Z Z<|bZ Z (aF Z) (ag Z)<|bZ Z (bR (vs:=nl o) Z) (aR Z) ?_
    refine cK 5 Z<|cF Z (wz (P:=q.P) (fs:=now) (o:=o) (λ_ w hw=>by have:=FK.oD hw;omega)) aN ?_
    rintro v m ⟨rfl,K,d8,rfl⟩;refine az<|dK [false,false] ab<|dE<|sT<|sQ ?_
    refine al (l':=bI q.md K dur::bI q.mn K (FK.ea now o)::fd K::blk d 88 (gR q ⟨dur,now,pend,left,full,down⟩)::row 113 3 q.pv pend.length (ix pend)::blk b3 113 (nl o).toArray::fr) (gfE3.trans (ly d8)) ?_;refine sZ Z<|eI Z Z<|cJ Z Z<|dv 2 Z Z Z<|bZ Z (aF Z) (ag Z)<|bZ Z (bR (vs:=nl o) Z) (aR Z) ?_
    refine cK 6 Z (dB (m:=1) (z:=.agg #[.int .i64 0,.string .empty,.string .empty]) (size:=3) (ps:=[(0,.tmp 55)]) (vs:=[.agg (nl o).toArray]) (cs:=(nl o).toArray) Z Z Z Z ai ai Z (ww _ _) λt7=>?_);refine dK [false,true] (aa (ag Z) ab) ?_;refine dR 7 rfl rfl (cU rfl rfl zX rfl ai rfl rfl (HasVal.sel (v:=q.pv)) (news:=nl o) rfl (λh=>by cases h) (iu (λj u h=>by simpa using h)) fx (by unfold maxLen;omega) ai λd6 f8=>?_);refine aI (HasVal.sel (v:=d6)) ?_;rintro O T rfl - - - - -
    refine dK [false] ab<|dr 8 Z (cv Z)<|bF Z (bL 2 Z) ?_
    refine cK 10 Z<|cp Z Z Z Z Z ii ?_
    refine aD d (gR ⟨q.md,q.mn,.slice O (pend.length+1) T,K⟩ ⟨dur,FK.ea now o,pend++[o],left,full,down⟩) Z ?_;refine al (l':=ar d ⟨dur,FK.ea now o,pend++[o],left,full,down⟩::fr) ?_ ?_
    · refine Ent.trans ?_<|cO ⟨q.md,q.mn,.slice O (pend.length+1) T,K⟩ ⟨dur,FK.ea now o,pend++[o],left,full,down⟩
      show Ent _ (_::_::_::_::row 113 3 _ (pend++[o]).length (ix (pend++[o]))::fr);rw[pN,List.length_append];exact ap
    refine dK [] ab<|dE<|sT<|sS<|sB Z<|an ?_
    have ht:σ.tell o=(⟨dur,FK.ea now o,pend++[o],left,full,down⟩,0):=by rw[I,if_neg cP,if_neg cP,if_neg (λh=>d7 h.1)]
    rw[ht];exact aw [_] rfl Z ⟨rfl,rfl⟩ aN
 ·
  replace hv:=hv.trans (if_neg HE);subst hv;refine sG<|cG Z (fj Z Z)<|sN<|aO Z<|sQ<|bg Z<|sP (ed Z Z Z)<|sP (sz Z Z Z Z Z Z Z)<|sN ?_
  refine dQ Z (λY=>?_) λY=>?_
  ·
   obtain rfl:e=11:=by simpa using Y
   refine cN .head λq=>bl ?_;refine al (l':=mR d q ⟨dur,now,pend,left,full,down⟩ (blk b3 113 (nl o).toArray::fr)) aN ?_;refine sZ Z<|eI Z Z<|cJ Z Z<|dv 2 Z Z Z<|bZ Z (aF Z) (ag Z)<|bZ Z (bR (vs:=nl o) Z) (aR Z) ?_
   refine cK 6 Z (dB (m:=1) (z:=.agg #[.int .i64 0,.string .empty,.string .empty]) (size:=3) (ps:=[(0,.tmp 20)]) (vs:=[.agg (nl o).toArray]) (cs:=(nl o).toArray) Z Z Z Z ai ai Z (ww _ _) λIn=>?_);refine dK [false,true] (aa (ag Z) ab) ?_;refine dR 7 rfl rfl (cU rfl rfl zX rfl ai rfl rfl (HasVal.sel (v:=q.pv)) (news:=nl o) rfl (λh=>by cases h) (iu (λj u h=>by simpa using h)) fx (by unfold maxLen;show pend.length+1<=_;omega) (by show(pend.length+1)*40<=_;omega) λt8 Fd=>?_);refine aI (HasVal.sel (v:=t8)) ?_;rintro f9 mt rfl - - - - -
   refine dK [false] ab<|dr 8 Z (cv Z)<|bF Z (bL 2 Z) ?_
   refine cK 10 Z<|cp Z Z Z Z Z ii ?_
   refine aD d (gR ⟨q.md,q.mn,.slice f9 (pend.length+1) mt,q.P⟩ ⟨dur,now,pend++[o],left,full,down⟩) Z ?_;refine al (l':=ar d ⟨dur,now,pend++[o],left,full,down⟩::fr) ?_ ?_
   · refine Ent.trans ?_<|cO ⟨q.md,q.mn,.slice f9 (pend.length+1) mt,q.P⟩ ⟨dur,now,pend++[o],left,full,down⟩
     show Ent _ (_::_::_::_::row 113 3 _ (pend++[o]).length (ix (pend++[o]))::fr);rw[pN,List.length_append];exact ap
   refine dK [] ab<|dE<|sT<|bg Z<|sB Z<|an<|aH ?_
   have ht:σ.tell o=(⟨dur,now,pend++[o],left,full,down⟩,11):=by rw[I,if_pos rfl]
   rw[ht];exact aw [_] rfl Z ⟨rfl,rfl⟩ aN
  ·
   have BT:e≠11:=λh=>by rw[h] at Y;exact absurd Y di
   refine ah<|sT<|bg Z<|sB Z<|an<|aH ?_
   have ht:σ.tell o=(⟨dur,now,pend,left,full,down⟩,e):=by rw[I,if_neg BT,if_pos HE]
   rw[ht];exact aw [_] rfl Z ⟨(if_neg HE).symm,rfl⟩<|Ent.cons Ent.drop
def dN (bs:List UInt8):ByteArray:=⟨bs.toArray⟩
theorem kF (bs:List UInt8):(dN bs).size=bs.length:=by
 unfold dN;show bs.toArray.size=_;simp
theorem JU {E:Env} {p:HP} {A:Option Addr} {bs:List UInt8} {l r:List HP} (h:Reads p A bs) (K:A=none->bs=[]) (s:Sel p l r):∀w,Holds E w l->Db A bs w:=λw hw=>⟨K,λ_b _o I _j O=>h.at s I (List.getElem?_eq_getElem O) w hw⟩
end Go.Y

namespace Go.Y
open Go.Proofs Go.RowKit Go.SL
variable {G:Env->Prop}
section
variable {name:ByteArray} {σ:FK.Dsk} {bs:List UInt8} {d:Nat} {l:List FK.DOp} {u:Value} {o:FK.DOp}
theorem vy {kind:Int} (O:FK.vol σ.now+bs.length<=9223372036854775807) (hp:σ.pend.length<=1099511627776) (hl:bs.length<=1099511627776):dZ G 265 [aX d,.int .i64 kind,bY name,u] [ar d σ,bP u bs] λv m=>v=dO (σ.tell ⟨kind,name,dN bs⟩).2/\m=[ar d (σ.tell ⟨kind,name,dN bs⟩).1]:=by
 refine bz Tryz.func265 Z λE fr hE=>az<|aI (HasVal.sel (v:=u)) ?_
 rintro A c rfl f1 f2 f3 f4 -
 have I:bs≠[]->∃g,A=some ⟨g,0,none⟩:=λT=>by
  have d7:=List.length_pos_iff.2 T;cases A with
  | none=>have:=(f1 rfl).1;omega
  | some Y=>obtain⟨g,rfl⟩:=f2 Y rfl;exact⟨g,rfl⟩
 have hA:A=none->bs=[]:=λh=>by
  have:=(f1 h).1;exact List.eq_nil_of_length_eq_zero ai
 refine sS<|sB Z<|bg Z<|sM Z<|sM Z<|sM Z ?_
 refine lH rfl (JD (bs:=bs) rfl rfl rfl (λY h=>by obtain⟨g,rfl⟩:=f2 Y h;exact⟨g,0,rfl⟩) rfl) (JU (Reads.row (c:=c) I) hA bM) ?_;refine sP (bT (cs:=(nl ⟨kind,name,dN bs⟩).toArray) Z Z Z Z Z) ?_;refine ch Z (uJ (o:=⟨kind,name,dN bs⟩) (by rw[kF];exact O) hp) aN ?_;rintro v m ⟨hv,rfl⟩;refine ae<|sB Z<|sQ<|bg Z<|sP (bh Z Z)<|sM Z<|sN<|aj ?_
 refine aL (X:=Nat×List Value) (λx=>[(20,.int .i64 x.1),(19,.int .i64 bs.length),(3,.slice A bs.length c),(9,v)]) (λx=>row 5 1 (.slice A bs.length c) bs.length x.2::ar d (σ.tell ⟨kind,name,dN bs⟩).1::fr) (λx=>x.1<=bs.length) (λx=>bs.length-x.1) (0,cw bs) (Nat.zero_le _) cf gfE1 ?_;rintro⟨k,ys⟩ hk;simp only at hk ⊢;refine sS<|sP (bB Z Z Z)<|sN<|sQ ?_
 refine aA Z (λd6=>?_) λd6=>?_
 ·
  have K:k<bs.length:=ai;obtain⟨g,rfl⟩:=I (by rintro rfl;simp at K);refine ah<|sT<|sQ<|aj<|bg Z<|sB Z<|sG<|sM Z<|cG Z (bp (z:=1) Z Z Z Z K) ?_
  refine sO<|fL .head Z Z Z Z ai ?_
  refine aq<|am<|sT<|sG<|sP (aT (r:=((k+1:Nat):Int)) Z Z eg)<|sM Z<|aq ?_
  exact aC (k+1,_) (by simp only;omega) (by simp only;omega) cf aN
 ·
  exact aK<|av<|au<|ao<|sT<|bg Z<|sB Z<|an<|aw [_] rfl Z ⟨hv,rfl⟩ Ent.drop
theorem zI (I:FK.vol σ.now+bs.length<=9223372036854775807) (K:σ.pend.length<=1099511627776) (O:bs.length<=1099511627776):dZ G 259 [aX d,bY name,u] [ar d σ,bP u bs] λv m=>v=dO (σ.tell ⟨2,name,dN bs⟩).2/\m=[ar d (σ.tell ⟨2,name,dN bs⟩).1]:=by
 refine bz Tryz.func259 Z λE fr Y=>az<|sS<|sB Z<|bg Z<|sM Z<|sM Z ?_
 refine ch Z (vy I K O) aN ?_;rintro v m ⟨T,rfl⟩;exact ae<|sB Z<|an<|aw [_] rfl Z ⟨T,rfl⟩ aN
theorem z8 (I:FK.vol σ.now+bs.length<=9223372036854775807) (K:σ.pend.length<=1099511627776) (O:bs.length<=1099511627776):dZ G 264 [aX d,bY name,u] [ar d σ,bP u bs] λv m=>v=dO (σ.tell ⟨1,name,dN bs⟩).2/\m=[ar d (σ.tell ⟨1,name,dN bs⟩).1]:=by
 refine bz Tryz.func264 Z λE fr Y=>az<|sS<|sB Z<|bg Z<|sM Z<|sM Z ?_
 refine ch Z (vy I K O) aN ?_;rintro v m ⟨T,rfl⟩;exact ae<|sB Z<|an<|aw [_] rfl Z ⟨T,rfl⟩ aN
theorem qq (I:FK.vol σ.now<=9223372036854775807) (K:σ.pend.length<=1099511627776):dZ G 262 [aX d,bY name] [ar d σ] λv m=>v=dO (σ.tell ⟨3,name,⟨#[]⟩⟩).2/\m=[ar d (σ.tell ⟨3,name,⟨#[]⟩⟩).1]:=by
 refine bz Tryz.func262 Z λE fr T=>ae<|sS<|sB Z<|bg Z<|cG Z (bT (cs:=(nl ⟨3,name,⟨#[]⟩⟩).toArray) Z Z Z Z Z) ?_
 refine ch Z (uJ (o:=⟨3,name,⟨#[]⟩⟩) I K) aN ?_;rintro v m ⟨O,rfl⟩;exact ae<|sB Z<|an<|aw [_] rfl Z ⟨O,rfl⟩ aN
theorem I4 {i:Nat} (h:l[i]?=some o) (j:Nat) (u:Value) (E:(nl o)[j]?=some u):(ix l)[0+i*3+j]?=some u:=by
 rw[Nat.zero_add];exact gW (k:=3) (λ_=>rfl) j h E
theorem DV {k:Nat} (h:l[k]?=some o):FK.fR (l.take k)+o.data.size<=FK.fR l:=by
 have E:l.take (k+1)=l.take k++[o]:=by rw[List.take_add_one,h];rfl
 have I:l=l.take (k+1)++l.drop (k+1):=(List.take_append_drop _ _).symm;have h3:∀a b:List FK.DOp,FK.fR (a++b)=FK.fR a+FK.fR b:=λa b=>by simp[FK.fR]
 have K:FK.fR [o]=o.data.size:=by simp[FK.fR]
 have O:FK.fR l=FK.fR (l.take k)+o.data.size+FK.fR (l.drop (k+1)):=by
  conv=>lhs;rw[I,E]
  rw[h3,h3,K]
 omega
theorem jy (d6:FK.vol σ.dur+FK.fR σ.pend<=9223372036854775807) (hp:σ.pend.length<=1099511627776):dZ G 263 [aX d] [ar d σ] λv m=>v=dO σ.sync.2/\m=[ar d σ.sync.1]:=by
 have d7:FK.vol σ.writes.1.dur+FK.fR σ.writes.1.pend<=9223372036854775807:=by
  have:σ.writes.1.dur=σ.dur/\σ.writes.1.pend=σ.pend:=by unfold FK.Dsk.writes;split;exact⟨rfl,rfl⟩;split<;>exact⟨rfl,rfl⟩
  rw[this.1,this.2];exact d6
 have d9:σ.writes.1.pend.length<=1099511627776:=by
  have:σ.writes.1.pend=σ.pend:=by unfold FK.Dsk.writes;split;rfl;split<;>rfl
  rw[this];exact hp
 have K:σ.sync=if σ.writes.2≠0 then σ.writes else({σ.writes.1 with dur:=σ.writes.1.pend.foldl FK.ea σ.writes.1.dur,pend:=[]},0):=rfl
 clear d6 hp;refine bz Tryz.func263 Z λE fr hE=>ae<|sS<|sB Z<|sQ<|bg Z ?_
 refine ch Z qh aN ?_;rintro v m ⟨hv,rfl⟩;refine ae ?_
 generalize σ.writes=ω at *
 obtain⟨⟨dur,now,pend,left,full,down⟩,e⟩:=ω;simp only at d7 d9 hv ⊢;refine sB Z<|sQ ?_
 by_cases HE:e=0
 ·
  subst HE;subst hv;refine sG<|cG Z (cS Z Z)<|sN<|ak Z<|ah<|sT<|sQ<|sQ ?_
  refine cN .head λq=>bl ?_;obtain⟨md,I,pv,P⟩:=q;refine al (l':=mR d ⟨md,I,pv,P⟩ ⟨dur,now,pend,left,full,down⟩ fr) aN ?_;refine aI (HasVal.sel (v:=pv)) ?_;rintro A c rfl f1 f2 f3 f4 -
  refine al (l':=blk d 88 (gR ⟨md,I,.slice A pend.length c,P⟩ ⟨dur,now,pend,left,full,down⟩)::bI md P dur::bI I P now::fd P::row 113 3 (.slice A pend.length c) pend.length (ix pend)::fr) aN ?_;refine sG<|dS 2 Z Z<|aE Z Z Z Z<|sP (bh Z Z)<|sM Z<|sN<|aj ?_
  refine aL (X:=Nat×List (Nat×ByteArray)) (λx=>[(16,.int .i64 x.1),(15,.int .i64 pend.length),(14,.slice A pend.length c),(0,aX d)]) (λx=>bI md x.2 ((pend.take x.1).foldl FK.ea dur)::bI I x.2 now::fd x.2::row 113 3 (.slice A pend.length c) pend.length (ix pend)::blk d 88 (gR ⟨md,I,.slice A pend.length c,P⟩ ⟨dur,now,pend,left,full,down⟩)::fr) (λx=>x.1<=pend.length) (λx=>pend.length-x.1) (0,P) (Nat.zero_le _) cf (by show Ent _ (bI md P dur::bI I P now::fd P::_::_::fr);exact ap) ?_;rintro⟨k,O⟩ hk;replace hk:k<=pend.length:=hk;refine al (l':=bI md O ((pend.take k).foldl FK.ea dur)::bI I O now::fd O::row 113 3 (.slice A pend.length c) pend.length (ix pend)::blk d 88 (gR ⟨md,I,.slice A pend.length c,P⟩ ⟨dur,now,pend,left,full,down⟩)::fr) aN ?_;refine sS<|sP (bB Z Z Z)<|sN<|sQ ?_
  refine aA Z (λT=>?_) λT=>?_
  ·
   have Y:k<pend.length:=by have:(k:Int)<(pend.length:Int):=T;omega
   obtain⟨o,ho⟩:∃o,pend[k]?=some o:=⟨pend[k],by simp[Y]⟩;obtain⟨g,rfl⟩:∃g,A=some ⟨g,0,none⟩:=by
    cases A with
    | none=>have h0:pend.length=0:=(f1 rfl).1;omega
    | some ad=>obtain⟨g,rfl⟩:=f2 ad rfl;exact⟨g,rfl⟩
   have mt:=DV ho;have f7:=FK.rS (pend.take k) dur;have f8:(pend.take (k+1)).foldl FK.ea dur=FK.ea ((pend.take k).foldl FK.ea dur) o:=by rw[List.take_add_one,ho,List.foldl_append];rfl
   refine ah<|sT<|sQ<|aj<|sS<|sP (bp (z:=3) Z Z Z Z Y) ?_
   refine cE (bR (vs:=nl o) Z) (mO gC λj u hj=>I4 ho j u hj) ?_;refine sO (cX (z:=.agg #[.int .i64 0,.string .empty,.string .empty]) Z λb5=>?_);refine sO<|aZ (vs:=nl o) Z (m:=3) Z Z Z Z fx (by show 0+3<=3;omega) ?_
   refine aD b5 (nl o).toArray Z<|sN<|sZ Z<|eI Z Z<|dv 0 Z Z Z<|bZ Z (aF Z) (ag Z)<|bZ Z (bR (vs:=nl o) Z) (aR Z) ?_
   refine cK 5 Z<|cF Z (wz (mb:=md) (P:=O) (fs:=(pend.take k).foldl FK.ea dur) (o:=o) (λ_ w hw=>by have:=FK.oD hw;omega)) (aY bM dj) ?_
   rintro v m ⟨rfl,P2,d8,rfl⟩;refine az<|dK [false,false] ab<|dE<|am<|sT<|sG<|sP (aT (r:=((k+1:Nat):Int)) Z Z eg)<|sM Z<|aq ?_
   exact aC (k+1,P2) Y (by show pend.length-(k+1)<pend.length-k;omega) cf (by rw[f8];exact(gfE3.trans (ly d8)).trans (by show Ent (bI I P2 now::_::_::_::_::_::fr) _;exact ap))
  ·
   have f9:k=pend.length:=by have:¬(k:Int)<(pend.length:Int):=T;omega
   rw[f9,List.take_length];refine aK<|av<|au<|ao<|sT<|sS<|dS 2 Z Z ?_
   refine bK Z Z Z Z ii ?_;refine sN<|sS<|sB Z<|an ?_
   have ht:σ.sync=(⟨pend.foldl FK.ea dur,now,[],left,full,down⟩,0):=by rw[K,if_neg cP]
   rw[ht];refine aD d (gR ⟨md,I,.slice none 0 0,O⟩ ⟨pend.foldl FK.ea dur,now,[],left,full,down⟩) Z<|aw [ar d ⟨pend.foldl FK.ea dur,now,[],left,full,down⟩] rfl Z ⟨rfl,rfl⟩ ?_
   refine Ent.trans ?_<|cO ⟨md,I,.slice none 0 0,O⟩ ⟨pend.foldl FK.ea dur,now,[],left,full,down⟩
   refine(Ent.row0 (e:=113) (size:=3)).trans ?_;show Ent _ (blk d 88 (gR ⟨md,I,.slice none 0 0,O⟩ ⟨pend.foldl FK.ea dur,now,[],left,full,down⟩)::bI md O (pend.foldl FK.ea dur)::bI I O now::fd O::row 113 3 (.slice none 0 0) 0 []::fr);exact ap
 ·
  replace hv:=hv.trans (if_neg HE);subst hv;refine sG<|cG Z (fj Z Z)<|sN<|aO Z<|bg Z<|sB Z<|an<|aH ?_
  have ht:σ.sync=(⟨dur,now,pend,left,full,down⟩,e):=by rw[K,if_pos HE]
  rw[ht];exact aw [_] rfl Z ⟨(if_neg HE).symm,rfl⟩ aN
end
end Go.Y

namespace Go.Proofs
open Go.Shelf
def pw:Go.Shelf.Ren:=⟨fun|171=>133|243=>159|246=>191|283=>213|284=>214|285=>215|286=>216|129=>171|317=>231|318=>232|319=>233|320=>109|337=>148|338=>149|n=>n,fun|3=>3|9=>9|2=>2|4=>4|171=>326|0=>0|53=>30|37=>61|5=>5|173=>328|212=>348|51=>243|20=>20|213=>349|46=>59|232=>296|233=>297|n=>n,fun|17=>5|18=>1|19=>2|n=>n⟩
theorem ul:Go.Proofs.LaysM.n171 Tryz.prog pw:={
 mixed:=by kernel_rfl
 f129:=Tryz.func171.trans (congrArg some (by kernel_rfl))
 f171:=Tryz.func133.trans (congrArg some (by kernel_rfl))
 f243:=Tryz.func159.trans (congrArg some (by kernel_rfl))
 f246:=Tryz.func191.trans (congrArg some (by kernel_rfl))
 f283:=Tryz.func213.trans (congrArg some (by kernel_rfl))
 f284:=Tryz.func214.trans (congrArg some (by kernel_rfl))
 f285:=Tryz.func215.trans (congrArg some (by kernel_rfl))
 f286:=Tryz.func216.trans (congrArg some (by kernel_rfl))
 f317:=Tryz.func231.trans (congrArg some (by kernel_rfl))
 f318:=Tryz.func232.trans (congrArg some (by kernel_rfl))
 f319:=Tryz.func233.trans (congrArg some (by kernel_rfl))
 f320:=Tryz.func109.trans (congrArg some (by kernel_rfl))
 f337:=Tryz.func148.trans (congrArg some (by kernel_rfl))
 f338:=Tryz.func149.trans (congrArg some (by kernel_rfl))
 t0:=Tryz.underlying0
 a0:=Tryz.isAgg0
 z0:=Tryz.sizeOf0
 v0:=Tryz.zeroValue0
 t2:=Tryz.underlying2
 a2:=Tryz.isAgg2
 z2:=Tryz.sizeOf2
 v2:=Tryz.zeroValue2
 t3:=Tryz.underlying3
 a3:=Tryz.isAgg3
 z3:=Tryz.sizeOf3
 v3:=Tryz.zeroValue3
 t4:=Tryz.underlying4
 a4:=Tryz.isAgg4
 z4:=Tryz.sizeOf4
 v4:=Tryz.zeroValue4
 t5:=Tryz.underlying5
 a5:=Tryz.isAgg5
 z5:=Tryz.sizeOf5
 v5:=Tryz.zeroValue5
 t9:=Tryz.underlying9
 a9:=Tryz.isAgg9
 z9:=Tryz.sizeOf9
 v9:=Tryz.zeroValue9
 t20:=Tryz.underlying20
 a20:=Tryz.isAgg20
 z20:=Tryz.sizeOf20
 v20:=Tryz.zeroValue20
 t37:=Tryz.underlying61
 a37:=Tryz.isAgg61
 z37:=Tryz.sizeOf61
 v37:=Tryz.zeroValue61
 t46:=Tryz.underlying59
 a46:=Tryz.isAgg59
 z46:=Tryz.sizeOf59
 v46:=Tryz.zeroValue59
 t51:=Tryz.underlying243
 a51:=Tryz.isAgg243
 z51:=Tryz.sizeOf243
 v51:=Tryz.zeroValue243
 t53:=Tryz.underlying30
 a53:=Tryz.isAgg30
 z53:=Tryz.sizeOf30
 v53:=Tryz.zeroValue30
 t171:=Tryz.underlying326
 a171:=Tryz.isAgg326
 z171:=Tryz.sizeOf326
 v171:=Tryz.zeroValue326
 t173:=Tryz.underlying328
 a173:=Tryz.isAgg328
 z173:=Tryz.sizeOf328
 v173:=Tryz.zeroValue328
 t212:=Tryz.underlying348
 a212:=Tryz.isAgg348
 z212:=Tryz.sizeOf348
 v212:=Tryz.zeroValue348
 t213:=Tryz.underlying349
 a213:=Tryz.isAgg349
 z213:=Tryz.sizeOf349
 t232:=Tryz.underlying296
 a232:=Tryz.isAgg296
 z232:=Tryz.sizeOf296
 v232:=Tryz.zeroValue296
 t233:=Tryz.underlying297
 a233:=Tryz.isAgg297
 z233:=Tryz.sizeOf297
 v233:=Tryz.zeroValue297
 g17:=by kernel_rfl
 g18:=by kernel_rfl
 g19:=by kernel_rfl
 i0:=by kernel_rfl
 i2:=by kernel_rfl
 i3:=by kernel_rfl
 i4:=by kernel_rfl
 i5:=by kernel_rfl
 i9:=by kernel_rfl
 i20:=by kernel_rfl
 i37:=by kernel_rfl
 i46:=by kernel_rfl
 i51:=by kernel_rfl
 i53:=by kernel_rfl
 i171:=by kernel_rfl
 i173:=by kernel_rfl
 i212:=by kernel_rfl
 i232:=by kernel_rfl
 i233:=by kernel_rfl
 m17:=by kernel_rfl
 m18:=by kernel_rfl
 m19:=by kernel_rfl}
open Go.RowKit Go.Sort Go.Lib in
theorem pr (n:Int) (h0:-9223372036854775808<=n) (h1:n<=9223372036854775807) (w:World) (htab:Lib.TabIs Tryz.prog w "internal/strconv.uint64pow10" .u64 Lib.pow10Tab) :
 Calls Tryz.prog 133 #[.int .i64 n] w λe w'=>e=.returned (.string ⟨(Lib.itoa n).toArray⟩)/\∃k os,w'=grow (w.drewN k) os:=Any.strconv_Itoa ul n h0 h1 w htab
def px:Go.Shelf.Ren:=⟨fun|172=>96|244=>137|245=>138|247=>163|279=>164|280=>165|281=>166|282=>167|287=>194|316=>195|171=>133|205=>196|321=>226|322=>227|243=>159|246=>191|283=>213|284=>214|285=>215|286=>216|129=>171|317=>231|318=>232|319=>233|320=>109|337=>148|338=>149|n=>n,fun|9=>9|3=>3|75=>71|76=>180|4=>4|5=>5|167=>277|37=>61|0=>0|85=>278|2=>2|168=>280|53=>30|175=>98|46=>59|210=>312|127=>338|145=>341|143=>339|21=>21|171=>326|173=>328|212=>348|51=>243|20=>20|213=>349|232=>296|233=>297|80=>354|n=>n,fun|15=>3|16=>4|17=>5|18=>1|19=>2|n=>n⟩
theorem um:Go.Proofs.LaysC.n172 Tryz.prog px:={
 mixed:=by kernel_rfl
 f129:=Tryz.func171.trans (congrArg some (by kernel_rfl))
 f171:=Tryz.func133.trans (congrArg some (by kernel_rfl))
 f172:=Tryz.func96.trans (congrArg some (by kernel_rfl))
 f205:=Tryz.func196.trans (congrArg some (by kernel_rfl))
 f243:=Tryz.func159.trans (congrArg some (by kernel_rfl))
 f244:=Tryz.func137.trans (congrArg some (by kernel_rfl))
 f245:=Tryz.func138.trans (congrArg some (by kernel_rfl))
 f246:=Tryz.func191.trans (congrArg some (by kernel_rfl))
 f247:=Tryz.func163.trans (congrArg some (by kernel_rfl))
 f279:=Tryz.func164.trans (congrArg some (by kernel_rfl))
 f280:=Tryz.func165.trans (congrArg some (by kernel_rfl))
 f281:=Tryz.func166.trans (congrArg some (by kernel_rfl))
 f282:=Tryz.func167.trans (congrArg some (by kernel_rfl))
 f283:=Tryz.func213.trans (congrArg some (by kernel_rfl))
 f284:=Tryz.func214.trans (congrArg some (by kernel_rfl))
 f285:=Tryz.func215.trans (congrArg some (by kernel_rfl))
 f286:=Tryz.func216.trans (congrArg some (by kernel_rfl))
 f287:=Tryz.func194.trans (congrArg some (by kernel_rfl))
 f316:=Tryz.func195.trans (congrArg some (by kernel_rfl))
 f317:=Tryz.func231.trans (congrArg some (by kernel_rfl))
 f318:=Tryz.func232.trans (congrArg some (by kernel_rfl))
 f319:=Tryz.func233.trans (congrArg some (by kernel_rfl))
 f320:=Tryz.func109.trans (congrArg some (by kernel_rfl))
 f321:=Tryz.func226.trans (congrArg some (by kernel_rfl))
 f322:=Tryz.func227.trans (congrArg some (by kernel_rfl))
 f337:=Tryz.func148.trans (congrArg some (by kernel_rfl))
 f338:=Tryz.func149.trans (congrArg some (by kernel_rfl))
 t0:=Tryz.underlying0
 a0:=Tryz.isAgg0
 z0:=Tryz.sizeOf0
 v0:=Tryz.zeroValue0
 t2:=Tryz.underlying2
 a2:=Tryz.isAgg2
 z2:=Tryz.sizeOf2
 v2:=Tryz.zeroValue2
 t3:=Tryz.underlying3
 a3:=Tryz.isAgg3
 z3:=Tryz.sizeOf3
 v3:=Tryz.zeroValue3
 t4:=Tryz.underlying4
 a4:=Tryz.isAgg4
 z4:=Tryz.sizeOf4
 v4:=Tryz.zeroValue4
 t5:=Tryz.underlying5
 a5:=Tryz.isAgg5
 z5:=Tryz.sizeOf5
 v5:=Tryz.zeroValue5
 t9:=Tryz.underlying9
 a9:=Tryz.isAgg9
 z9:=Tryz.sizeOf9
 v9:=Tryz.zeroValue9
 t20:=Tryz.underlying20
 a20:=Tryz.isAgg20
 z20:=Tryz.sizeOf20
 v20:=Tryz.zeroValue20
 t21:=Tryz.underlying21
 a21:=Tryz.isAgg21
 z21:=Tryz.sizeOf21
 v21:=Tryz.zeroValue21
 t37:=Tryz.underlying61
 a37:=Tryz.isAgg61
 z37:=Tryz.sizeOf61
 v37:=Tryz.zeroValue61
 t46:=Tryz.underlying59
 a46:=Tryz.isAgg59
 z46:=Tryz.sizeOf59
 v46:=Tryz.zeroValue59
 t51:=Tryz.underlying243
 a51:=Tryz.isAgg243
 z51:=Tryz.sizeOf243
 v51:=Tryz.zeroValue243
 t53:=Tryz.underlying30
 a53:=Tryz.isAgg30
 z53:=Tryz.sizeOf30
 v53:=Tryz.zeroValue30
 t75:=Tryz.underlying71
 a75:=Tryz.isAgg71
 z75:=Tryz.sizeOf71
 v75:=Tryz.zeroValue71
 t76:=Tryz.underlying180
 a76:=Tryz.isAgg180
 z76:=Tryz.sizeOf180
 v76:=Tryz.zeroValue180
 t85:=Tryz.underlying278
 a85:=Tryz.isAgg278
 z85:=Tryz.sizeOf278
 v85:=Tryz.zeroValue278
 t127:=Tryz.underlying338
 a127:=Tryz.isAgg338
 z127:=Tryz.sizeOf338
 v127:=Tryz.zeroValue338
 t143:=Tryz.underlying339
 a143:=Tryz.isAgg339
 z143:=Tryz.sizeOf339
 v143:=Tryz.zeroValue339
 t145:=Tryz.underlying341
 a145:=Tryz.isAgg341
 z145:=Tryz.sizeOf341
 v145:=Tryz.zeroValue341
 t167:=Tryz.underlying277
 a167:=Tryz.isAgg277
 z167:=Tryz.sizeOf277
 v167:=Tryz.zeroValue277
 t168:=Tryz.underlying280
 a168:=Tryz.isAgg280
 z168:=Tryz.sizeOf280
 v168:=Tryz.zeroValue280
 t171:=Tryz.underlying326
 a171:=Tryz.isAgg326
 z171:=Tryz.sizeOf326
 v171:=Tryz.zeroValue326
 t173:=Tryz.underlying328
 a173:=Tryz.isAgg328
 z173:=Tryz.sizeOf328
 v173:=Tryz.zeroValue328
 t175:=Tryz.underlying98
 a175:=Tryz.isAgg98
 z175:=Tryz.sizeOf98
 v175:=Tryz.zeroValue98
 t210:=Tryz.underlying312
 a210:=Tryz.isAgg312
 z210:=Tryz.sizeOf312
 v210:=Tryz.zeroValue312
 t212:=Tryz.underlying348
 a212:=Tryz.isAgg348
 z212:=Tryz.sizeOf348
 v212:=Tryz.zeroValue348
 t213:=Tryz.underlying349
 a213:=Tryz.isAgg349
 z213:=Tryz.sizeOf349
 t232:=Tryz.underlying296
 a232:=Tryz.isAgg296
 z232:=Tryz.sizeOf296
 v232:=Tryz.zeroValue296
 t233:=Tryz.underlying297
 a233:=Tryz.isAgg297
 z233:=Tryz.sizeOf297
 v233:=Tryz.zeroValue297
 g15:=by kernel_rfl
 g16:=by kernel_rfl
 g17:=by kernel_rfl
 g18:=by kernel_rfl
 g19:=by kernel_rfl
 t80:=Tryz.underlying354
 a80:=Tryz.isAgg354
 z80:=Tryz.sizeOf354
 v80:=Tryz.zeroValue354
 i0:=by kernel_rfl
 i2:=by kernel_rfl
 i3:=by kernel_rfl
 i4:=by kernel_rfl
 i5:=by kernel_rfl
 i9:=by kernel_rfl
 i20:=by kernel_rfl
 i21:=by kernel_rfl
 i37:=by kernel_rfl
 i46:=by kernel_rfl
 i51:=by kernel_rfl
 i53:=by kernel_rfl
 i75:=by kernel_rfl
 i76:=by kernel_rfl
 i80:=by kernel_rfl
 i85:=by kernel_rfl
 i127:=by kernel_rfl
 i143:=by kernel_rfl
 i145:=by kernel_rfl
 i167:=by kernel_rfl
 i168:=by kernel_rfl
 i171:=by kernel_rfl
 i173:=by kernel_rfl
 i175:=by kernel_rfl
 i210:=by kernel_rfl
 i212:=by kernel_rfl
 i232:=by kernel_rfl
 i233:=by kernel_rfl
 m15:=by kernel_rfl
 m16:=by kernel_rfl
 m17:=by kernel_rfl
 m18:=by kernel_rfl
 m19:=by kernel_rfl
 c0:=by kernel_rfl
 c2:=by kernel_rfl
 c3:=by kernel_rfl
 c4:=by kernel_rfl
 c5:=by kernel_rfl
 c9:=by kernel_rfl
 c20:=by kernel_rfl
 c21:=by kernel_rfl
 c37:=by kernel_rfl
 c46:=by kernel_rfl
 c51:=by kernel_rfl
 c53:=by kernel_rfl
 c75:=by kernel_rfl
 c76:=by kernel_rfl
 c80:=by kernel_rfl
 c85:=by kernel_rfl
 c127:=by kernel_rfl
 c143:=by kernel_rfl
 c145:=by kernel_rfl
 c167:=by kernel_rfl
 c168:=by kernel_rfl
 c171:=by kernel_rfl
 c173:=by kernel_rfl
 c175:=by kernel_rfl
 c210:=by kernel_rfl
 c212:=by kernel_rfl
 c213:=by kernel_rfl
 c232:=by kernel_rfl
 c233:=by kernel_rfl}
open Go.RowKit in
theorem mL (s:ByteArray) (hl:s.size<=18) (h:Lib.atoi s.data.toList=none) (ev:Value) (w:World) (hv:w.cell? ⟨3,0,none⟩=some ev) (hev:ev=.nilIface\/∃te pe,ev=.iface te pe) :
 Calls Tryz.prog 96 #[.string s] w λe w'=>∃N,e=.returned (.tuple #[.int .i64 0,.iface 280 (.pointer (some ⟨N,0,none⟩))])/\w.heap.size<=N/\w'.heap[N]?=some (.cells #[.string ⟨#[65,116,111,105]⟩,.string s,ev] 312 (0,0))/\Below w.heap.size w w':=Any.strconv_Atoi_err um s hl h ev w hv hev
end Go.Proofs

namespace FK
structure Jn where
 n:Nat
 torn:Bool
 broken:Int
def mS (n:Nat):ByteArray:=⟨(Go.Lib.decDigits n).toArray⟩
def bw (n:Nat):ByteArray:=⟨#[108,111,103]⟩++mS n
def aW (n:Nat):ByteArray:=⟨#[98,97,115,101]⟩++mS n
def Jn.add (J:Jn) (σ:Dsk) (s:ByteArray):Jn×Dsk×Int:=
 if J.broken≠0 then(J,σ,J.broken) else if (σ.tell ⟨2,bw J.n,s⟩).2≠0 then({J with broken:=(σ.tell ⟨2,bw J.n,s⟩).2},(σ.tell ⟨2,bw J.n,s⟩).1,(σ.tell ⟨2,bw J.n,s⟩).2)
 else({J with broken:=(σ.tell ⟨2,bw J.n,s⟩).1.sync.2},(σ.tell ⟨2,bw J.n,s⟩).1.sync.1,(σ.tell ⟨2,bw J.n,s⟩).1.sync.2)
end FK
namespace Go.Y
open Go.Proofs
open Go Go.RowKit Go.SL
variable {G:Env->Prop}
theorem lK (e:Int):(dO e).oneCell'=true:=by
 unfold dO
 split<;>rfl
theorem mc {P:Program} {ts:List (Nat×Value)} {x:Operand} {t:TypeId} {v:Value} (E:ev ts x=some (.iface t v)):Ev P ts (.nilCheck x) (.iface t v) Any:=by
 intro a w _ _ _ _ _ k _;simp[execOp,k.eval E]
theorem Jj (p:Addr) (w:World):(Go.method (Tryz.prog.types.size+Made.depth) 66 (.pointer (some p)) "Append").run Tryz.prog w=.ok (259,.pointer (some p)) w:=by kernel_rfl
theorem rE (p:Addr) (w:World):(Go.method (Tryz.prog.types.size+Made.depth) 66 (.pointer (some p)) "Sync").run Tryz.prog w=.ok (263,.pointer (some p)) w:=by kernel_rfl
theorem FJ (p:Addr) (w:World):(Go.method (Tryz.prog.types.size+Made.depth) 66 (.pointer (some p)) "Names").run Tryz.prog w=.ok (260,.pointer (some p)) w:=by kernel_rfl
theorem E5 (p:Addr) (w:World):(Go.method (Tryz.prog.types.size+Made.depth) 66 (.pointer (some p)) "Read").run Tryz.prog w=.ok (261,.pointer (some p)) w:=by kernel_rfl
theorem KW (p:Addr) (w:World):(Go.method (Tryz.prog.types.size+Made.depth) 66 (.pointer (some p)) "Write").run Tryz.prog w=.ok (264,.pointer (some p)) w:=by kernel_rfl
theorem Cw (p:Addr) (w:World):(Go.method (Tryz.prog.types.size+Made.depth) 66 (.pointer (some p)) "Remove").run Tryz.prog w=.ok (262,.pointer (some p)) w:=by kernel_rfl
abbrev nY (d:Nat) (J:FK.Jn):Array Value:=#[.iface 66 (aX d),.int .i64 J.n,.bool J.torn,dO J.broken]
abbrev aM (j d:Nat) (J:FK.Jn):HP:=blk j 163 (nY d J)
theorem Ej {n:Nat} (O:n<1000000):eh 133 [.int .i64 n] [] λv m=>v=bY (FK.mS n)/\m=[]:=
 (ge (G:=Good) (φ:=λ_=>True) λ_ w E hw _=>(pr n ai ai w (E.pow w hw)).mono λ_ _ ⟨I,k,os,K⟩=>⟨by rw[I,Lib.itoa_nonneg];rfl,by rw[K];exact Lib.below_grow _ _ (cm _) k os⟩).does
theorem yh (n:Nat) (E:n<1000000):(FK.mS n).size<=21:=by
 have h:=Lib.itoa_length_le (n:Int) ai ai;rw[Lib.itoa_nonneg] at h;have e:(FK.mS n).size=(Lib.decDigits n).length:=by
  show(Lib.decDigits n).toArray.size=_;simp
 omega
theorem gK {kind:ByteArray} {n:Nat} (I:n<1000000) (K:kind.size<=1000):eh 82 [bY kind,.int .i64 n] [] λv m=>v=bY (kind++FK.mS n)/\m=[]:=by
 have hd:=yh n I;refine bz Tryz.func82 Z λE fr O=>aB<|sS<|sB Z<|bg Z<|sM Z ?_
 refine bV Z (Ej I) aN ?_;exact aB<|sP (vt Z Z ai)<|sB Z<|an<|aw [] rfl Z ⟨rfl,rfl⟩ aN
theorem il (bs:List UInt8) (h:bs.length<=1099511627776):(FK.frame bs).length<=bs.length+14:=by
 have:=gq (n:=bs.length) ai;unfold FK.frame FK.jp;simp;omega
structure Roomy (σ:FK.Dsk):Prop where
 now:FK.vol σ.now<=4611686018427387904
 dur:FK.vol σ.dur+FK.fR σ.pend<=4611686018427387904
 pend:σ.pend.length<=1000000000000
theorem Ao (σ:FK.Dsk) (o:FK.DOp):((σ.tell o).1.dur=σ.dur)/\((σ.tell o).1.pend=σ.pend\/(σ.tell o).1.pend=σ.pend++[o])/\((σ.tell o).1.now=σ.now\/(σ.tell o).1.now=FK.ea σ.now o):=by
 have hw:σ.writes.1.now=σ.now/\σ.writes.1.dur=σ.dur/\σ.writes.1.pend=σ.pend:=by
  unfold FK.Dsk.writes;split
  · exact⟨rfl,rfl,rfl⟩
  · split<;>exact⟨rfl,rfl,rfl⟩
 unfold FK.Dsk.tell
 split
 · exact⟨hw.2.1,.inr (by show σ.writes.1.pend++[o]=_;rw[hw.2.2]),.inl hw.1⟩
 · split
   · exact⟨hw.2.1,.inl hw.2.2,.inl hw.1⟩
   · split
     · exact⟨hw.2.1,.inl hw.2.2,.inl hw.1⟩
     · exact⟨hw.2.1,.inr (by show σ.writes.1.pend++[o]=_;rw[hw.2.2]),.inr (by show FK.ea σ.writes.1.now o=_;rw[hw.1])⟩
theorem ym {j d:Nat} {J:FK.Jn} {σ:FK.Dsk} {p:HP} {A:Option Addr} {bs:List UInt8} (c:Nat) (hn:J.n<1000000) (hp:Reads p A bs) (hA:A=none->bs=[]) (hl:bs.length<=1000000000000) (hr:Roomy σ):eh 65 [aX j,.slice A bs.length c] [aM j d J,ar d σ,p] λv m=>v=dO (J.add σ (dN (FK.frame bs))).2.2/\m=[aM j d (J.add σ (dN (FK.frame bs))).1,ar d (J.add σ (dN (FK.frame bs))).2.1,p]:=by
 have f8:=il bs ai;have h1:=hr.now;have h2:=hr.dur;have h3:=hr.pend;refine bz Tryz.func65 Z λE fr hE=>cD<|sS<|sB Z<|sQ<|sQ ?_
 by_cases Y:J.broken=0
 ·
  have I:J.add σ (dN (FK.frame bs))=if (σ.tell ⟨2,FK.bw J.n,(dN (FK.frame bs))⟩).2≠0 then({J with broken:=(σ.tell ⟨2,FK.bw J.n,(dN (FK.frame bs))⟩).2},(σ.tell ⟨2,FK.bw J.n,(dN (FK.frame bs))⟩).1,(σ.tell ⟨2,FK.bw J.n,(dN (FK.frame bs))⟩).2) else({J with broken:=(σ.tell ⟨2,FK.bw J.n,(dN (FK.frame bs))⟩).1.sync.2},(σ.tell ⟨2,FK.bw J.n,(dN (FK.frame bs))⟩).1.sync.1,(σ.tell ⟨2,FK.bw J.n,(dN (FK.frame bs))⟩).1.sync.2):=by unfold FK.Jn.add;rw[if_neg (by rw[Y];simp)]
  refine aD j #[.iface 66 (aX d),.int .i64 J.n,.bool J.torn,.nilIface] (by unfold nY dO;rw[if_pos Y]) ?_;refine sG<|dS 3 Z Z<|aE Z Z Z Z<|sP (jM Z Z)<|sN<|aO Z<|sZ Z<|eI Z Z<|cJ Z Z<|dv 0 Z Z Z<|bZ Z (aF Z) (ag Z)<|cJ Z Z<|dv 1 Z Z Z<|bZ Z (aF Z) (ag Z)<|dr 10 Z (bn Z) ?_
  refine dr 12 Z (mc Z)<|cJ Z Z ?_
  refine cK 9 Z<|cF Z (gK (kind:=⟨#[108,111,103]⟩) hn di) aN ?_
  rintro v m ⟨rfl,rfl⟩;refine aB<|dK [false,true] (aa (ag Z) ab) ?_
  refine cK 11 Z<|cF Z (qB c hp hA ai) gfE2 ?_
  rintro v m rfl;refine az<|dK [true] (aa (ag Z) ab) ?_
  refine cK 14 Z<|fm Z Z Z (Jj ⟨d,0,none⟩) Z hE (zI (name:=FK.bw J.n) ai ai ai) (aY gC .head) ?_
  rintro v m ⟨rfl,rfl⟩;refine ae ?_;obtain⟨ω,hω⟩:∃ω,ω=σ.tell ⟨2,FK.bw J.n,(dN (FK.frame bs))⟩:=⟨_,rfl⟩;have K:=Ao σ ⟨2,FK.bw J.n,(dN (FK.frame bs))⟩;rw[<-hω] at K I ⊢;obtain⟨O,e1⟩:=ω;have d7:(dN (FK.frame bs)).size=(FK.frame bs).length:=kF _;obtain⟨d6,T,-⟩:=K;have d8:FK.fR (σ.pend++[⟨2,FK.bw J.n,(dN (FK.frame bs))⟩])=FK.fR σ.pend+(FK.frame bs).length:=by simp[FK.fR,d7]
  have d9:FK.vol O.dur+FK.fR O.pend<=9223372036854775807:=by
   simp only at d6 T;rw[d6];rcases T with h|h<;>rw[h]
   · omega
   · rw[d8];omega
  have f7:O.pend.length<=1099511627776:=by
   simp only at T;rcases T with h|h<;>rw[h]
   · omega
   · rw[List.length_append];simp;omega
  refine dK [true] (aa (ag Z) ab)<|dr 15 Z (cv Z)<|bF Z (bL 3 Z) ?_
  refine cK 17 Z<|cp Z Z Z Z (lK _) (by show 3<4;omega) ?_
  refine dK [false] ab<|dE<|sT<|sQ<|sQ ?_
  by_cases HE:e1=0
  ·
   refine aD j #[.iface 66 (aX d),.int .i64 J.n,.bool J.torn,.nilIface] (by show(#[_,_,_,dO e1]:Array Value)=_;unfold dO;rw[if_pos HE]) ?_;have ht:J.add σ (dN (FK.frame bs))=({J with broken:=O.sync.2},O.sync.1,O.sync.2):=by rw[I,if_neg (λh=>h HE)]
   refine sG<|dS 3 Z Z<|aE Z Z Z Z<|sP (jM Z Z)<|sN<|aO Z<|sG<|sM Z<|dS 0 Z Z<|aE Z Z Z Z ?_
   refine sO<|fm Z Z Z (rE ⟨d,0,none⟩) Z hE (jy d9 f7) gfE1 ?_
   rintro v m ⟨rfl,rfl⟩;refine ae<|dA Z<|bX 3 Z<|bK Z Z Z (lK _) (by show 3<4;omega)<|sN<|sS<|dS 3 Z Z ?_
   refine aE Z Z Z Z<|sB Z<|an ?_
   rw[ht];exact aw [aM j d {J with broken:=O.sync.2},ar d O.sync.1,p] rfl Z ⟨rfl,rfl⟩ aN
  ·
   refine aD j #[.iface 66 (aX d),.int .i64 J.n,.bool J.torn,.iface 33 (.int .i64 e1)] (by show(#[_,_,_,dO e1]:Array Value)=_;unfold dO;rw[if_neg HE]) ?_;have ht:J.add σ (dN (FK.frame bs))=({J with broken:=e1},O,e1):=by rw[I,if_pos HE]
   refine sG<|dS 3 Z Z<|aE Z Z Z Z<|sP (dU Z Z)<|sN<|ak Z<|ah<|sT<|sS<|dS 3 Z Z<|aE Z Z Z Z<|sB Z ?_
   refine an ?_;rw[ht];refine aw [aM j d {J with broken:=e1},ar d O,p] rfl Z ⟨(if_neg HE).symm,rfl⟩ ?_;show Ent _ (blk j 163 #[_,_,_,dO e1]::ar d O::p::fr);unfold dO;rw[if_neg HE];exact aN
 ·
  have I:J.add σ (dN (FK.frame bs))=(J,σ,J.broken):=by unfold FK.Jn.add;rw[if_pos Y]
  rw[I];refine aD j #[.iface 66 (aX d),.int .i64 J.n,.bool J.torn,.iface 33 (.int .i64 J.broken)] (by unfold nY dO;rw[if_neg Y]) ?_;refine sG<|dS 3 Z Z<|aE Z Z Z Z<|sP (dU Z Z)<|sN<|ak Z<|ah<|sT<|sQ<|sS<|dS 3 Z Z<|aE Z Z Z Z<|sP (dU Z Z)<|aq ?_
  refine sT<|ak Z<|ah<|sT<|sS<|dS 3 Z Z<|aE Z Z Z Z<|sB Z<|an<|aw [aM j d J,ar d σ,p] rfl Z ⟨(if_neg Y).symm,rfl⟩ ?_
  show Ent _ (blk j 163 #[_,_,_,dO J.broken]::ar d σ::p::fr);unfold dO;rw[if_neg Y];exact aN
end Go.Y

namespace FK
theorem ya {len:Nat}:∀(l:List Int) (p:Int),-1<=p->EdgesOk len p l->∀x∈l,0<=x/\x<len
 | [],_,_,_=>by intro x E;simp at E
 | y::l,p,hp,h=>by
  intro x E;obtain⟨I,K,h3⟩:=h;rcases List.mem_cons.1 E with rfl|E
  · omega
  · exact ya l y ai h3 x E
theorem Fit.after {f:Flow} (h:Fit f):∀nd∈f.Lw,∀x∈nd.after,0<=x/\x<(f.Lw.length:Int):=λnd hnd x E=>by
 obtain⟨i,hi⟩:=List.getElem?_of_mem hnd;exact ya _ _ ai (h.Lw i nd (cB hi) hi).2 x E
theorem Fit.node {f:Flow} (h:Fit f) {nd:Node} (hnd:nd∈f.Lw):ef nd:=by
 obtain⟨i,hi⟩:=List.getElem?_of_mem hnd;exact(h.Lw i nd (cB hi) hi).1
theorem Dq {nd:Node} (h:ef nd) (k:Int) (seed:Nat):0<=fk nd.base nd.cap nd.LA k seed/\fk nd.base nd.cap nd.LA k seed<=2097152:=by
 obtain⟨_,_,_,_,⟨E,b2⟩,⟨I,K⟩,O,T⟩:=h;have Y:0<=(seed:Int)%(nd.LA+1)/\(seed:Int)%(nd.LA+1)<nd.LA+1:=⟨Int.emod_nonneg _ ai,Int.emod_lt_of_pos _ ai⟩;unfold fk;have hp:0<=nd.base*2 ^ (k.toNat-1):=Int.mul_nonneg ai (Int.pow_nonneg ai)
 split
 · omega
 · split
   · have:min nd.cap (nd.base*2 ^ (k.toNat-1))<=nd.cap:=Int.min_le_left _ _
     have:0<=min nd.cap (nd.base*2 ^ (k.toNat-1)):=ai;omega
   · omega
end FK
namespace Go.Y
open Go.Proofs
open Go Go.RowKit Go.SL
section
variable {S:FK.En} {e id k t:Nat} {R:FK.Rn} {p:EA} {nd:FK.Node} {s:FK.Sp} {P:FK.Pl}
theorem DN (E I K k seed:Int):iB E I K k seed=FK.fk E I K k seed:=rfl
theorem pX {f:FK.Flow} (h:FK.Fit f):∀n∈f.Lw,(i64 n.Lz/\i64 n.close/\i64 n.beat/\i64 n.base/\i64 n.cap/\i64 n.LA)/\∀x∈n.after,i64 x:=λn E=>by
 obtain⟨O,T,⟨Y,b2⟩,⟨c1,c2⟩,⟨d1,d2⟩,⟨e1,e2⟩,f1,f2⟩:=h.node E;have K:=h.head.2.2;refine⟨⟨?_,?_,?_,?_,?_,?_⟩,λx I=>?_⟩
 all_goals first|(unfold i64;omega)|(have:=h.after n E x I;unfold i64;omega)
theorem xZ (h:FK.Ok S) {wh:Int} (O:S.getR id=some R) (hs:R.Lv[k]?=some s) (I:S.sets+1<9223372036854775807) (K:S.ends<9223372036854775807):eh 177 [aX e,iW ⟨id,(k:Int),wh⟩] [aG e p S] λv m=>v=.tuple #[]/\m=[aG e p (S.failed id k)]:=by
 obtain⟨nd,hn,hp⟩:=h.node O hs;have Y:=h.run id R O;have hnd:=du hn;have d6:=Y.fl.node hnd;have d8:=Y.fl.head.2.2;have hw:=FK.Dq d6 s.Lu S.seed;have hq:=h.queueLe;have ht:=h.tmsLe;obtain⟨a1,a2,⟨b1,b2⟩,⟨c1,c2⟩,⟨d1,d2⟩,⟨e1,e2⟩,f1,f2⟩:=d6;refine(BB (G:=Good) (wh:=wh) (λE w hE hw=>hE.tab w hw) O hs hn Y.len d8 Y.fl.after (pX Y.fl) ai ai K h.now I h.seed d1 e1 e2 f1 f2 (by rw[DN];omega)).mono ?_;rintro v m ⟨rfl,⟨h1,rfl⟩|⟨h1,left,T,ho,d7,rfl⟩⟩
 · refine⟨_,⟨rfl,rfl⟩,?_⟩
   rw[FK.ku O hs hn,if_pos h1];exact aN
 · refine⟨_,⟨rfl,rfl⟩,?_⟩
   rw[FK.ku O hs hn,if_neg ai,FK.JR h O ho d7];exact aN
theorem Co (h:FK.Ok S) {q:List FK.Pl} (hq:S.Lx=⟨id,(k:Int),0⟩::q) (K:S.getR id=some R) (T:R.Lv[k]?=some s) (O:R.fl.Lw[k]?=some nd) (E:S.sets+1<9223372036854775807) (I:S.Ls<9223372036854775807):eh 71 [aX e] [aG e p S] λv m=>v=.tuple #[jR id k (s.Lu+1) (S.Ls+1),.bool true]/\m=[aG e p (S.hand ⟨id,(k:Int),0⟩ q R s nd)]:=by
 have hp:=(h.run id R K).sp k s nd T O;have Y:=h.tmsLe;obtain⟨a1,a2,⟨b1,b2⟩,⟨c1,c2⟩,_⟩:=(h.run id R K).fl.node (du O);have h1:=hp.tr0;have h2:=hp.trb;exact AO hq K T O h.now ai ai ai E ai I (λt Y=>(h.tlow t Y).2) h1 ai
theorem qI (h:FK.Ok S) (K:(S.Ly.find? (·.1==t)).map (·.2)=some P) (E:S.ends<9223372036854775807):eh 143 [aX e,aV t] [aG e p S] λv m=>v=.tuple #[]/\m=[aG e p (S.complete t)]:=by
 obtain⟨id,k,R,s,n,rfl,O,T,hn,_⟩:=h.find K;have I:=h.run id R O;have hq:=h.queueLe;have Y:=h.tmsLe;have d6:=I.fl.head.2.2;exact uk K O T I.len I.fl.after ai ai ai E
theorem C4 (h:FK.Ok S) {wh:Int} (O:(S.Ly.find? (·.1==t)).map (·.2)=some ⟨id,(k:Int),wh⟩) (I:S.getR id=some R) (K:R.fl.Lw[k]?=some nd) (E:S.sets<9223372036854775807):eh 142 [aX e,aV t] [aG e p S] λv m=>v=.tuple #[]/\m=[aG e p (S.life ⟨id,(k:Int),wh⟩ nd)]:=by
 have T:=h.tmsLe;obtain⟨_,_,_,⟨Y,c2⟩,_⟩:=(h.run id R I).fl.node (du K);exact EL O I K h.now ai E ai
theorem EK (h:FK.Ok S) (I:S.getR id=some R) (E:S.ends<9223372036854775807):eh 145 [aX e,aV id] [aG e p S] λv m=>v=.tuple #[]/\m=[aG e p (S.finish id 4)]:=by
 have K:=h.run id R I;have Y:=h.queueLe;have O:=h.tmsLe;have T:=K.fl.head.2.2;have hl:=K.len;exact zE I ai ai ai E
theorem Er (h:FK.Ok S) (st:Int) (I:S.getR id=some R) (E:S.ends<9223372036854775807):eh 178 [aX e,aV id,.int .i64 st] [aG e p S] λv m=>v=.tuple #[]/\m=[aG e p (S.finish id st)]:=by
 have K:=h.run id R I;have Y:=h.queueLe;have O:=h.tmsLe;have T:=K.fl.head.2.2;have hl:=K.len;exact nh I ai ai ai E
theorem GC (h:FK.Ok S) (E:S.getR id=some R):eh 37 [aX e,aV id] [aG e p S] λv m=>∃I K,v=.tuple #[.agg (dh id R.state I K).toArray,.bool true]/\m=[aG e p S,aU I (R.Lv.map (·.state)),aU K (R.Lv.map (·.Lu))]:=by
 have O:=h.run id R E;have T:=O.fl.head.2.2;have Y:=O.len;exact yL E ai
theorem CP (h:FK.Ok S) (O:(S.Ly.find? (·.1==t)).map (·.2)=some P) (I:S.sets+1<9223372036854775807) (K:S.ends<9223372036854775807):eh 144 [aX e,aV t] [aG e p S] λv m=>v=.tuple #[]/\m=[aG e p (S.fail t)]:=by
 obtain⟨id,k,R,s,n,rfl,T,Y,hn,_⟩:=h.find O;rw[FK.oJ O];refine bz Tryz.func144 Z λE fr hE=>ae<|sG<|sM Z<|dS 2 Z Z ?_
 refine cE (aF (v:=.map (some p.tm)) Z) (bc λ_ _ _=>rfl) ?_;refine sM Z<|cE (gO (m:=dH S) Z fy Z Z (Fu O)) nN ?_
 refine bV Z (xZ h T Y I K) aN ?_;exact ae<|aq<|bm [_] rfl ⟨rfl,rfl⟩ aN
end
end Go.Y
