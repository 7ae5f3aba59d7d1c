/-
  The law Compacted returns true, for all numbers. No condition beyond the row's own (the listed variables read as their initialisers lay them, tied to the program's text by the card).
-/
import Derived.Test.YtkckgjpkkbkkgaaGreatDoorCoL
import Derived.Test.YtkckgjpkkbkkgaaGreatDoorCoM
import Derived.ChangeMaps5
import Derived.JoinedCond
set_option maxRecDepth 100000
namespace Go.Proofs.YtkckgjpkkbkkgaaGreatDoor.compacted
open Go Go.ChangeShapes Go.WideShapes Go.ChangeAt Go.RowKit Go.Deep Go.ChangeMaps Go.Y
theorem contract (H:Type) (enc:TypeId×Value->H) (W:World) (base:Nat) (args:Array Value) (ds gs:List (DataW H)) (before:List MemPlace)
 (E:∀(j:Nat) t v,Tryz.f3.params[j]?=some t->args[j]?=some v->Value.okWide Tryz.prog W .any base t v)
 (hW:DataW.Whole enc Tryz.prog Tryz.f3.params.toList Rows.compactedSpec.vars false W args.toList ds gs before)
 (hL:laidMetH Tryz.prog Rows.compactedRow.laid W) :
 Calls Tryz.prog 3 args W λe W'=>∃v,e=.returned v/\Rows.compactedSpec.post enc Tryz.prog Tryz.f3 false true false false W args v W':=by
 have I:=hW;obtain⟨p,q,O,hV,rfl,d7,hnd⟩:=hW;have hA:DataW.TrodAll enc Tryz.prog W 0 (λ_=>true) true Tryz.f3.params.toList args.toList ds p:=O;rw[Tryz.params3] at hA E;obtain⟨v0,d8,d0,d9,p0,q0,T,rfl,rfl,h0,r0⟩:=trodAll_cons hA;obtain⟨v1,f7,d1,f8,p1,q1,rfl,rfl,rfl,h1,r1⟩:=trodAll_cons r0;obtain⟨v2,f9,d2,mt,p2,q2,rfl,rfl,rfl,h2,r2⟩:=trodAll_cons r1;obtain⟨rfl,rfl,rfl⟩:=trodAll_nil r2;obtain rfl:args=#[v0,v1,v2]:=by cases args;simp_all
 obtain⟨rfl,rfl⟩:=trodVars_none hV;have k0:=h0;obtain⟨A0,c0,l0,rfl,Y⟩:=GK (E 0 _ v0 rfl rfl) h0;obtain⟨x1,rfl,rfl,rfl,w1⟩:=open_int Tryz.underlying3 (E 1 _ v1 rfl rfl) h1;obtain⟨x2,rfl,rfl,rfl,w2⟩:=open_int Tryz.underlying3 (E 2 _ v2 rfl rfl) h2;simp only[List.append_nil] at I;have d6:∀x∈p0,x.block<W.heap.size:=λx K=>by simpa using I.lt x (by simpa using K)
 refine(Gives.run (qV x1 x2 (nI w1) A0 c0 l0) hL Y).mono λe W' ⟨v,m,he,hR,hb⟩=>?_;obtain⟨rfl,rfl⟩:=hR;subst he;have e1:Rows.compactedSpec.fn H ([d0,.lit (.int .i64 x1),.lit (.int .i64 x2)]++[])={results:=[.lit (.bool true)],args:=[d0,.lit (.int .i64 x1),.lit (.int .i64 x2)]}:=by simp[Rows.compactedSpec]
 refine⟨_,rfl,_,_,_,[],p0++([]++([]++([]))),[],I,?_,?_,?_,hb.frame _,λh=>by cases h⟩
 · rw[e1];exact trodAll_cons_mk (shut_bool Tryz.underlying4 _) trodAll_mk0
 · rw[e1]
   exact trodAll_cons_mk (Below.trod Cy (by kernel_rfl) (of_decide_eq_true (by kernel_rfl)) k0 hb λx K=>d6 x (K))<|trodAll_cons_mk (shut_int Tryz.underlying3 w1)<|trodAll_cons_mk (shut_int Tryz.underlying3 w2) trodAll_mk0
 · rw[e1];rfl
theorem laid_met' (os:Os):laidMetH Tryz.prog Rows.compactedRow.laid ((km os).forCall (λ_ _=>0) ⟨#[],#[.slice none 0 0,.int .i64 0,.int .i64 0],[]⟩).memory:=
 G7 os _ (laidMet_of_run' 80 (by kernel_rfl) (by kernel_rfl)) (by kernel_rfl)
theorem reads (os:Os) {H:Type} (enc:TypeId×Value->H):∃E,DataW.whole enc Tryz.prog ((km os).forCall (λ_ _=>0) ⟨#[],#[.slice none 0 0,.int .i64 0,.int .i64 0],[]⟩).memory Tryz.f3.params.toList Rows.compactedSpec.vars false #[Value.slice none 0 0,.int .i64 0,.int .i64 0].toList 8=some ([.nil,.lit (.int .i64 0),.lit (.int .i64 0)],[],E):=
 ⟨[],by kernel_rfl⟩
theorem lifted (os:Os) (E:os.Started) (H:Type) (enc:TypeId×Value->H) (F:Stop.Interp) :
 ReturnsInHanded {} Tryz.checked os 3 .any ((OpenSpec.ofChange Rows.compactedSpec).preRow enc Tryz.prog Tryz.f3 Rows.compactedRow.domain false Rows.compactedRow.laid) (((OpenSpec.ofChange Rows.compactedSpec).at F).post enc Tryz.prog Tryz.f3 false true false false):=by
 obtain⟨K,T⟩:=reads os enc;refine returnsInHanded_of_row (C:=Tryz.checked) (s:=OpenSpec.ofChange Rows.compactedSpec) own E (by kernel_rfl) Tryz.func3
  (witness_row_at (enc:=enc) (C:=Tryz.checked) false (km os) #[.slice none 0 0,.int .i64 0,.int .i64 0] rfl (by kernel_rfl) (by kernel_rfl) (by kernel_rfl)
   (OpenSpec.preRow_of_cond 8 T (by kernel_rfl) (λk O=>by cases O) (by kernel_rfl) (laid_met' os))) ?_
 intro W base args Y gs before I hW _ _ _ hL _ _;exact contract H enc W base args Y gs before I hW hL
theorem inPlaceIs:(λ(P:Program) (f:FuncId) (c:OpenClaim)=>(((c.inPlace==P.inPlace f)):Bool)) Tryz.prog 3 Rows.compactedRow=true:=by kernel_rfl
theorem unfollowedIs:(λ(P:Program) (f:FuncId) (c:OpenClaim)=>(((c.unfollowed==P.unfollowed f)):Bool)) Tryz.prog 3 Rows.compactedRow=true:=by kernel_rfl
theorem recursesIs:(λ(P:Program) (f:FuncId) (c:OpenClaim)=>(((c.recurses==P.recurses f)):Bool)) Tryz.prog 3 Rows.compactedRow=true:=by kernel_rfl
theorem namedIs:(λ(P:Program) (f:FuncId) (c:OpenClaim)=>(((c.named==P.varsNamed f)):Bool)) Tryz.prog 3 Rows.compactedRow=true:=by kernel_rfl
theorem closed:joinedFacts Tryz.prog 3 Tryz.f3 Rows.compactedSpec Rows.compactedRow=true:=
 Ei (by kernel_rfl) Cy AJ (by kernel_rfl) (by kernel_rfl) (by kernel_rfl) (by kernel_rfl) (by kernel_rfl) (by kernel_rfl) inPlaceIs unfollowedIs recursesIs namedIs (by kernel_rfl) (by kernel_rfl) (by kernel_rfl) (by kernel_rfl) (by kernel_rfl) (by kernel_rfl) (by kernel_rfl) (by kernel_rfl) (by kernel_rfl) Ee (by kernel_rfl) ua Hz GY KV (by kernel_rfl) (by kernel_rfl) (by kernel_rfl) (by kernel_rfl)
theorem said:Rows.CompactedSaid:=
 OpenClaim.holds_of_cond 3 Tryz.f3 rfl rfl rfl rfl rfl rfl rfl ⟨rfl,rfl,rfl,rfl,rfl⟩ rfl rfl rfl rfl rfl (by kernel_rfl) Tryz.func3 closed
  (of_decide_eq_true (by kernel_rfl)) (by unfold Func.isWrapper;first|(rw[if_pos (by decide +kernel)];kernel_rfl)|(rw[if_neg (by decide +kernel)];exact⟨rfl,rfl⟩))
  (λos E H enc _ F=>by rw[OpenClaim.pre_eq_preRow];exact lifted os E H enc F)
theorem plain (f:FuncId) (I:Func) (O:Tryz.pinned.checked.prog.funcNamed "flowkeeper/flowkeeperkeep.Compacted"=some f) (K:Tryz.pinned.checked.prog.funcs[f]?=some I) :
 true=Tryz.pinned.checked.prog.looks []/\∀(j:Nat) t,I.params[j]?=some t->Tryz.pinned.checked.prog.wantsStandIn t=false:=by
 obtain rfl:f=3:=Option.some.inj ((show Tryz.prog.funcNamed "flowkeeper/flowkeeperkeep.Compacted"=some 3 by kernel_rfl).symm.trans O) |>.symm;obtain rfl:I=Tryz.f3:=(Option.some.inj (Tryz.func3.symm.trans K)).symm;refine⟨by kernel_rfl,λj t E=>?_⟩;rw[Tryz.params3] at E;have k2:Tryz.prog.wantsStandIn 3=false:=by kernel_rfl
 have T:Tryz.prog.wantsStandIn 22=false:=by kernel_rfl
 rcases j with _|_|_|j
 · simp at E;subst E;exact T
 · simp at E;subst E;exact k2
 · simp at E;subst E;exact k2
 · simp at E
theorem card:Rows.CompactedCardSaid:=
 Claim7.holds_tied_plain_at .later [] _ _ _ _ said (λ_ h=>by cases h) (by kernel_rfl) (λ_ h=>by cases h) compacted_row_tie rfl ⟨rfl,rfl⟩ (by kernel_rfl) rfl plain (by kernel_rfl)
#print axioms card
end Go.Proofs.YtkckgjpkkbkkgaaGreatDoor.compacted
