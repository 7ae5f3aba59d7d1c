/-
  The law Kept returns true, for all numbers. No condition beyond the row's own (the listed variables read as their initialisers lay them, tied to the program's text by the card).
-/
import Derived.Test.YtncdhfckklfhdaaGreatDoorKeN
import Derived.ChangeMaps5
import Derived.JoinedCond
set_option maxRecDepth 100000
namespace Go.Proofs.YtncdhfckklfhdaaGreatDoor.kept
open Go Go.ChangeShapes Go.WideShapes Go.ChangeAt Go.RowKit Go.Deep Go.ChangeMaps Go.Y
theorem contract (H:Type) (enc:TypeId×Value->H) (W:World) (base:Nat) (args:Array Value) (O gs:List (DataW H)) (before:List MemPlace)
 (E:∀(j:Nat) t v,Tryz.f3.params[j]?=some t->args[j]?=some v->Value.okWide Tryz.prog W .any base t v)
 (hW:DataW.Whole enc Tryz.prog Tryz.f3.params.toList Rows.keptSpec.vars false W args.toList O gs before)
 (J:(DataW.weightsEach Tryz.prog (Tryz.f3.params.toList++Rows.keptSpec.plain.varTypes Tryz.prog) (O++gs)).all (·<=reachBytes)=true)
 (hL:laidMetH Tryz.prog Rows.keptRow.laid W) :
 Calls Tryz.prog 3 args W λe W'=>∃v,e=.returned v/\Rows.keptSpec.post enc Tryz.prog Tryz.f3 false true false false W args v W':=by
 have I:=hW;obtain⟨p,q,Y,hV,rfl,d9,hnd⟩:=hW;have hA:DataW.TrodAll enc Tryz.prog W 0 (λ_=>true) true Tryz.f3.params.toList args.toList O p:=Y;rw[Tryz.params3] at hA E J;obtain⟨v0,f7,d0,f8,p0,q0,d6,rfl,rfl,h0,r0⟩:=trodAll_cons hA;obtain⟨rfl,rfl,rfl⟩:=trodAll_nil r0;obtain rfl:args=#[v0]:=by cases args;simp_all
 obtain⟨rfl,rfl⟩:=trodVars_none hV;have k0:=h0;obtain⟨A0,c0,l0,rfl,K⟩:=Dy (E 0 _ v0 rfl rfl) h0;have hz:=J;simp only[List.cons_append,DataW.weightsEach,List.all_append,Bool.and_eq_true] at hz;have d7:=K hz.1;simp only[List.append_nil] at I;have d8:∀x∈p0,x.block<W.heap.size:=λx T=>by simpa using I.lt x (by simpa using T)
 refine(Gives.run (DP A0 c0 l0) hL d7).mono λe W' ⟨v,m,he,hR,hb⟩=>?_;obtain⟨rfl,rfl⟩:=hR;subst he;have e1:Rows.keptSpec.fn H ([d0]++[])={results:=[.lit (.bool true)],args:=[d0]}:=by simp[Rows.keptSpec]
 refine⟨_,rfl,_,_,_,[],p0++([]),[],I,?_,?_,?_,hb.frame _,λh=>by cases h⟩
 · rw[e1];exact trodAll_cons_mk (shut_bool Tryz.underlying4 _) trodAll_mk0
 · rw[e1]
   exact trodAll_cons_mk (Below.trod Fc (by kernel_rfl) (of_decide_eq_true (by kernel_rfl)) k0 hb λx T=>d8 x (T)) trodAll_mk0
 · rw[e1];rfl
theorem laid_met' (os:Os):laidMetH Tryz.prog Rows.keptRow.laid ((kV os).forCall (λ_ _=>0) ⟨#[],#[.slice none 0 0],[]⟩).memory:=
 JC os _ (laidMet_of_run' 80 (by kernel_rfl) (by kernel_rfl)) (by kernel_rfl)
theorem reads (os:Os) {H:Type} (enc:TypeId×Value->H):∃E,DataW.whole enc Tryz.prog ((kV os).forCall (λ_ _=>0) ⟨#[],#[.slice none 0 0],[]⟩).memory Tryz.f3.params.toList Rows.keptSpec.vars false #[Value.slice none 0 0].toList 8=some ([.nil],[],E):=
 ⟨[],by kernel_rfl⟩
theorem lifted (os:Os) (E:os.Started) (H:Type) (enc:TypeId×Value->H) (F:Stop.Interp) :
 ReturnsInHanded {} Tryz.checked os 3 .any ((OpenSpec.ofChange Rows.keptSpec).preRow enc Tryz.prog Tryz.f3 Rows.keptRow.domain false Rows.keptRow.laid) (((OpenSpec.ofChange Rows.keptSpec).at F).post enc Tryz.prog Tryz.f3 false true false false):=by
 obtain⟨J,O⟩:=reads os enc;refine returnsInHanded_of_row (C:=Tryz.checked) (s:=OpenSpec.ofChange Rows.keptSpec) own E (by kernel_rfl) Tryz.func3
  (witness_row_at (enc:=enc) (C:=Tryz.checked) false (kV os) #[.slice none 0 0] rfl (by kernel_rfl) (by kernel_rfl) (by kernel_rfl)
   (OpenSpec.preRow_of_cond 8 O (by kernel_rfl) (λk hk=>by cases hk) (by kernel_rfl) (laid_met' os))) ?_
 intro W base args T gs before I Y _ _ K hL _ _;exact contract H enc W base args T gs before I Y K hL
theorem inPlaceIs:(λ(P:Program) (f:FuncId) (c:OpenClaim)=>(((c.inPlace==P.inPlace f)):Bool)) Tryz.prog 3 Rows.keptRow=true:=by kernel_rfl
theorem unfollowedIs:(λ(P:Program) (f:FuncId) (c:OpenClaim)=>(((c.unfollowed==P.unfollowed f)):Bool)) Tryz.prog 3 Rows.keptRow=true:=by kernel_rfl
theorem recursesIs:(λ(P:Program) (f:FuncId) (c:OpenClaim)=>(((c.recurses==P.recurses f)):Bool)) Tryz.prog 3 Rows.keptRow=true:=by kernel_rfl
theorem namedIs:(λ(P:Program) (f:FuncId) (c:OpenClaim)=>(((c.named==P.varsNamed f)):Bool)) Tryz.prog 3 Rows.keptRow=true:=by kernel_rfl
theorem closed:joinedFacts Tryz.prog 3 Tryz.f3 Rows.keptSpec Rows.keptRow=true:=
 GJ (by kernel_rfl) Fc Dg (by kernel_rfl) (by kernel_rfl) (by kernel_rfl) (by kernel_rfl) (by kernel_rfl) (by kernel_rfl) inPlaceIs unfollowedIs recursesIs namedIs (by kernel_rfl) (by kernel_rfl) (by kernel_rfl) (by kernel_rfl) (by kernel_rfl) (by kernel_rfl) (by kernel_rfl) (by kernel_rfl) (by kernel_rfl) GH (by kernel_rfl) vM J5 Jy Nh (by kernel_rfl) (by kernel_rfl) (by kernel_rfl) (by kernel_rfl)
theorem said:Rows.KeptSaid:=
 OpenClaim.holds_of_cond 3 Tryz.f3 rfl rfl rfl rfl rfl rfl rfl ⟨rfl,rfl,rfl,rfl,rfl⟩ rfl rfl rfl rfl rfl (by kernel_rfl) Tryz.func3 closed
  (of_decide_eq_true (by kernel_rfl)) (by unfold Func.isWrapper;first|(rw[if_pos (by decide +kernel)];kernel_rfl)|(rw[if_neg (by decide +kernel)];exact⟨rfl,rfl⟩))
  (λos E H enc _ F=>by rw[OpenClaim.pre_eq_preRow];exact lifted os E H enc F)
theorem plain (f:FuncId) (I:Func) (K:Tryz.pinned.checked.prog.funcNamed "flowkeeper/flowkeeperlaw.Kept"=some f) (J:Tryz.pinned.checked.prog.funcs[f]?=some I) :
 true=Tryz.pinned.checked.prog.looks []/\∀(j:Nat) t,I.params[j]?=some t->Tryz.pinned.checked.prog.wantsStandIn t=false:=by
 obtain rfl:f=3:=Option.some.inj ((show Tryz.prog.funcNamed "flowkeeper/flowkeeperlaw.Kept"=some 3 by kernel_rfl).symm.trans K) |>.symm;obtain rfl:I=Tryz.f3:=(Option.some.inj (Tryz.func3.symm.trans J)).symm;refine⟨by kernel_rfl,λj t E=>?_⟩;rw[Tryz.params3] at E;have O:Tryz.prog.wantsStandIn 22=false:=by kernel_rfl
 rcases j with _|j
 · simp at E;subst E;exact O
 · simp at E
theorem card:Rows.KeptCardSaid:=
 Claim7.holds_tied_plain_at .later [] _ _ _ _ said (λ_ h=>by cases h) (by kernel_rfl) (λ_ h=>by cases h) kept_row_tie rfl ⟨rfl,rfl⟩ (by kernel_rfl) rfl plain (by kernel_rfl)
#print axioms card
end Go.Proofs.YtncdhfckklfhdaaGreatDoor.kept
