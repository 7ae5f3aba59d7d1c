/-
  The law Run returns true, for all numbers. No condition beyond the row's own (the listed variables read as their initialisers lay them, tied to the program's text by the card).
-/
import Derived.Test.YtmeegfamopaljaaGreatDoorRuN
import Derived.ChangeMaps5
set_option maxRecDepth 100000
namespace Go.Proofs.YtmeegfamopaljaaGreatDoor.run
open Go Go.ChangeShapes Go.WideShapes Go.ChangeAt Go.RowKit Go.Deep Go.ChangeMaps Go.Y
theorem contract (H:Type) (enc:TypeId×Value->H) (W:World) (J:Nat) (args:Array Value) (T gs:List (DataW H)) (before:List MemPlace)
 (E:∀(j:Nat) t v,Tryz.f10.params[j]?=some t->args[j]?=some v->Value.okWide Tryz.prog W .any J t v)
 (hW:DataW.Whole enc Tryz.prog Tryz.f10.params.toList Rows.runSpec.vars false W args.toList T gs before)
 (K:(DataW.weightsEach Tryz.prog (Tryz.f10.params.toList++Rows.runSpec.plain.varTypes Tryz.prog) (T++gs)).all (·<=reachBytes)=true)
 (hL:laidMetH Tryz.prog Rows.runRow.laid W) :
 Calls Tryz.prog 10 args W λe W'=>∃v,e=.returned v/\Rows.runSpec.post enc Tryz.prog Tryz.f10 false true false false W args v W':=by
 have I:=hW;obtain⟨p,q,mt,hV,rfl,In,hnd⟩:=hW;have hA:DataW.TrodAll enc Tryz.prog W 0 (λ_=>true) true Tryz.f10.params.toList args.toList T p:=mt;rw[Tryz.params10] at hA E K;obtain⟨v0,K3,d0,K4,p0,q0,wf,rfl,rfl,h0,r0⟩:=trodAll_cons hA;obtain⟨rfl,rfl,rfl⟩:=trodAll_nil r0;obtain rfl:args=#[v0]:=by cases args;simp_all
 obtain⟨rfl,rfl⟩:=trodVars_none hV;have k0:=h0;obtain⟨A0,c0,l0,rfl,O⟩:=Bp (E 0 _ v0 rfl rfl) h0;have hz:=K;simp only[List.cons_append,DataW.weightsEach,List.all_append,Bool.and_eq_true] at hz;have BT:=O hz.1;simp only[List.append_nil] at I;have Fd:∀x∈p0,x.block<W.heap.size:=λx Y=>by simpa using I.lt x (by simpa using Y)
 refine(Gives.run (DG A0 c0 l0) hL BT).mono λe W' ⟨v,m,he,hR,hb⟩=>?_;obtain⟨rfl,rfl⟩:=hR;subst he;have e1:Rows.runSpec.fn H ([d0]++[])={results:=[.lit (.bool true)],args:=[d0]}:=by simp[Rows.runSpec]
 refine⟨_,rfl,_,_,_,[],p0++([]),[],I,?_,?_,?_,hb.frame _,λh=>by cases h⟩
 · rw[e1];exact trodAll_cons_mk (shut_bool Tryz.underlying4 _) trodAll_mk0
 · rw[e1]
   exact trodAll_cons_mk (Below.trod CP (by kernel_rfl) (of_decide_eq_true (by kernel_rfl)) k0 hb λx Y=>Fd x (Y)) trodAll_mk0
 · rw[e1];rfl
theorem laid_met' (E:Os):laidMetH Tryz.prog Rows.runRow.laid ((j7 E).forCall (λ_ _=>0) ⟨#[],#[.slice none 0 0],[]⟩).memory:=
 GC E _ (laidMet_of_run' 80 (by kernel_rfl) (by kernel_rfl)) (by kernel_rfl)
theorem reads (I:Os) {H:Type} (enc:TypeId×Value->H):∃E,DataW.whole enc Tryz.prog ((j7 I).forCall (λ_ _=>0) ⟨#[],#[.slice none 0 0],[]⟩).memory Tryz.f10.params.toList Rows.runSpec.vars false #[Value.slice none 0 0].toList 8=some ([.nil],[],E):=
 ⟨[],by kernel_rfl⟩
theorem lifted (I:Os) (E:I.Started) (H:Type) (enc:TypeId×Value->H) (F:Stop.Interp) :
 ReturnsInHanded {} Tryz.checked I 10 .any ((OpenSpec.ofChange Rows.runSpec).preRow enc Tryz.prog Tryz.f10 Rows.runRow.domain false Rows.runRow.laid) (((OpenSpec.ofChange Rows.runSpec).at F).post enc Tryz.prog Tryz.f10 false true false false):=by
 obtain⟨O,Y⟩:=reads I enc;refine returnsInHanded_of_row (C:=Tryz.checked) (s:=OpenSpec.ofChange Rows.runSpec) own E (by kernel_rfl) Tryz.func10
  (witness_row_at (enc:=enc) (C:=Tryz.checked) false (j7 I) #[.slice none 0 0] rfl (by kernel_rfl) (by kernel_rfl) (by kernel_rfl)
   (OpenSpec.preRow_of_cond 8 Y (by kernel_rfl) (λk hk=>by cases hk) (by kernel_rfl) (laid_met' I))) ?_
 intro W J args ds gs before K hW _ _ T hL _ _;exact contract H enc W J args ds gs before K hW T hL
theorem inPlaceIs:(λ(P:Program) (f:FuncId) (c:OpenClaim)=>(((c.inPlace==P.inPlace f)):Bool)) Tryz.prog 10 Rows.runRow=true:=by kernel_rfl
theorem unfollowedIs:(λ(P:Program) (f:FuncId) (c:OpenClaim)=>(((c.unfollowed==P.unfollowed f)):Bool)) Tryz.prog 10 Rows.runRow=true:=by kernel_rfl
theorem recursesIs:(λ(P:Program) (f:FuncId) (c:OpenClaim)=>(((c.recurses==P.recurses f)):Bool)) Tryz.prog 10 Rows.runRow=true:=by kernel_rfl
theorem namedIs:(λ(P:Program) (f:FuncId) (c:OpenClaim)=>(((c.named==P.varsNamed f)):Bool)) Tryz.prog 10 Rows.runRow=true:=by kernel_rfl
theorem closed:joinedFacts Tryz.prog 10 Tryz.f10 Rows.runSpec Rows.runRow=true:=
 Ee (by kernel_rfl) CP Ba (by kernel_rfl) (by kernel_rfl) (by kernel_rfl) (by kernel_rfl) (by kernel_rfl) (by kernel_rfl) inPlaceIs unfollowedIs recursesIs namedIs (by kernel_rfl) (by kernel_rfl) (by kernel_rfl) (by kernel_rfl) (by kernel_rfl) (by kernel_rfl) (by kernel_rfl) (by kernel_rfl) (by kernel_rfl) Ec (by kernel_rfl) tW G5 Gy Kq (by kernel_rfl) (by kernel_rfl) (by kernel_rfl) (by kernel_rfl)
theorem goesIs:true=Rows.runRow.goesBy Tryz.prog:=by kernel_rfl
theorem said:Rows.RunSaid:=
 OpenClaim.holds_of_wide_leaving 10 Tryz.f10 rfl rfl rfl rfl rfl rfl rfl ⟨rfl,rfl,rfl,rfl,rfl⟩ rfl rfl rfl rfl rfl (by kernel_rfl) Tryz.func10 closed
  (of_decide_eq_true (by kernel_rfl)) (by unfold Func.isWrapper;first|(rw[if_pos (by decide +kernel)];kernel_rfl)|(rw[if_neg (by decide +kernel)];exact⟨rfl,rfl⟩))
  (λI E H enc _=>by rw[OpenClaim.pre_eq_preRow];exact oY (lifted I E H enc (λ_ _ _=>0)))
theorem plain (f:FuncId) (I:Func) (K:Tryz.pinned.checked.prog.funcNamed "flowkeeper/flowkeeperlaw.Run"=some f) (J:Tryz.pinned.checked.prog.funcs[f]?=some I) :
 true=Tryz.pinned.checked.prog.looks []/\∀(j:Nat) t,I.params[j]?=some t->Tryz.pinned.checked.prog.wantsStandIn t=false:=by
 obtain rfl:f=10:=Option.some.inj ((show Tryz.prog.funcNamed "flowkeeper/flowkeeperlaw.Run"=some 10 by kernel_rfl).symm.trans K) |>.symm;obtain rfl:I=Tryz.f10:=(Option.some.inj (Tryz.func10.symm.trans J)).symm;refine⟨by kernel_rfl,λj t E=>?_⟩;rw[Tryz.params10] at E;have O:Tryz.prog.wantsStandIn 22=false:=by kernel_rfl
 rcases j with _|j
 · simp at E;subst E;exact O
 · simp at E
theorem card:Rows.RunCardSaid:=
 qK .later _ _ _ _ said (by kernel_rfl) run_row_tie rfl ⟨rfl,rfl⟩ (by kernel_rfl) rfl plain goesIs
#print axioms card
end Go.Proofs.YtmeegfamopaljaaGreatDoor.run
