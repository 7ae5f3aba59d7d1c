/- Runs that are known, by their numbers, in order. -/
import Derived.Test.YtmeegfamopaljaaGreatDoorRuJ
import Derived.Test.YtmeegfamopaljaaGreatDoorRuI
import Derived.Test.YtmeegfamopaljaaGreatDoorRuE
import Derived.Test.YtmeegfamopaljaaGreatDoorRuF
import Derived.Test.YtmeegfamopaljaaGreatDoorRuH
import Derived.BigQuiet
set_option maxHeartbeats 8000000
set_option maxRecDepth 100000
variable {bs:List UInt8} {G:Go.SL.Env->Prop} {A:Option Go.Addr} {S:FK.En} {σ:FK.Dsk} {M:FR.En} {b c e i j n q':Nat} {v:Go.Value} {J:FK.Jn} {o:Option Nat} {s:Except Nat Nat} {ns:List Go.Y.ND} {p:Go.Y.EA} {u:FR.Rn} {fr l m r:List Go.SL.HP} {f fl:FK.Flow} {E:Go.SL.Env} {a:Go.Y.RfA} {P:Go.Program} {R:FK.Rn} {w:Go.World} {x:Int}
namespace Go.Y
open Go.Proofs Go.RowKit Go.SL
section
variable {f:FuncId} {cap:Array Value} {pre:List HP} {S:List Nat->Prop} {N:Nat}
theorem wZ (K:N<=100000) (O:eB Tryz.prog f=true) (J:Seqs Tryz.prog G f cap aQ S N pre) :
 dx G 243 [.func (.func f) #[] cap] pre λv m=>∃I,S I/\m=row 51 1 v I.length (I.map aQ)::pre:=by
 refine bA Tryz.func243 Z λE fr Y=>aZ<|sS<|sB Z<|bq Z ?_
 refine bU Z (tS K O J) aT ?_;rintro v m ⟨I,T,rfl⟩;exact aZ<|sB Z<|an<|ar (row 51 1 v I.length (I.map aQ)::pre) Z Z ⟨I,T,rfl⟩ aT
theorem yB (hN:N<=100000) (hb:eB Tryz.prog f=true) (O:Seqs Tryz.prog G f cap aQ S N pre) (J:∀I,S I->I.length<=12) :
 dx G 215 [.func (.func f) #[] cap] pre λv m=>∃(I K:List Nat),S I/\K.Perm I/\K.Pairwise (·<=·)/\m=row 51 1 v K.length (K.map aQ)::pre:=by
 refine bA Tryz.func215 Z λE fr hE=>aZ<|sS<|sB Z<|bq Z ?_
 refine bU Z (wZ hN hb O) aT ?_;rintro v m ⟨I,hS,rfl⟩;refine aZ ?_;have T:=FR.xq 0 I;have hX:(FR.g8 0 I).map uV=I.map aQ:=by
  have:=congrArg (List.map aQ) T
  rwa [List.map_map] at this
 have mt:(FR.g8 0 I).length=I.length:=by have:=congrArg List.length T;rwa [List.length_map] at this
 refine aq (l':=row 51 1 v (FR.g8 0 I).length ((FR.g8 0 I).map uV)::(pre++fr)) (by rw[hX,mt];exact aT) ?_;have wf:=J I hS;refine sB Z<|bq Z ?_
 refine bU Z (AM (X:=FR.g8 0 I) am (FR.uA 0 I).2) aT ?_;rintro v m ⟨rfl,Y,hY,rfl⟩;refine aa<|sN<|bq Z<|sB Z<|an ?_
 refine ar (row 51 1 v (Y.map FR.Tmd.due).length ((Y.map FR.Tmd.due).map aQ)::pre) Z Z ⟨I,Y.map FR.Tmd.due,hS,by rw[<-T];exact hY.perm.map _,?_,rfl⟩ ?_
 · rw[List.pairwise_map]
   refine hY.srt.imp λh=>?_;exact FR.Fs h
 · rw[List.map_map,List.length_map]
   exact aT
end
theorem Eb (b:Nat):dx G 216 [.map (some b)] [] λv m=>∃c,v=.func (.func 245) #[] #[aX c]/\m=[vz c b]:=by
 refine bA Tryz.func216 Z λE fr J=>aZ<|sS<|sO (cR Z Z λI=>(sB Z (sS ?_)))
 refine sP (gP Z Z) ?_;exact sB Z<|an<|ar [vz I b] rfl Z ⟨I,rfl,rfl⟩ aT
theorem GI (h:S.runs.length<=12):dx G 181 [aX e] [aN e p S] λv m=>∃I:List Nat,I.Perm (S.runs.map (·.1))/\I.Pairwise (·<=·)/\m=[aN e p S,row 51 1 v I.length (I.map aQ)]:=by
 have hk:(eM S p).map (·.1)=S.runs.map (·.1):=by unfold eM;rw[List.map_map];rfl
 have hl:(eM S p).length=S.runs.length:=by unfold eM;rw[List.length_map]
 refine bA Tryz.func181 Z λE fr hE=>aa<|sS<|sB Z<|sS<|cG 1 Z Z ?_
 refine bF (au (v:=.map (some p.rm)) Z) (bE λ_ _ _=>rfl) ?_;refine bU Z (Eb p.rm) aT ?_;rintro v m ⟨c,rfl,rfl⟩;refine aa ?_;refine aq (l':=vz c p.rm::HP.pure (eC S)::ee e (jw S p) S.KX::cP aQ p.rm (eM S p)::fF p S.runs::cP aQ p.tm (dD S)::dC p.w S.now S.sets S.tms::fr) (Ent.cons (Ent.unall (m:=jV e p S))) ?_;refine bU Z (yB (by rw[hl];omega) Z (BD (b:=p.rm) (c:=c) (mm:=eM S p)) λO T=>by have:=T.length_eq;rw[List.length_map] at this;omega) (Ent.cons gfE2) ?_;rintro v m ⟨O,I,Y,K,J,rfl⟩;refine aZ<|sB Z<|an<|ar [aN e p S,row 51 1 v I.length (I.map aQ)] rfl Z ⟨I,K.trans (hk▸Y),J,rfl⟩ ?_
 refine Ent.trans ?_<|Ent.all (m:=jV e p S)
 show Ent (row 51 1 v I.length (I.map aQ)::vz c p.rm::cP aQ p.rm (eM S p)::HP.pure (eC S)::ee e (jw S p) S.KX::fF p S.runs::cP aQ p.tm (dD S)::dC p.w S.now S.sets S.tms::fr) (HP.pure (eC S)::ee e (jw S p) S.KX::cP aQ p.rm (eM S p)::fF p S.runs::cP aQ p.tm (dD S)::dC p.w S.now S.sets S.tms::row 51 1 v I.length (I.map aQ)::fr);exact aJ
end Go.Y
namespace Go.SL
open Go.RowKit
theorem B4 {E:List (Nat×Value)} {t K:TypeId} {x:Operand} {f:Fn} {a b:Array Value} {ps O:Array TypeId} {T:Bool} (Y:P.underlying t=some (.func ps O T)) (hx:ev E x=some (.func f a b)):Ev P E (.binOp .eql t x (.const .nilFunc) K) (.bool false) Any:=by
 intro ac w _ _ _ _ _ I _;exact ff (I.eval hx) (I.eval (x:=.const _) Z) (by simp[eqGuard]) (lH Z λd=>by simp[Op.equalIn,run_underlying Y])
end Go.SL
namespace Go.Y
open Go.Proofs Go.RowKit Go.SL
abbrev jU (v:Value) (E:List Nat):HP:=row 51 1 v E.length (E.map aQ)
abbrev ES (c:Nat) (v:Value):HP:=blk c 90 #[v]
theorem wk {I:List Nat} (hk:I.length<=100000):Seqs Tryz.prog G 221 #[aX c] aQ (λss=>ss=I) I.length [ES c v,jU v I]:=by
 intro lo J hY;have e:(#[.func (.yield lo) #[] #[]]++#[aX c]:Array Value)=[.func (.yield lo) #[] #[],aX c].toArray:=by simp
 rw[e];refine bA Tryz.func221 Z λE fr hE=>aq (l':=ES c v::jU v I::(J []++fr)) aT ?_;refine aK bJ ?_;intro A O hv T Y _ _ _;subst hv;refine sS<|bF (au (v:=.slice A I.length O) Z) (ah Z)<|sP (bp Z Z)<|sM Z<|sN<|ag ?_
 refine aO (X:=Nat) (λi=>[(7,aw i),(6,aw I.length),(5,.slice A I.length O),(0,.func (.yield lo) #[] #[])]) (λi=>ES c (.slice A I.length O)::jU (.slice A I.length O) I::(J (I.take i)++fr)) (λi=>i<=I.length) (λi=>I.length-i) 0 (Nat.zero_le _) bV aT ?_;intro i hi;replace hi:i<=I.length:=hi;refine sS<|sP (bz Z Z Z)<|sN<|sQ ?_
 refine aB Z (λc8=>?_) λc8=>?_
 ·
  have K:i<I.length:=am;obtain⟨g,rfl⟩:∃g,A=some ⟨g,0,none⟩:=by
   cases A with
   | none=>have:=(T rfl).1;omega
   | some ad=>obtain⟨g,rfl⟩:=Y ad rfl;exact⟨g,rfl⟩
  obtain⟨x,hx⟩:∃x,I[i]?=some x:=⟨I[i],by simp[K]⟩;have mt:I.take (i+1)=I.take i++[x]:=by rw[List.take_add_one,hx];rfl
  refine ae<|sT<|sQ<|ag<|sS<|sP (aS (z:=1) Z Z Z Z K)<|bF (au (v:=aQ x) Z) (il bJ (by simp[hx]))<|sB Z<|sQ<|nM ?_
  refine LI.pure Z (bd Z) ?_;refine LI.pure Z (bd Z) ?_;refine LI.yield Z Z Z (hY (I.take i) x (by rw[List.length_take];omega)) ((Ent.cons eo).trans eo) ?_;refine LI.pure Z (cD (r:=false) Z Z) ?_;refine LI.nil ?_;refine sT<|aj Z<|ae<|al<|sT<|sG<|sP (bc (r:=((i+1:Nat):Int)) Z Z dP)<|sM Z<|ao ?_
  exact aE (i+1) K (by show I.length-(i+1)<I.length-i;omega) bV (by rw[mt];exact Ent.back.trans (Ent.cons Ent.back))
 ·
  refine aL<|aA<|az<|ap ?_
  exact cW ([ES c (.slice A I.length O),jU (.slice A I.length O) I]++J (I.take i)) Z ⟨I.take i,List.take_of_length_le am,rfl⟩ aT
theorem yt (v:Value):dx G 188 [v] [] λu m=>∃c,u=.func (.func 221) #[] #[aX c]/\m=[blk c 90 v.cells]:=by
 refine bA Tryz.func188 Z λE fr K=>aZ<|sS<|sO (cR Z Z λI=>(sB Z (sS ?_)))
 refine sP (gP Z Z) ?_;exact sB Z<|an<|ar [blk I 90 v.cells] rfl Z ⟨I,rfl,rfl⟩ aT
section
variable {h f d:Nat}
abbrev Idl (S:FK.En) (E:List Nat):Prop:=E.Perm (S.runs.map (·.1))/\E.Pairwise (·<=·)
theorem BV (O:S.runs.length<=12):dQ 128 [aX f] (bX f e j d p S J σ) λv m=>∃I c y,Idl S I/\v=.func (.func 221) #[] #[aX c]/\m=ES c y::jU y I::bX f e j d p S J σ:=by
 refine bA Tryz.func128 Z λE fr hE=>bS<|sS<|sB Z<|sS<|cG 0 Z Z<|aR Z Z Z Z ?_
 refine bU Z (GI O) gfE1 ?_;rintro v m ⟨I,T,Y,rfl⟩;refine aD<|aK bJ ?_
 rintro A K rfl - - - - -
 refine bU Z (yt (.slice A I.length K)) aT ?_;rintro v m ⟨c,rfl,rfl⟩;refine aa<|sB Z<|an<|aG c #[.slice A I.length K] rfl<|ar (ES c (.slice A I.length K)::jU (.slice A I.length K) I::bX f e j d p S J σ) Z Z ⟨I,c,_,⟨T,Y⟩,rfl,rfl⟩ ?_
 show Ent _ (_::_::cU f e j::aN e p S::aP j d J::aI d σ::fr);exact aJ
theorem BH (hl:S.runs.length<=12):dQ 75 [aX h,aw 0] (cj h f e j d p S J σ) λv m=>∃Y y,Idl S Y/\v=.tuple #[y,.bool true]/\m=jU y Y::cj h f e j d p S J σ:=by
 refine tK Tryz.func75 Z Z λE fr hE=>?_;refine cX<|sS<|sO (cR Z Z λb3=>(sA Z (sB Z (sQ (sS (sM Z (da Z (bn 1 Z (aR Z Z Z Z (sP (dS Z Z Z) (sN (aj Z (ae ?_)))))))))))))
 refine sT<|sS<|cG 1 Z Z<|aR Z Z Z Z ?_
 refine bU Z (BV hl) (Ent.trans gfE2 (Ent.cons (cF de de de))) ?_;rintro v m ⟨Y,c,y,hI,rfl,rfl⟩;refine jc<|sB Z<|sQ<|bq Z<|sP (B4 Z Z)<|sN<|aj Z<|ae<|sT<|sS<|sO (cH (z:=cx) Z λT=>(sN (sQ ?_)))
 refine bq Z<|sN<|ag ?_
 have K3:Y.length<=12:=by have:=hI.1.length_eq;rw[List.length_map] at this;omega
 refine aG T #[d9] rfl<|aG b3 #[aw 0] rfl ?_
 refine aq (l':=ES T d9::ES c y::jU y Y::blk b3 3 #[aw 0]::cj h f e j d p S J σ++fr) (by show Ent _ (_::_::_::_::bB h d f::cU f e j::aN e p S::aP j d J::aI d σ::fr);exact aJ) ?_;refine oT (pre:=[ES c y,jU y Y]) (fr:=cj h f e j d p S J σ++fr) (j:=8) (λdone=>[toldU T done,blk b3 3 #[aw 0]]) Z Z hE Z (wk am) ?_ (λlo E' L x K h=>AI.region (LI.pure Z (aU Z) (LI.nil (tw h)))) (λlo E' mt done x Fd=>?_) λbb ss hS=>?_
 · refine((Ent.row0 (e:=51) (size:=1)).trans (gfE1.trans (Ent.toldU (l:=[])))).trans ?_
   show Ent (_::ES c y::jU y Y::_::(cj h f e j d p S J σ++fr)) (ES c y::jU y Y::_::_::(cj h f e j d p S J σ++fr));exact aJ
 · refine AI.block<|AI.seq<|AI.region ?_
   refine dI .head λy=>bH ?_;refine aq (l':=blk T 90 #[y]::row 51 1 y done.length (done.map aQ)::blk b3 3 #[aw 0]::mt) aT ?_;refine LI.val Z (au (v:=y) Z) (ah Z) ?_;refine LI.pure Z (bd Z) ?_;refine LI.op Z (dh (m:=1) (z:=aQ 0) (size:=1) (ps:=[(0,.tmp 24)]) (vs:=[aQ x]) (cs:=#[aQ x]) Z Z Z Z am am Z (Fy _ _) λIn=>?_);refine LI.op rfl (bZ rfl rfl JC rfl am rfl rfl (HasVal.sel (v:=y)) (news:=[aQ x]) rfl (λh=>by cases h) (eO (λj u h=>by simpa using h)) er (by unfold maxLen;omega) am λwf BT=>?_);refine aK (HasVal.sel (v:=wf)) ?_;rintro I O rfl - - - - -
   refine LI.op Z<|co Z Z Z Z Z cY ?_
   refine aG T #[.slice I (done.length+1) O] rfl ?_;refine LI.nil<|sT<|AI.seq<|AI.region ?_
   refine LI.val Z (au (v:=.slice I (done.length+1) O) Z) (ah Z) ?_;refine LI.pure Z (bp Z Z) ?_;refine LI.val Z (au (v:=aw 0) Z) (ah Z) ?_;refine LI.pure Z (d8 Z Z am) ?_;refine LI.nil<|sT<|Hu Z<|AI.skip<|al<|mZ ?_
   refine Ent.trans (Ent.trans (b:=blk T 90 #[.slice I (done.length+1) O]::row 51 1 (.slice I (done.length+1) O) (done++[x]).length ((done++[x]).map aQ)::blk b3 3 #[aw 0]::mt) ?_ (Ent.toldU (v:=.slice I (done.length+1) O) (l:=done++[x]))) aT;rw[List.length_append,List.map_append];show Ent _ (blk T 90 #[.slice I (done.length+1) O]::row 51 1 (.slice I (done.length+1) O) (done.length+1) (done.map aQ++[aQ x])::blk b3 3 #[aw 0]::mt);exact aJ
 subst hS;refine aq (l':=toldU T ss::nG bb::(cj h f e j d p S J σ++fr)) (by show Ent (_::_::_::_::_::(cj h f e j d p S J σ++fr)) _;exact gfE3.trans (Ent.cons (Ent.cons (Ent.drop.trans (Ent.drop.trans Ent.drop))))) ?_;refine dI .head λy=>bH ?_;refine aq (l':=ES T y::jU y ss::nG bb::(cj h f e j d p S J σ++fr)) aT ?_;exact al<|sT<|sS<|bF (au (v:=y) Z) (ah Z)<|sA Z<|sB Z<|an<|zr (jU y ss::cj h f e j d p S J σ) de Z Z Z ⟨ss,y,hI,rfl,rfl⟩ Ent.drop
end
section
variable {h f d:Nat}
theorem zE:dx G 87 [aX f] (bX f e j d p S J σ) λv m=>v=.tuple #[aQ S.now,aQ S.seed]/\m=bX f e j d p S J σ:=by
 refine bA Tryz.func87 Z λE fr I=>bS<|sS<|sA Z<|sB Z<|sS<|cG 0 Z Z<|aR Z Z Z Z ?_
 refine bW Z B9 gfE1 ?_;refine aa<|bT Z Z<|bT Z Z<|sA Z<|sB Z<|an<|ea (bX f e j d p S J σ) Z Z Z ⟨rfl,rfl⟩ ?_
 show Ent _ (cU f e j::aN e p _::aP j d J::aI d σ::fr);exact aJ
theorem Fx:Ent (cj h f e j d p S J σ++l) (bX f e j d p S J σ++(bB h d f::l)):=eo (l:=bX f e j d p S J σ)
theorem CF:Ent (bX f e j d p S J σ++(bB h d f::l)) (cj h f e j d p S J σ++l):=Ent.back (l:=bX f e j d p S J σ)
theorem zo:dx G 43 [aX h] (cj h f e j d p S J σ) λv m=>v=.tuple #[aQ S.now,aQ S.seed]/\m=cj h f e j d p S J σ:=by
 refine bA Tryz.func43 Z λE fr I=>cX<|sS<|sA Z<|sB Z<|sQ<|sS<|cG 1 Z Z<|aR Z Z Z Z<|sP (dS Z Z Z)<|sN<|aj Z<|ae<|sT ?_
 refine sS<|cG 1 Z Z<|aR Z Z Z Z<|bW Z zE Fx ?_
 exact bT Z Z<|bT Z Z<|sA Z<|sB Z<|an<|ea (cj h f e j d p S J σ) Z Z Z ⟨rfl,rfl⟩ CF
theorem xQ:dx G 40 [aX h] [dX h d A] λv m=>v=.bool (!A.isNone)/\m=[dX h d A]:=by
 refine bA Tryz.func40 Z λE fr K=>?_;exact aa<|sS<|sB Z<|sS<|cG 1 Z Z<|aR Z Z Z Z<|sP (B3 Z Z Z)<|sB Z<|an<|ar [dX h d A] rfl Z ⟨rfl,rfl⟩ aT
theorem oS {id:Nat} (K:S.getR id=none):dQ 26 [aX h,aQ id] (cj h f e j d p S J σ) λv m=>v=.tuple #[.agg (cm 0 0 d9 d9).toArray,aw 6]/\m=cj h f e j d p S J σ:=by
 refine bA Tryz.func26 Z λE fr T=>cX<|sS<|sO (cH (z:=.agg #[.int .u64 0,aw 0,cx,cx]) Z λI=>(sB Z (sQ (sS (sM Z (da Z (bn 1 Z (aR Z Z Z Z (sP (dS Z Z Z) (sN (aj Z (ae (sT ?_)))))))))))))
 refine sQ ?_;refine aq (l':=cU f e j::aN e p S::aP j d J::aI d σ::bB h d f::blk I 62 (cm 0 0 d9 d9).toArray::fr) (by show Ent (blk I 62 (cm 0 0 d9 d9).toArray::_) _;exact aJ) ?_;refine sG<|cG 1 Z Z<|aR Z Z Z Z<|sM Z ?_
 refine bW Z (wS K) aT ?_;refine bS<|sM Z<|bT Z Z<|bT Z Z<|sO (cH (z:=.agg #[.int .u64 0,aw 0,cx,cx]) Z λO=>?_)
 refine sO<|bh Z (m:=4) (vs:=cm 0 0 d9 d9) Z Z Z Z er (by show 0+4<=4;omega) ?_
 refine aG O (cm 0 0 d9 d9).toArray Z<|sB Z<|sQ<|sZ Z<|jh 0 Z (bO (vs:=cm 0 0 d9 d9) Z) (bm Z)<|cv Z Z ?_
 refine dA 2 Z<|ed Z (ip 6) aT ?_
 rintro v m ⟨rfl,rfl⟩;refine aZ<|dK [true] (ai (bm Z) ak) ?_
 refine dA 3 Z<|bh Z (m:=4) (vs:=cm 0 0 d9 d9) Z Z Z Z er (by show 0+4<=4;omega) ?_
 refine dK [false] ak<|dj 4 Z (aU Z)<|dE<|sT<|an<|aG I (cm 0 0 d9 d9).toArray Z<|dr (cj h f e j d p S J σ) Z (bM (vs:=cm 0 0 d9 d9) Z Z Z Z (bm Z)) (bL Z) ⟨rfl,rfl⟩ ?_
 show Ent _ (bB h d f::cU f e j::aN e p S::aP j d J::aI d σ::fr);exact aJ
theorem yX (I:S.KX=[]):dx G 98 [aX e] [aN e p S] λv m=>v=d9/\m=[aN e p S]:=by
 refine bA Tryz.func98 Z λE fr K=>aa<|sS<|sB Z<|sS<|sB Z<|sQ<|sS<|cG 3 Z Z ?_
 refine bW Z r6 aT ?_;refine aa<|sM Z<|sN<|ag ?_
 refine aO (X:=Unit) (λ_=>[(10,aw 0),(9,aw S.KX.length),(3,d9)]) (λ_=>aN e p S::fr) (λ_=>True) (λ_=>0) () trivial bV aT ?_;intro _ _;exact sS<|sP (bz (r:=false) Z Z (by rw[I];rfl))<|sN<|sQ<|aj Z<|aL<|aA<|az<|ap<|sT<|bq Z<|sB Z<|an<|ar [aN e p S] rfl Z ⟨rfl,rfl⟩ aT
theorem wQ (I:S.KX=[]):dx G 52 [aX f] (bX f e j d p S J σ) λv m=>v=d9/\m=bX f e j d p S J σ:=by
 refine bA Tryz.func52 Z λE fr K=>bS<|sS<|sB Z<|sS<|cG 0 Z Z<|aR Z Z Z Z ?_
 refine bW Z (yX I) gfE1 ?_;refine aa<|sB Z<|an<|ar (bX f e j d p S J σ) Z Z ⟨rfl,rfl⟩ ?_
 show Ent _ (cU f e j::aN e p _::aP j d J::aI d σ::fr);exact aJ
theorem wN (I:S.KX=[]):dx G 22 [aX h] (cj h f e j d p S J σ) λv m=>v=d9/\m=cj h f e j d p S J σ:=by
 refine bA Tryz.func22 Z λE fr K=>cX<|sS<|sB Z<|sQ<|sS<|cG 1 Z Z<|aR Z Z Z Z<|sP (dS Z Z Z)<|sN<|aj Z<|ae<|sT<|sQ ?_
 refine sG<|cG 1 Z Z<|aR Z Z Z Z<|bW Z (wQ I) Fx ?_
 exact sB Z<|an<|ar (cj h f e j d p S J σ) Z Z ⟨rfl,rfl⟩ CF
theorem wM (I:FK.Ok S):dQ 22 [aX h] (cj h f e j d p S J σ) λv m=>(S.KX=[]->v=d9)/\m=row 55 4 v S.KX.length (qV S S.KX)::cj h f e j d p S J σ:=by
 by_cases E:S.KX=[]
 · refine(wN E).mono ?_
   rintro v m ⟨rfl,rfl⟩;refine⟨_,⟨λ_=>rfl,rfl⟩,?_⟩;rw[E];exact Ent.row0
 · exact(zk I).mono λv m K=>⟨m,⟨λh=>absurd h E,K⟩,aT⟩
end
section
variable {h f d:Nat}
abbrev rI (f h d:Nat) (l fu ke pa:Int) (aft:FK.Dsk->Option Addr×FK.Dsk) (ω:FK.Dsk):Prop:=dQ 51 [aX h,nK l fu ke pa] [bB h d f,aI d ω] λv m=>v=.tuple #[]/\m=[dX h d (aft ω).1,aI d (aft ω).2]
variable {l fu ke pa:Int} {aft:FK.Dsk->Option Addr×FK.Dsk} {Q:Int->FK.En->FK.Jn->FK.Dsk->Prop}
theorem JF (T:dQ 55 [aX f,aQ n] (bX f e j d p S J {σ with left:=l,full:=fu}) λv m=>∃c U I ω,v=eY c/\Q c U I ω/\m=bX f e j d p U I ω) (Y:∀c U I ω,Q c U I ω->rI f h d l fu ke pa aft ω):dQ 25 [aX h,aw 3,aQ n,nK l fu ke pa] (cj h f e j d p S J σ) λv m=>∃c U I ω,v=aw c/\Q c U I ω/\m=[dX h d (aft ω).1,cU f e j,aN e p U,aP j d I,aI d (aft ω).2]:=by
 refine bA Tryz.func25 Z λE fr hE=>cX<|sS<|sO (cR Z Z λO=>(sB Z (sQ (sS (sM Z (da Z (bn 1 Z (aR Z Z Z Z (sP (dS Z Z Z) (sN (aj Z (ae (sT ?_)))))))))))))
 refine bq Z<|bF (bO (vs:=cA l fu ke pa) Z) (bm Z) ?_
 refine bW Z (eH l fu ke pa) (bo bJ kT) ?_;refine aD ?_;refine aq (l':=cU f e j::aN e p S::aP j d J::aI d {σ with left:=l,full:=fu}::bB h d f::blk O 41 (cA l fu ke pa).toArray::fr) (by show Ent (bB h d f::aI d _::blk O 41 (cA l fu ke pa).toArray::cU f e j::aN e p S::aP j d J::fr) _;exact aJ) ?_;refine sN<|sS<|sB Z<|sQ<|bq Z<|sN<|ag<|sS<|sP (aY Z Z Z)<|sB Z ?_
 refine aM Z<|sG<|cG 1 Z Z<|aR Z Z Z Z<|sM Z ?_
 refine bU Z T aT ?_;rintro v m ⟨c,U,I,ω,rfl,K,rfl⟩;refine bS<|sA Z<|ao<|al<|sT<|sQ ?_
 refine aq (l':=bB h d f::aI d ω::cU f e j::aN e p U::aP j d I::blk O 41 (cA l fu ke pa).toArray::fr) aJ ?_;refine sG<|sM Z<|bF (bO (vs:=cA l fu ke pa) Z) (bm Z) ?_
 refine bW Z (Y c U I ω K) aT ?_;refine aD<|sN<|bq Z ?_
 refine bW Z (ip c) aT ?_;refine aZ<|sB Z<|an<|ar [dX h d (aft ω).1,cU f e j,aN e p U,aP j d I,aI d (aft ω).2] rfl Z ⟨c,U,I,ω,rfl,K,rfl⟩ ?_
 show Ent _ (dX h d (aft ω).1::cU f e j::aN e p U::aP j d I::aI d (aft ω).2::fr);exact aJ
theorem JE (T:dQ 56 [aX f,aQ n] (bX f e j d p S J {σ with left:=l,full:=fu}) λv m=>∃c U I ω,v=eY c/\Q c U I ω/\m=bX f e j d p U I ω) (Y:∀c U I ω,Q c U I ω->rI f h d l fu ke pa aft ω):dQ 25 [aX h,aw 4,aQ n,nK l fu ke pa] (cj h f e j d p S J σ) λv m=>∃c U I ω,v=aw c/\Q c U I ω/\m=[dX h d (aft ω).1,cU f e j,aN e p U,aP j d I,aI d (aft ω).2]:=by
 refine bA Tryz.func25 Z λE fr hE=>cX<|sS<|sO (cR Z Z λO=>(sB Z (sQ (sS (sM Z (da Z (bn 1 Z (aR Z Z Z Z (sP (dS Z Z Z) (sN (aj Z (ae (sT ?_)))))))))))))
 refine bq Z<|bF (bO (vs:=cA l fu ke pa) Z) (bm Z) ?_
 refine bW Z (eH l fu ke pa) (bo bJ kT) ?_;refine aD ?_;refine aq (l':=cU f e j::aN e p S::aP j d J::aI d {σ with left:=l,full:=fu}::bB h d f::blk O 41 (cA l fu ke pa).toArray::fr) (by show Ent (bB h d f::aI d _::blk O 41 (cA l fu ke pa).toArray::cU f e j::aN e p S::aP j d J::fr) _;exact aJ) ?_;refine sN<|sS<|sB Z<|sQ<|bq Z<|sN<|ag<|sS<|sP (aY Z Z Z)<|sB Z ?_
 refine aj Z<|sS<|sP (aY Z Z Z)<|sB Z<|aM Z<|sG<|cG 1 Z Z<|aR Z Z Z Z<|sM Z ?_
 refine bU Z T aT ?_;rintro v m ⟨c,U,I,ω,rfl,K,rfl⟩;refine bS<|sA Z<|ao<|al<|sT<|sQ ?_
 refine aq (l':=bB h d f::aI d ω::cU f e j::aN e p U::aP j d I::blk O 41 (cA l fu ke pa).toArray::fr) aJ ?_;refine sG<|sM Z<|bF (bO (vs:=cA l fu ke pa) Z) (bm Z) ?_
 refine bW Z (Y c U I ω K) aT ?_;refine aD<|sN<|bq Z ?_
 refine bW Z (ip c) aT ?_;refine aZ<|sB Z<|an<|ar [dX h d (aft ω).1,cU f e j,aN e p U,aP j d I,aI d (aft ω).2] rfl Z ⟨c,U,I,ω,rfl,K,rfl⟩ ?_
 show Ent _ (dX h d (aft ω).1::cU f e j::aN e p U::aP j d I::aI d (aft ω).2::fr);exact aJ
theorem JD (T:dQ 57 [aX f,aQ n] (bX f e j d p S J {σ with left:=l,full:=fu}) λv m=>∃c U I ω,v=eY c/\Q c U I ω/\m=bX f e j d p U I ω) (Y:∀c U I ω,Q c U I ω->rI f h d l fu ke pa aft ω):dQ 25 [aX h,aw 5,aQ n,nK l fu ke pa] (cj h f e j d p S J σ) λv m=>∃c U I ω,v=aw c/\Q c U I ω/\m=[dX h d (aft ω).1,cU f e j,aN e p U,aP j d I,aI d (aft ω).2]:=by
 refine bA Tryz.func25 Z λE fr hE=>cX<|sS<|sO (cR Z Z λO=>(sB Z (sQ (sS (sM Z (da Z (bn 1 Z (aR Z Z Z Z (sP (dS Z Z Z) (sN (aj Z (ae (sT ?_)))))))))))))
 refine bq Z<|bF (bO (vs:=cA l fu ke pa) Z) (bm Z) ?_
 refine bW Z (eH l fu ke pa) (bo bJ kT) ?_;refine aD ?_;refine aq (l':=cU f e j::aN e p S::aP j d J::aI d {σ with left:=l,full:=fu}::bB h d f::blk O 41 (cA l fu ke pa).toArray::fr) (by show Ent (bB h d f::aI d _::blk O 41 (cA l fu ke pa).toArray::cU f e j::aN e p S::aP j d J::fr) _;exact aJ) ?_;refine sN<|sS<|sB Z<|sQ<|bq Z<|sN<|ag<|sS<|sP (aY Z Z Z)<|sB Z ?_
 refine aj Z<|sS<|sP (aY Z Z Z)<|sB Z<|aj Z<|sS<|sP (aY Z Z Z)<|sB Z<|aM Z<|sG<|cG 1 Z Z<|aR Z Z Z Z ?_
 refine sM Z ?_;refine bU Z T aT ?_;rintro v m ⟨c,U,I,ω,rfl,K,rfl⟩;refine bS<|sA Z<|ao<|al<|sT<|sQ ?_
 refine aq (l':=bB h d f::aI d ω::cU f e j::aN e p U::aP j d I::blk O 41 (cA l fu ke pa).toArray::fr) aJ ?_;refine sG<|sM Z<|bF (bO (vs:=cA l fu ke pa) Z) (bm Z) ?_
 refine bW Z (Y c U I ω K) aT ?_;refine aD<|sN<|bq Z ?_
 refine bW Z (ip c) aT ?_;refine aZ<|sB Z<|an<|ar [dX h d (aft ω).1,cU f e j,aN e p U,aP j d I,aI d (aft ω).2] rfl Z ⟨c,U,I,ω,rfl,K,rfl⟩ ?_
 show Ent _ (dX h d (aft ω).1::cU f e j::aN e p U::aP j d I::aI d (aft ω).2::fr);exact aJ
theorem E4 (T:dQ 58 [aX f,aQ n] (bX f e j d p S J {σ with left:=l,full:=fu}) λv m=>∃c U I ω,v=eY c/\Q c U I ω/\m=bX f e j d p U I ω) (Y:∀c U I ω,Q c U I ω->rI f h d l fu ke pa aft ω):dQ 25 [aX h,aw 6,aQ n,nK l fu ke pa] (cj h f e j d p S J σ) λv m=>∃c U I ω,v=aw c/\Q c U I ω/\m=[dX h d (aft ω).1,cU f e j,aN e p U,aP j d I,aI d (aft ω).2]:=by
 refine bA Tryz.func25 Z λE fr hE=>cX<|sS<|sO (cR Z Z λO=>(sB Z (sQ (sS (sM Z (da Z (bn 1 Z (aR Z Z Z Z (sP (dS Z Z Z) (sN (aj Z (ae (sT ?_)))))))))))))
 refine bq Z<|bF (bO (vs:=cA l fu ke pa) Z) (bm Z) ?_
 refine bW Z (eH l fu ke pa) (bo bJ kT) ?_;refine aD ?_;refine aq (l':=cU f e j::aN e p S::aP j d J::aI d {σ with left:=l,full:=fu}::bB h d f::blk O 41 (cA l fu ke pa).toArray::fr) (by show Ent (bB h d f::aI d _::blk O 41 (cA l fu ke pa).toArray::cU f e j::aN e p S::aP j d J::fr) _;exact aJ) ?_;refine sN<|sS<|sB Z<|sQ<|bq Z<|sN<|ag<|sS<|sP (aY Z Z Z)<|sB Z ?_
 refine aj Z<|sS<|sP (aY Z Z Z)<|sB Z<|aj Z<|sS<|sP (aY Z Z Z)<|sB Z<|aj Z<|sS<|sP (aY Z Z Z)<|sA Z<|ao ?_
 refine sT<|aM Z<|sG<|cG 1 Z Z<|aR Z Z Z Z<|sM Z ?_
 refine bU Z T aT ?_;rintro v m ⟨c,U,I,ω,rfl,K,rfl⟩;refine bS<|sA Z<|ao<|al<|sT<|sQ ?_
 refine aq (l':=bB h d f::aI d ω::cU f e j::aN e p U::aP j d I::blk O 41 (cA l fu ke pa).toArray::fr) aJ ?_;refine sG<|sM Z<|bF (bO (vs:=cA l fu ke pa) Z) (bm Z) ?_
 refine bW Z (Y c U I ω K) aT ?_;refine aD<|sN<|bq Z ?_
 refine bW Z (ip c) aT ?_;refine aZ<|sB Z<|an<|ar [dX h d (aft ω).1,cU f e j,aN e p U,aP j d I,aI d (aft ω).2] rfl Z ⟨c,U,I,ω,rfl,K,rfl⟩ ?_
 show Ent _ (dX h d (aft ω).1::cU f e j::aN e p U::aP j d I::aI d (aft ω).2::fr);exact aJ
theorem hdo8G (T:dQ 60 [aX f,aQ n] (bX f e j d p S J {σ with left:=l,full:=fu}) λv m=>∃c U I ω,v=eY c/\Q c U I ω/\m=bX f e j d p U I ω) (Y:∀c U I ω,Q c U I ω->rI f h d l fu ke pa aft ω):dQ 25 [aX h,aw 8,aQ n,nK l fu ke pa] (cj h f e j d p S J σ) λv m=>∃c U I ω,v=aw c/\Q c U I ω/\m=[dX h d (aft ω).1,cU f e j,aN e p U,aP j d I,aI d (aft ω).2]:=by
 refine bA Tryz.func25 Z λE fr hE=>cX<|sS<|sO (cR Z Z λO=>(sB Z (sQ (sS (sM Z (da Z (bn 1 Z (aR Z Z Z Z (sP (dS Z Z Z) (sN (aj Z (ae (sT ?_)))))))))))))
 refine bq Z<|bF (bO (vs:=cA l fu ke pa) Z) (bm Z) ?_
 refine bW Z (eH l fu ke pa) (bo bJ kT) ?_;refine aD ?_;refine aq (l':=cU f e j::aN e p S::aP j d J::aI d {σ with left:=l,full:=fu}::bB h d f::blk O 41 (cA l fu ke pa).toArray::fr) (by show Ent (bB h d f::aI d _::blk O 41 (cA l fu ke pa).toArray::cU f e j::aN e p S::aP j d J::fr) _;exact aJ) ?_;refine sN<|sS<|sB Z<|sQ<|bq Z<|sN<|ag<|sS<|sP (aY Z Z Z)<|sB Z ?_
 refine aj Z<|sS<|sP (aY Z Z Z)<|sB Z<|aj Z<|sS<|sP (aY Z Z Z)<|sB Z<|aj Z<|sS<|sP (aY Z Z Z)<|sA Z<|ao ?_
 refine sT<|aj Z<|sS<|sP (aY Z Z Z)<|sB Z<|aj Z<|sS<|sP (aY Z Z Z)<|sB Z<|aM Z<|sG<|cG 1 Z Z ?_
 refine aR Z Z Z Z<|sM Z ?_
 refine bU Z T aT ?_;rintro v m ⟨c,U,I,ω,rfl,K,rfl⟩;refine bS<|sA Z<|ao<|al<|sT<|sQ ?_
 refine aq (l':=bB h d f::aI d ω::cU f e j::aN e p U::aP j d I::blk O 41 (cA l fu ke pa).toArray::fr) aJ ?_;refine sG<|sM Z<|bF (bO (vs:=cA l fu ke pa) Z) (bm Z) ?_
 refine bW Z (Y c U I ω K) aT ?_;refine aD<|sN<|bq Z ?_
 refine bW Z (ip c) aT ?_;refine aZ<|sB Z<|an<|ar [dX h d (aft ω).1,cU f e j,aN e p U,aP j d I,aI d (aft ω).2] rfl Z ⟨c,U,I,ω,rfl,K,rfl⟩ ?_
 show Ent _ (dX h d (aft ω).1::cU f e j::aN e p U::aP j d I::aI d (aft ω).2::fr);exact aJ
end
section
variable {h f d t:Nat}
theorem zG (I:S.KY.any (·.1==t)=false):dQ 55 [aX f,aQ t] (bX f e j d p S J σ) λv m=>v=eY 7/\m=bX f e j d p S J σ:=by
 refine bA Tryz.func55 Z λE fr K=>bS<|sS<|sB Z<|bq Z<|sM Z ?_
 refine bW Z (n7 (op:=3) I) aT ?_;exact bS<|sB Z<|an<|ar (bX f e j d p S J σ) Z Z ⟨rfl,rfl⟩ aT
theorem zF {id k:Nat} {wh:Int} {nd:FK.Node} (h:FK.Ok S) (T:t<18446744073709551616) (Y:J.n<1000000) (hr:Roomy σ) (O:(S.KY.find? (·.1==t)).map (·.2)=some ⟨id,(k:Int),wh⟩) (hR:S.getR id=some R) (hnd:R.fl.KW[k]?=some nd) (I:S.sets<9223372036854775807):dQ 55 [aX f,aQ t] (bX f e j d p S J σ) (CallPost f e j d p S J σ 3 t λU=>U=S.life ⟨id,(k:Int),wh⟩ nd):=by
 refine bA Tryz.func55 Z λE fr hE=>bS<|sS<|sB Z<|bq Z<|sM Z ?_
 refine bU Z (n0 (op:=3) (Q:=λU=>U=S.life ⟨id,(k:Int),wh⟩ nd) (sz O) (kh (op:=3) am T Y hr (Hb ((Jh h O hR hnd I).mono λv m K=>⟨m,⟨K.1,_,rfl,K.2⟩,aT⟩)))) aT ?_;rintro v m K;exact sB Z<|an<|ar m Z Z K aT
theorem BU (K:t<18446744073709551616) (O:J.n<1000000) (T:Roomy σ):dQ 60 [aX f,aQ t] (bX f e j d p S J σ) (CallPost f e j d p S J σ 8 t λU=>U={S with seed:=t}):=by
 refine bA Tryz.func60 Z λE fr Y=>bS<|sS<|sB Z<|bq Z<|sM Z ?_
 refine bU Z (kh (op:=8) (Q:=λU=>U={S with seed:=t}) am K O T (G6 ((DE t).mono λv m I=>⟨m,⟨I.1,_,rfl,I.2⟩,aT⟩))) aT ?_;rintro v m I;exact sB Z<|an<|ar m Z Z I aT
theorem nO (I:∀R,S.getR t=some R->R.state≠1):dQ 58 [aX f,aQ t] (bX f e j d p S J σ) λv m=>v=eY 6/\m=bX f e j d p S J σ:=by
 refine bA Tryz.func58 Z λE fr O=>bS<|sS<|sB Z<|sQ<|sS<|cG 0 Z Z<|aR Z Z Z Z<|sM Z ?_
 refine bW Z (uG t) gfE1 ?_;refine aa ?_;refine iw rfl (cD (r:=true) rfl (by cases K:S.getR t with|none=>rfl|some R=>simp[I R K])) ?_;refine sN<|aM Z<|sS<|sP (ef Z Z Z)<|sB Z<|an<|aC<|ar (bX f e j d p S J σ) Z Z ⟨rfl,rfl⟩ ?_
 show Ent _ (cU f e j::aN e p _::aP j d J::aI d σ::fr);exact aJ
theorem ud (h:FK.Ok S) (Y:t<18446744073709551616) (hJ:J.n<1000000) (hr:Roomy σ) (T:S.getR t=some R) (O:R.state=1) (I:S.ends<9223372036854775807):dQ 58 [aX f,aQ t] (bX f e j d p S J σ) (CallPost f e j d p S J σ 6 t λU=>U=S.finish t 4):=by
 refine bA Tryz.func58 Z λE fr hE=>bS<|sS<|sB Z<|sQ<|sS<|cG 0 Z Z<|aR Z Z Z Z<|sM Z ?_
 refine bW Z (uG t) gfE1 ?_;refine aa<|sP (cD (r:=false) Z (by rw[T];simp[O]))<|sN<|aj Z<|ae<|sT<|bq Z<|sM Z ?_
 refine bU Z (kh (op:=6) (Q:=λU=>U=S.finish t 4) am Y hJ hr (G8 ((EK h T I).mono λv m K=>⟨m,⟨K.1,_,rfl,K.2⟩,aT⟩))) (gfE1.trans (Ent.cons (cF .head .head .head))) ?_;rintro v m K;exact sB Z<|an<|ar m Z Z K aT
end
end Go.Y
namespace Go.Y
open Go.Proofs Go.RowKit Go.Deep
def ErrAt (w:World) (E:Nat) (v:Value) (p:Int×Int):Prop:=
 (p.1=0/\v=.nilIface)\/(p.1≠0/\∃b,v=.iface 159 (.pointer (some ⟨b,0,none⟩))/\E<=b/\Blk w b 164 #[.int .i64 p.1,.int .i64 p.2])
theorem ErrAt.made {w:World} {E:Nat} {p:Int×Int} (I:p.1≠0) (J:E<=w.heap.size) :
 ErrAt (w.alloc (.cells #[.int .i64 p.1,.int .i64 p.2] 164)) E (.iface 159 (.pointer (some ⟨w.heap.size,0,none⟩))) p:=
 .inr ⟨I,_,rfl,J,Blk.made _ _ _⟩
theorem ErrAt.keep {w':World} {p:Int×Int} (h:ErrAt w e v p) (J:∀b,e<=b->b<w.heap.size->w'.heap[b]?=w.heap[b]?):ErrAt w' e v p:=by
 rcases h with h|⟨K,b,O,I,hk⟩
 · exact .inl h
 · exact .inr ⟨K,b,O,I,(J b I hk.lt).trans hk⟩
theorem mE (n low:Int) (w:World) (E:low<=n) (I:n<=1048576) :
 Calls Tryz.prog 138 #[.int .i64 n,.int .i64 low] w λe w'=>e=.returned (.bool true)/\w=w':=by
 go_enter Tryz.func138,Tryz.ntmps138
 go_wp2
 go_ret
 exact⟨rfl,rfl⟩
theorem Cx (n low:Int) (w:World) (h:n<low\/1048576<n) :
 Calls Tryz.prog 138 #[.int .i64 n,.int .i64 low] w λe w'=>e=.returned (.bool false)/\w=w':=by
 by_cases I:low<=n
 · have E:decide (n<=1048576)=false:=by simp;omega
   clear h
   go_enter Tryz.func138,Tryz.ntmps138
   go_wp2
   go_ret
   exact⟨rfl,rfl⟩
 · have E:n<low:=am
   clear h
   go_enter Tryz.func138,Tryz.ntmps138
   go_wp2
   go_ret
   exact⟨rfl,rfl⟩
theorem gL (e a:Int) (w:World) :
 Calls Tryz.prog 137 #[.int .i64 e,.int .i64 a] w λE w'=>E=.returned (.iface 159 (.pointer (some ⟨w.heap.size,0,none⟩)))/\w.alloc (.cells #[.int .i64 e,.int .i64 a] 164)=w':=by
 go_enter Tryz.func137,Tryz.ntmps137
 go_wp2
 go_ret
 exact⟨rfl,rfl⟩
theorem Bs (k:Int) (w:World) :
 Calls Tryz.prog 140 #[.int .i64 k] w λE w'=>E=.returned (.tuple #[])/\w=w':=by
 go_enter Tryz.func140,Tryz.ntmps140
 go_wp2
 go_end0
 exact⟨rfl,rfl⟩
theorem tq {n:FK.Node} (h:¬FK.fB n) :
 n.KZ<1\/(1<=n.KZ/\5<n.KZ)\/((1<=n.KZ/\n.KZ<=5)/\(n.close<1\/1048576<n.close))\/
 ((1<=n.KZ/\n.KZ<=5)/\(1<=n.close/\n.close<=1048576)/\(n.beat<0\/1048576<n.beat))\/
 ((1<=n.KZ/\n.KZ<=5)/\(1<=n.close/\n.close<=1048576)/\(0<=n.beat/\n.beat<=1048576)/\(n.base<1\/1048576<n.base))\/
 ((1<=n.KZ/\n.KZ<=5)/\(1<=n.close/\n.close<=1048576)/\(0<=n.beat/\n.beat<=1048576)/\(1<=n.base/\n.base<=1048576)/\(n.cap<n.base\/1048576<n.cap))\/
 ((1<=n.KZ/\n.KZ<=5)/\(1<=n.close/\n.close<=1048576)/\(0<=n.beat/\n.beat<=1048576)/\(1<=n.base/\n.base<=1048576)/\(n.base<=n.cap/\n.cap<=1048576)/\(n.K0<0\/1048576<n.K0)):=by
 unfold FK.fB FK.span at h;omega
def CheckPost (w:World) (p:Int×Int) (e:Ending) (w':World):Prop:=∃v,e=.returned v/\ErrAt w' w.heap.size v p/\Below w.heap.size w w'
theorem eU {w':World} {p:Int×Int} (I:p.1≠0) (E:Below w.heap.size w w') (J:w'.heap.size=b) :
 CheckPost w p (.returned (.iface 159 (.pointer (some ⟨b,0,none⟩)))) (w'.alloc (.cells #[.int .i64 p.1,.int .i64 p.2] 164)):=
 ⟨_,rfl,by subst J;exact .made I E.size,E.alloc E.size _⟩
theorem Ca (w:World) (A:Option Addr) (c:Nat) (f:FK.Flow) (J:¬FK.im f):Calls Tryz.prog 89 #[.agg #[.int .i64 f.deadline,.slice A f.KW.length c]] w (CheckPost w (FK.chk f)):=by
 have Y:=Lib.hid (FK.Checked.head J).chk;have E:(f.deadline<1\/1048576<f.deadline)\/((1<=f.deadline/\f.deadline<=1048576)/\f.KW.length=0)\/((1<=f.deadline/\f.deadline<=1048576)/\12<f.KW.length):=by
  unfold FK.im FK.span at J;omega
 clear J;rw[Y.out];rcases E with h|⟨⟨O,T⟩,h3⟩|⟨⟨O,T⟩,h3⟩
 · go_enter Tryz.func89,Tryz.ntmps89
   go_wp2_with (first
    | (go_at_call 138;refine(Cx _ _ _ am).mono ?_;rintro e I ⟨rfl,rfl⟩)
    | (go_at_call 137;refine(gL _ _ _).mono ?_;rintro e I ⟨rfl,rfl⟩))
   go_ret
   refine eU (w:=w) (p:=(2,-1)) fi ?_ cY;exact pd
 · have K:((f.KW.length:Int)==0)=true:=by simp[h3]
   have H3:=Lib.hid h3;clear h3
   go_enter Tryz.func89,Tryz.ntmps89
   go_wp2_with (first
    | (go_at_call 138;refine(mE _ _ _ am am).mono ?_;rintro e I ⟨rfl,rfl⟩)
    | (go_at_call 137;refine(gL _ _ _).mono ?_;rintro e I ⟨rfl,rfl⟩))
   go_ret
   refine eU (w:=w) (p:=(2,-1)) fi ?_ cY;exact pd
 · have K:((f.KW.length:Int)==0)=false:=by rw[beq_eq_false_iff_ne];omega
   go_enter Tryz.func89,Tryz.ntmps89
   go_wp2_with (first
    | (go_at_call 138;refine(mE _ _ _ am am).mono ?_;rintro e I ⟨rfl,rfl⟩)
    | (go_at_call 137;refine(gL _ _ _).mono ?_;rintro e I ⟨rfl,rfl⟩))
   go_ret
   refine eU (w:=w) (p:=(2,-1)) fi ?_ cY;exact pd
theorem Tab.lt (h:Tab w):2<w.heap.size:=by
 have J:=h 0 fi;rcases Nat.lt_or_ge 2 w.heap.size with E|I
 · exact E
 · unfold World.cell? at J
   simp[Array.getElem?_eq_none I] at J
theorem Tab.below {w':World} (h:Tab w) (E:Below w.heap.size w w'):Tab w':=h.keep E.to_same h.lt
theorem tE {len m:Nat} {p:Int} {l:List Int} (E:m<l.length):FK.EdgesOk len p (l.drop m)<->(p<l[m]/\l[m]<len/\FK.EdgesOk len l[m] (l.drop (m+1))):=by
 rw[List.drop_eq_getElem_cons E];rfl
def Dd (len:Nat) (l:List Int) (m:Nat) (E:Int):Prop:=FK.EdgesOk len (-1) l<->FK.EdgesOk len E (l.drop m)
theorem Cb (w:World) (B:Nat) (A:Option Addr) (c:Nat) (f:FK.Flow) (hB:B<=w.heap.size) (hN:NodesAt w B A c f.KW) (hT:Tab w)
 (hh:FK.im f):Calls Tryz.prog 89 #[.agg #[.int .i64 f.deadline,.slice A f.KW.length c]] w (CheckPost w (FK.chk f)):=by
 have Lc:=hh;obtain⟨⟨d1,d2⟩,l1,l2⟩:=Lc;have HN:=Lib.hid hN;have HT:=Lib.hid hT;have HH:=Lib.hid hh;have g1:=hN.len;have g2:=hN.cap;clear hT hh hN;have hz:((f.KW.length:Int)==0)=false:=by rw[beq_eq_false_iff_ne];omega
 have K6:∀(args:Array Value) (W:World),(callFunc 140 args).run Tryz.prog W=.ok (.enter 140 args) W:=λargs W=>by kernel_rfl
 have Lm:=Lib.hid K6;clear K6
 go_enter Tryz.func89,Tryz.ntmps89
 go_wp2_with (go_at_call 138;refine(mE _ _ _ am am).mono ?_;rintro e w2 ⟨rfl,rfl⟩)
 go_loopw [33] (λi wr=>∃k:Nat,k<=f.KW.length/\i=.int .i64 k/\FK.OkTo f k/\Below w.heap.size w wr/\w.heap.size<wr.heap.size/\wr.cell? ⟨w.heap.size,1,none⟩=some (.slice A f.KW.length c)) (λi _=>f.KW.length-(RowKit.intOf i).toNat)
 case atStart=>exact⟨0,am,rfl,λj n hj=>by omega,pd,by simp,by go_simp⟩
 case round=>
  obtain⟨k,hk,rfl,mt,hb,Ly,Lz⟩:=hrel
  by_cases Lt:k<f.KW.length
  · obtain⟨b,off,rfl,Lr,wf⟩:=HN.out.cells am
    have Fd:f.KW[k]?=some f.KW[k]:=by simp[Lt]
    obtain⟨n,hn⟩:∃n,n=f.KW[k]:=⟨_,rfl⟩;rw[<-hn] at Fd;clear hn;have Ld:=(wf k n Fd).keep (hb.to_same.mono hB) Lr;obtain⟨c0,c1,c2,c3,c4,c5,⟨A6,n6,c6,hi⟩,hr⟩:=Ld;have In:=Lib.hid hi;have K3:=Lib.hid Fd;have J:=Lib.hid mt;have HB:=Lib.hid hb;clear wf hr hi Fd mt hb
    by_cases hno:FK.fB n
    · have Le:=Lib.hid hno
      obtain⟨a1,a2,⟨a3,a4⟩,⟨a5,a6⟩,⟨a7,a8⟩,⟨a9,LA⟩,LB,LC⟩:=hno;have LH:=In.out.len;have LJ:=In.out.cap
      go_wp2_with (go_at_call 138;refine(mE _ _ _ am am).mono ?_;rintro e w2 ⟨rfl,rfl⟩)
      go_loop [7,89] (λs t=>∃(m:Nat) (I:Int),m<=n.after.length/\t=.int .i64 m/\s=.int .i64 I/\-1<=I/\I<f.KW.length/\Dd f.KW.length n.after m I) (λ_ t=>n.after.length-(RowKit.intOf t).toNat)
      case atStart=>exact⟨0,-1,am,rfl,rfl,am,am,by simp[Dd]⟩
      case round=>
       obtain⟨m,I,hm,rfl,rfl,O,LD,Lj⟩:=hrel;have K4:=Lib.hid Lj;clear Lj
       by_cases K7:m<n.after.length
       · obtain⟨b6,o6,Ls,LE,Ll⟩:=In.out.cells am
         have Lu:=Ll m n.after[m] (by simp[K7]);have Ln:=In.out.rng n.after[m] (List.getElem_mem _);obtain⟨x,hx⟩:∃x,x=n.after[m]:=⟨_,rfl⟩;rw[<-hx] at Lu Ln;have HD:=Lib.hid (tE (len:=f.KW.length) (p:=I) K7);rw[<-hx] at HD;obtain⟨LF,LG⟩:=Ln;have Lv:b6<wr.heap.size:=am;subst Ls;clear Ll hx
         by_cases h1:x<=I
         · have K:¬FK.EdgesOk f.KW.length (-1) n.after:=λhe=>by have:=(HD.out.1 (K4.out.1 he)).1;omega
           have HR:=Lib.hid (FK.Checked.edge k n HH.out J.out K3.out Le.out K).chk;clear K
           go_wp2_with (go_at_call 137;refine(gL _ _ _).mono ?_;rintro e w2 ⟨rfl,rfl⟩)
           go_ret
           rw[HR.out];refine eU (w:=w) (p:=(3,(k:Int))) cY ?_ cY;exact(mf HB.out)
         · by_cases h2:(f.KW.length:Int)<=x
           · have K:¬FK.EdgesOk f.KW.length (-1) n.after:=λhe=>by have:=(HD.out.1 (K4.out.1 he)).2.1;omega
             have HR:=Lib.hid (FK.Checked.edge k n HH.out J.out K3.out Le.out K).chk;clear K
             go_wp2_with (go_at_call 137;refine(gL _ _ _).mono ?_;rintro e w2 ⟨rfl,rfl⟩)
             go_ret
             rw[HR.out];refine eU (w:=w) (p:=(3,(k:Int))) cY ?_ cY;exact(mf HB.out)
           · go_wp2
             go_round
             case rel=>exact⟨m+1,x,am,by go_num,rfl,am,am,K4.out.trans (HD.out.trans ⟨λh=>h.2.2,λh=>⟨am,am,h⟩⟩)⟩
             case measure=>simp[RowKit.intOf];omega
       · have Y:FK.EdgesOk f.KW.length (-1) n.after:=K4.out.2 (by rw[List.drop_of_length_le am];trivial)
         have BT:FK.OkTo f (k+1):=λj n' hj Li=>by
          rcases Nat.lt_or_ge j k with h|h
          · exact J.out j n' h Li
          · obtain rfl:j=k:=am
            have:=K3.out;rw[Li] at this;cases this;exact⟨Le.out,Y⟩
         have Lg:=Lib.hid BT;clear BT Y
         go_wp2
         go_roundw
         case rel=>exact⟨k+1,am,by go_num,Lg.out,(mf HB.out),by simp;omega,by go_simp⟩
         case measure=>simp[RowKit.intOf];omega
    · have HR:=Lib.hid (FK.Checked.bound k n HH.out J.out K3.out hno).chk
      have Lh:=tq hno;clear hno;rcases Lh with h|⟨h0,h⟩|⟨h0,h⟩|⟨h0,h2,h⟩|⟨h0,h2,h3,h⟩|⟨h0,h2,h3,h4,h⟩|⟨h0,h2,h3,h4,h5,h⟩
      all_goals
       go_wp2_with (first
        | (go_at_call 138;refine(mE _ _ _ am am).mono ?_;rintro e w2 ⟨rfl,rfl⟩)
        | (go_at_call 138;refine(Cx _ _ _ am).mono ?_;rintro e w2 ⟨rfl,rfl⟩)
        | (go_at_call 137;refine(gL _ _ _).mono ?_;rintro e w2 ⟨rfl,rfl⟩))
       go_ret
       rw[HR.out];refine eU (w:=w) (p:=(2,(k:Int))) cY ?_ cY;exact(mf HB.out)
  · obtain rfl:k=f.KW.length:=am
    have J:=Lib.hid mt;have HB:=Lib.hid hb;have LK:=HT.out.lt;have hv:=mt.aft_lt;have K8:∀n∈f.KW,∀x∈n.after,0<=x:=λn hn x hx=>by
     obtain⟨i,hi,rfl⟩:=List.mem_iff_getElem.1 hn;have:=(mt i f.KW[i] hi (by simp[hi])).2.bounds x hx;omega
    have Lo:=Lib.hid (pL wr B A c f.KW 140 #[] (λW _=>Below wr.heap.size wr W) am l2 hv K8 Lm.out (Below.refl _ _)
     (λW T h=>⟨(HN.out.keep (hb.to_same.mono hB)).keep (h.to_same.mono am),(HT.out.below hb).below h,h.size⟩)
     (λW W' T h h'=>h.trans h')
     (λW T k h _ _ _=>(Bs k W).mono λe W' ⟨he,hw⟩=>by subst hw;exact⟨he,h,cu _,λ_ _ _=>rfl⟩))
    clear mt hb hv K8
    go_wp2_with (fail)
    refine Lo.out.mono ?_;rintro e w2 ⟨left,T,rfl,K9,Lb,K5⟩;have E:=Lb.stuck (J.out.aft_lt) K5;have LL:=mP Lb l2;have Lp:=Lib.hid (HB.out.trans (K9.mono HB.out.size));have Lw:=Lib.hid ((HT.out.below HB.out).below K9);clear K9 Lb K5
    by_cases O:left=0
    · have HR:=Lib.hid (FK.Checked.ok HH.out J.out λi hi=>Classical.byContradiction λhn=>by
       have:=(E i).2 ⟨hi,hn⟩;rw[O] at this;simp at this).chk
      have Lx:((left:Int) !=0)=false:=by rw[O];rfl
      clear E O
      go_wp2
      go_ret
      rw[HR.out];exact⟨_,rfl,.inl ⟨rfl,rfl⟩,Lp.out⟩
    · obtain⟨t1,t2,t3⟩:=rx left am O
      have Lq:=Lib.hid (rT left am O w2 Lw.out);have Lx:((left:Int) !=0)=true:=by rw[bne_iff_ne];omega
      generalize Lib.ctz 64 left=t at Lq t1 t2 t3
      have ht:=(E t).1 t1;have HR:=Lib.hid (FK.Checked.cycle t HH.out J.out ht.1 ht.2 λj hj=>Classical.byContradiction λhn=>by
       have:=(E j).2 ⟨am,hn⟩;rw[t2 j hj] at this;cases this).chk
      clear E O t1 t2 ht
      go_wp2_with (first
       | (go_at_call 141;refine Lq.out.mono ?_;rintro e w3 ⟨rfl,rfl⟩)
       | (go_at_call 137;refine(gL _ _ _).mono ?_;rintro e w3 ⟨rfl,rfl⟩))
      go_ret
      rw[HR.out];refine eU (w:=w) (p:=(4,(t:Int))) cY ?_ cY;exact(mf Lp.out)
theorem pM (w:World) (B:Nat) (A:Option Addr) (c:Nat) (f:FK.Flow) (I:B<=w.heap.size) (J:NodesAt w B A c f.KW) (K:Tab w) :
 Calls Tryz.prog 89 #[.agg #[.int .i64 f.deadline,.slice A f.KW.length c]] w (CheckPost w (FK.chk f)):=by
 by_cases E:FK.im f
 · exact Cb w B A c f I J K E
 · exact Ca w A c f E
end Go.Y
namespace Go.SL
open Go.RowKit
theorem Holds.fresh {w':World} {o:Obj} (h:Holds E w l) (I:Below w.heap.size w w') (O:w.heap.size<=b) (K:w'.heap[b]?=some o):Holds E w' (SL.ob b o::l):=by
 refine⟨h.is.below I,λk=>k=b,E.free w,λk hk=>?_,λk hk=>⟨Nat.lt_of_lt_of_le hk.1 I.size,hk.2⟩,λk hk J=>?_,⟨rfl,K⟩,h.star.loc (λ_ h=>h) λk hk=>I.block k hk.1⟩
 · subst hk
   refine⟨(Array.getElem?_eq_some_iff.1 K).1,λp T e=>?_⟩;have:=h.is.lt T;omega
 · have:=J.1
   omega
end Go.SL
namespace Go.Y
open Go.Proofs Go.RowKit Go.SL
section
variable {p:Int×Int}
def ErrPost (p:Int×Int) (v:Value) (m:List HP):Prop:=(p.1=0/\v=.nilIface/\m=[])\/(p.1≠0/\∃b,v=.iface 159 (.pointer (some ⟨b,0,none⟩))/\m=[blk b 164 #[aw p.1,aw p.2]])
theorem ErrPost.ok (h:ErrPost p v m) (E:p.1=0):v=.nilIface/\m=[]:=by
 rcases h with⟨_,h⟩|⟨h,_⟩
 · exact h
 · exact absurd E h
theorem ErrPost.bad (h:ErrPost p v m) (E:p.1≠0):∃b,v=.iface 159 (.pointer (some ⟨b,0,none⟩))/\m=[blk b 164 #[aw p.1,aw p.2]]:=by
 rcases h with⟨h,_⟩|⟨_,h⟩
 · exact absurd h E
 · exact h
theorem qv (f:FK.Flow) (A:Option Addr) (c:Nat):Gives Tryz.prog Good 89 [.agg #[aw f.deadline,.slice A f.KW.length c]].toArray (λw=>NodesAt w w.heap.size A c f.KW)
 (ErrPost (FK.chk f)):=λE w hE hw hN=>
 (pM w w.heap.size A c f (cu _) hN (hE.tab w hw)).mono λe w' ⟨v,O,I,T⟩=>by
  have Y:=(Holds.start hw);rcases I with⟨J,rfl⟩|⟨J,b,rfl,K,ho⟩
  · exact⟨_,[],O,.inl ⟨J,rfl,rfl⟩,Y.below T⟩
  · exact⟨_,[_],O,.inr ⟨J,b,rfl,rfl⟩,Y.fresh T K ho⟩
theorem Hh (h:FK.rd bs 0=.error e):FK.nF bs=.error (1,(e:Int)):=by
 unfold FK.nF FK.iF;rw[pw h]
 rfl
theorem Bj {q:Nat} (h:FK.rd bs 0=.ok (n,q)) (E:FK.fK bs (FK.gC bs) q=.error e):FK.nF bs=.error (1,(e:Int)):=by
 unfold FK.nF FK.iF;rw[oE h];simp only[FK.andThen,E]
theorem DR {q:Nat} {ns:List FK.Node} (h:FK.rd bs 0=.ok (n,q)) (E:FK.fK bs (FK.gC bs) q=.ok (ns,q')):FK.iF bs 0=.ok (⟨n,ns⟩,q'):=by
 unfold FK.iF;rw[oE h];simp only[FK.andThen,E]
theorem yg {q:Nat} (h:FK.iF bs 0=.ok (f,q)) (E:q<bs.length):FK.nF bs=.error (1,(q:Int)):=by
 unfold FK.nF;rw[h];simp only[E,if_true]
theorem C8 {q:Nat} (h:FK.iF bs 0=.ok (f,q)) (E:¬q<bs.length) (hc:(FK.chk f).1≠0):FK.nF bs=.error ((FK.chk f).1,(FK.chk f).2):=by
 unfold FK.nF;rw[h];simp only[E,if_false,hc]
theorem yh {q:Nat} (h:FK.iF bs 0=.ok (f,q)) (E:¬q<bs.length) (hc:(FK.chk f).1=0):FK.nF bs=.ok f:=by
 unfold FK.nF;rw[h];simp only[E,if_false,hc,if_true]
end
theorem tG (I J:Nat) (x y z:Value):DoesD Tryz.prog G 150 [.pointer (some ⟨I,0,none⟩),.pointer (some ⟨J,0,none⟩)].toArray .returning .returning [blk I 29 #[x,y],blk J 109 #[z]]
 λm=>m=[blk I 29 #[x,y],blk J 109 #[z]]:=by
 refine DoesD.recover (v:=.nilIface) Tryz.func150 Z Z Z (.inl ⟨rfl,rfl,rfl⟩) λE fr K=>?_;exact aD<|ag<|sS<|sP (kC Z Z)<|sN<|aM Z<|sG<|sA Z<|ao<|al<|bD [_,_] rfl ⟨rfl,rfl⟩ aT
theorem pH (I J e:Nat) (x y z:Value):DoesD Tryz.prog G 150 [.pointer (some ⟨I,0,none⟩),.pointer (some ⟨J,0,none⟩)].toArray (.panicking (Cq e)) (.panicking [{v:=.iface 237 (aw e),recovered:=true}]) [blk I 29 #[x,y],blk J 109 #[z]]
 λm=>∃b,m=[blk I 29 #[aw 0,cx],blk J 109 #[.iface 159 (.pointer (some ⟨b,0,none⟩))],blk b 164 #[aw 1,aw e]]:=by
 refine DoesD.recover (v:=.iface 237 (aw e)) Tryz.func150 Z Z Z (.inr ⟨[],rfl,rfl⟩) λE fr O=>?_;refine aD<|ag<|sS<|sP (dV Z Z)<|sN<|aj Z<|sS<|sP (ev_as Z Z Z)<|bT Z Z<|bT Z Z<|sN<|aM Z<|sS<|sA Z<|ao ?_
 refine sT<|sG<|sP (bI (ps:=[]) (vs:=[]) (cs:=#[aw 0,cx]) Z Z Z Z Z)<|ch Z (bI (ps:=[(0,.const (aw 1)),(1,.tmp 12)]) (vs:=[aw 1,aw e]) (cs:=#[aw 1,aw e]) Z Z Z Z Z)<|sO (cR Z Z λK=>(sP (ef Z Z Z) ?_))
 refine sO<|bh Z (m:=2) (vs:=[aw 0,cx]) Z Z Z Z er cY ?_
 exact bR Z Z Z Z cY<|ao<|al<|bD [_,_,_] rfl ⟨rfl,K,rfl⟩<|Ent.perm<|List.Perm.swap _ _ _
def ReadPost (bs:List UInt8) (p:HP) (v:Value) (m:List HP):Prop:=
 (∃(f:FK.Flow) (E:Option Addr) (I:Nat),FK.nF bs=.ok f/\(∀nd∈f.KW,Small nd)/\v=.tuple #[.agg #[aw f.deadline,.slice E f.KW.length I],.nilIface]/\m=[nodesOwn (.slice E f.KW.length I) f.KW,p])\/
 (∃(e a:Int) (b:Nat),FK.nF bs=.error (e,a)/\e≠0/\v=.tuple #[.agg #[aw 0,cx],.iface 159 (.pointer (some ⟨b,0,none⟩))]/\m=[blk b 164 #[aw e,aw a],p])
theorem pu {p:HP} (hp:Reads p A bs) (hl:bs.length<=1099511627776) :
 dQ 93 [.slice A bs.length c] [p] (ReadPost bs p):=by
 refine tL Tryz.func93 Z Z λE fr K=>?_;refine aa<|sS<|sO (cH (z:=.agg #[aw 0,cx]) Z λb2=>(sO (cH (z:=.nilIface) Z λb3=>(sN (sS ?_)))))
 refine sP (gP Z Z) ?_;refine sO<|CK Z<|sN<|bq Z<|sP (bI (ps:=[(0,.tmp 7)]) (vs:=[.slice A bs.length c]) (cs:=#[.slice A bs.length c,aw 0]) Z Z Z Z Z)<|sO (cR Z Z λb9=>(sB Z (sS (sM Z ?_))))
 refine sO<|m5 Z Z Z K (ib (c:=c) hp hl b9 0 (Nat.zero_le _)) (bo .head de) ?_ ?_
 ·
  rintro c m ⟨e,q',he,rfl,rfl⟩;refine aD<|cN ?_
  refine lW Z Z K (pH b2 b3 e _ _ _) (bo gt de) ?_;rintro m ⟨b,rfl⟩;refine cJ ?_;exact dr [_,_] rfl (bM (vs:=[aw 0,cx]) Z Z Z Z (bm Z)) (gc Z Z (ah Z)) (.inr ⟨1,e,b,Hh he,am,rfl,rfl⟩)<|Ent.drop.trans<|Ent.drop.trans<|Ent.cons Ent.drop
 rintro v m ⟨n,q1,hn,rfl,rfl⟩;refine aD<|bn 0 Z ?_
 refine bR Z Z Z Z gN ?_;refine sN<|bq Z<|sM Z ?_
 refine sP (gP Z Z) ?_;refine sO<|m5 Z Z Z K (D8 (c:=c) hp hl b9 q1 (FK.rF hn).2.2) (bo bJ bJ) ?_ ?_
 ·
  rintro c m ⟨e,q',he,rfl,rfl⟩;refine aD<|cN ?_
  refine lW Z Z K (pH b2 b3 e _ _ _) (bo de de) ?_;rintro m ⟨b,rfl⟩;refine cJ ?_;exact dr [_,_] rfl (bM (vs:=[aw 0,cx]) Z Z Z Z (bm Z)) (gc Z Z (ah Z)) (.inr ⟨1,e,b,Bj hn he,am,rfl,rfl⟩)<|Ent.drop.trans<|Ent.drop.trans<|Ent.cons Ent.drop
 rintro v m ⟨ns,q2,wf,BT,Y,⟨O,T,rfl⟩,rfl⟩;refine cJ<|bn 1 Z<|bR Z Z Z Z (by simp[Value.cells]) ?_
 have I:=DR hn wf;refine sN<|sQ<|sS<|cG 1 Z Z<|aR Z Z Z Z<|ch Z (bp Z Z)<|sP (bz Z Z Z)<|sN ?_
 refine aB Z (λmt=>?_) λmt=>?_
 ·
  refine sG<|cG 1 Z Z<|aR Z Z Z Z<|sP (ef Z Z Z)<|sO<|CI Z<|cN ?_
  refine lW Z Z K (pH b2 b3 q2 _ _ _) (bo .head gt) ?_;rintro m ⟨b,rfl⟩;refine cJ ?_;exact dr [_,_] rfl (bM (vs:=[aw 0,cx]) Z Z Z Z (bm Z)) (gc Z Z (ah Z)) (.inr ⟨1,q2,b,yg I am,am,rfl,rfl⟩)<|Ent.drop.trans<|Ent.drop.trans<|Ent.cons<|Ent.drop.trans Ent.drop
 ·
  refine ae<|sT<|sQ<|sQ ?_
  by_cases J:(FK.chk ⟨n,ns⟩).1=0
  ·
   refine sG<|bF (bO (vs:=[aw n,.slice O ns.length T]) Z) (bm Z) ?_
   refine sO<|mz Z Z Z K (qv ⟨n,ns⟩ O T) (nodesOwn.at bJ λnd hnd=>(Y nd hnd).i64) ?_
   rintro v m hv;obtain⟨rfl,rfl⟩:=hv.ok J;refine aZ<|sB Z<|bq Z<|sP (eT Z Z)<|sN<|aj Z<|ae<|sT<|sS<|bF (bO (vs:=[aw n,.slice O ns.length T]) Z) (bm Z) ?_
   refine sO<|bh Z (m:=2) (vs:=[aw n,.slice O ns.length T]) Z Z Z Z er (by simp[Value.cells]) ?_
   refine bR Z Z Z Z gN ?_;refine sN<|an ?_
   refine mU (.inl Z) Z Z K (tG b2 b3 _ _ _) (bo bJ .head) ?_;rintro m rfl;refine aD ?_;exact dr [_,_] rfl (bM (vs:=[aw n,.slice O ns.length T]) Z Z Z Z (bm Z)) (gc Z Z (ah Z)) (.inl ⟨⟨n,ns⟩,O,T,yh I am J,Y,rfl,rfl⟩)<|Ent.drop.trans<|Ent.drop.trans<|Ent.cons Ent.drop
  ·
   refine sG<|bF (bO (vs:=[aw n,.slice O ns.length T]) Z) (bm Z) ?_
   refine sO<|mz Z Z Z K (qv ⟨n,ns⟩ O T) (nodesOwn.at bJ λnd hnd=>(Y nd hnd).i64) ?_
   rintro v m hv;obtain⟨b,rfl,rfl⟩:=hv.bad J;refine aa<|sB Z<|bq Z<|sP (i7 Z Z)<|sN<|aM Z<|sS<|sP (bI (ps:=[]) (vs:=[]) (cs:=#[aw 0,cx]) Z Z Z Z Z)<|sM Z ?_
   refine sO<|bh Z (m:=2) (vs:=[aw 0,cx]) Z Z Z Z er (by simp[Value.cells]) ?_
   refine bR Z Z Z Z gN ?_;refine sN<|an<|aC ?_
   refine mU (.inl Z) Z Z K (tG b2 b3 _ _ _) (bo bJ .head) ?_;rintro m rfl;refine aD ?_;exact dr [_,_] rfl (bM (vs:=[aw 0,cx]) Z Z Z Z (bm Z)) (gc Z Z (ah Z)) (.inr ⟨_,_,b,C8 I am J,J,rfl,rfl⟩)<|Ent.drop.trans<|Ent.drop.trans<|Ent.cons<|Ent.drop.trans Ent.drop
theorem GU (u w:Value) (E:u.oneCell'=true) (hw:w.oneCell'=true) (z:Value) (I:z.cells.size=1):Instr.fill (λi=>some (i*1,1)) (Array.map (λx=>z.cells[x%z.cells.size]!) (Array.range (2*1))) ((List.map (λx=>x.fst) [((0:Nat),Operand.tmp 30),(1,.tmp 31)]).zip [u,w])=some #[u,w]:=by
 have e1:Array.range (2*1)=#[0,1]:=rfl;rw[e1];simp[Instr.fill,kg E,kg hw,I]
def SubmitPost (f e j d:Nat) (p:EA) (S:FK.En) (J:FK.Jn) (σ:FK.Dsk) (bs:List UInt8) (fl:FK.Flow) (E:HP) (v:Value) (m:List HP):Prop:=
 ((J.add σ (ii (FK.frame (1::bs)))).2.2=0/\∃I K,FK.Cut S I/\v=.tuple #[aQ (S.KT+1),.nilIface]/\m=bX f e j d K (I.submit fl) (J.add σ (ii (FK.frame (1::bs)))).1 (J.add σ (ii (FK.frame (1::bs)))).2.1++[E])\/
 ((J.add σ (ii (FK.frame (1::bs)))).2.2≠0/\v=.tuple #[aQ 0,eY (J.add σ (ii (FK.frame (1::bs)))).2.2]/\m=bX f e j d p S (J.add σ (ii (FK.frame (1::bs)))).1 (J.add σ (ii (FK.frame (1::bs)))).2.1++[E])
theorem wP {f d:Nat} {pb:HP} (h:FK.Ok S) (hJ:J.n<1000000) (hr:Roomy σ) (hp:Reads pb A bs) (hA:A=none->bs=[]) (hl:bs.length<=1000000000) (hd:FK.nF bs=.ok fl) (K:FK.Fit fl) (wf:S.roomy=true) (BT:S.sets<9223372036854775807) (K4:S.KT<9223372036854775807):dQ 50 [aX f,.slice A bs.length c] (bX f e j d p S J σ++[pb]) (SubmitPost f e j d p S J σ bs fl pb):=by
 have Lb:=K.head.2.2;have h1:=K.head.2.1;obtain⟨K7,K8⟩:=K.head.1;refine bA Tryz.func50 Z λE fr hE=>cX<|sS<|sA Z<|sB Z<|bq Z ?_
 refine bU Z (pu hp am) gfE4 ?_;rintro v m T;obtain⟨Y,c',Fd,rfl,rfl⟩:∃Y c',(∀nd∈fl.KW,Small nd)/\v=.tuple #[.agg #[aw fl.deadline,.slice Y fl.KW.length c'],.nilIface]/\m=[nodesOwn (.slice Y fl.KW.length c') fl.KW,pb]:=by
  rcases T with⟨f',Y,c',I,Fd,T,hm⟩|⟨e',a',b',I,_⟩
  · rw[hd] at I
    injection I with I;subst I;exact⟨Y,c',Fd,T,hm⟩
  · rw[hd] at I
    cases I
 refine aD<|sM Z<|bT Z Z<|bT Z Z<|sO (cH (z:=.agg #[aw 0,cx]) Z λb6=>?_)
 refine sO<|bh Z (m:=2) (vs:=[aw fl.deadline,.slice Y fl.KW.length c']) Z Z Z Z er (by simp[Value.cells]) ?_
 refine aG b6 #[aw fl.deadline,.slice Y fl.KW.length c'] rfl<|sB Z<|sQ<|ag<|bq Z<|sP (eT Z Z)<|sB Z<|aj Z<|sS<|cG 0 Z Z<|aR Z Z Z Z ?_
 refine bW Z uJ (Ent.sel HasEng.sel) ?_;refine aa ?_;rw[show(S.runs.any (λr=>decide (0<r.2.ended))||decide (S.runs.length<6))=true from wf];refine sP (cD Z Z)<|sB Z<|aj Z<|ae<|al<|sT<|sQ<|sQ ?_
 refine sZ Z<|dT Z Z<|dt 1 Z Z Z<|bQ Z (au Z) (ah Z)<|dj 5 Z (bd Z)<|dA 4 Z (eI Z Z Z Z Z Z λO=>(dK [true] (ai (ah Z) ak) ?_))
 refine dA 6 Z (dh (m:=2) (z:=cx) (size:=1) (ps:=[(0,.tmp 30),(1,.tmp 31)]) (vs:=[dp O 1 1,.slice A bs.length c]) (cs:=#[dp O 1 1,.slice A bs.length c]) Z Z Z Z am am Z (GU _ _ Z Z _ Z) λK6=>?_);refine dK [true] (ai (ah Z) ak) ?_;refine dR 7 rfl rfl<|nR rfl rfl rfl hE (zM (A1:=some ⟨O,0,none⟩) (bs1:=[1]) (p1:=dd (dp O 1 1) [1]) 1 c (Reads.row (c:=1) λ_=>⟨O,rfl⟩) (λh=>by cases h) hp hA (by simp;omega) (by simp;omega)) ((Ent.cons ((vi (b:=O) (bs:=[1]) (by unfold maxLen;simp)).trans (Ent.cons gfE3)))) ?_
 rintro v m rfl;refine cJ<|aK .head ?_
 rintro K9 K5 rfl f1 f2 - - -
 obtain⟨mt,In⟩:=lP f1 f2;refine dK [true] (ai (ah Z) ak) ?_;refine dA 8 Z<|ed Z (yl K5 hJ mt In (by simp;omega) hr) ((cF Dh Dh .head)) ?_
 rintro v m ⟨T,rfl⟩;refine cJ ?_;rw[show([1]++bs:List UInt8)=1::bs from rfl] at T ⊢
 generalize hω:J.add σ (ii (FK.frame (1::bs)))=ω at T ⊢
 refine dK [false] ak<|dj 9 Z (aU Z)<|dE<|sT<|sQ ?_
 by_cases HE:ω.2.2=0
 ·
  replace T:=T.trans (if_pos HE);subst T;refine sG<|ch Z (eT Z Z)<|sN<|aj Z<|ae<|sT<|sQ<|sZ Z<|dT Z Z<|dt 0 Z Z Z<|bQ Z (au Z) (ah Z)<|bQ Z (bO (vs:=[aw fl.deadline,.slice Y fl.KW.length c']) Z) (bm Z) ?_
  refine dA 5 Z<|ed Z (yz (nv:=.slice Y fl.KW.length c') h1 am K.after am am h.now (by have:=h.queueLe;omega) (by have:=h.tmsLe;omega) BT (λr hr=>(h.low r.1 (List.mem_map_of_mem (f:=(·.1)) hr)).2) K4) (bo HasEng.sel nH) ?_
  rintro v m ⟨S0,p',K3,rfl,rfl⟩;refine aa<|dK [false,false] ak<|dj 6 Z (aU Z)<|bC Z (aU Z)<|dE<|sT<|an ?_
  refine ea (bX f e j d p' (S0.submit fl) ω.1 ω.2.1++[pb]) Z Z Z (by unfold SubmitPost;rw[hω];exact .inl ⟨HE,S0,p',K3,rfl,rfl⟩) ?_;exact aJ
 ·
  replace T:=T.trans (if_neg HE);subst T;refine sG<|ch Z (i7 Z Z)<|sN<|aM Z<|bq Z<|sA Z<|sB Z<|an<|aC ?_
  refine ea (bX f e j d p S ω.1 ω.2.1++[pb]) Z Z Z (by unfold SubmitPost;rw[hω];exact .inr ⟨HE,by unfold eY;rw[if_neg HE];rfl,rfl⟩) ?_;exact aJ
end Go.Y
namespace Go.SL
theorem qz:∀(X:List HP) {r:List HP},Ent (X++r) r
 | [],r=>Ent.refl r
 | _::X,_=>Ent.drop.trans (qz X)
end Go.SL
namespace Go.Y
open Go.Proofs Go.RowKit Go.SL
section
variable {h f d:Nat}
section
variable {pb:HP}
def Cs (f e j d:Nat) (pb:HP) (Q:Nat->Int->Int->EA->FK.En->FK.Jn->FK.Dsk->Prop) (v:Value) (m:List HP):Prop:=
 ∃n ev x a X p U E ω,v=.tuple #[aQ n,ev]/\Q n x a p U E ω/\dQ 48 [ev] X (λu k=>u=.tuple #[aw x,aw a]/\k=X)/\m=bX f e j d p U E ω++(pb::X)
theorem sg {l I T Y:Int} {aft:FK.Dsk->Option Addr×FK.Dsk} {Q:Nat->Int->Int->EA->FK.En->FK.Jn->FK.Dsk->Prop} (hp:Reads pb A bs) (hA:A=none->bs=[]) (hl:bs.length<=1000000000)
 (hC:∀K c9,Reads (dd (.slice K bs.length c9) bs) K bs->(K=none->bs=[])->dQ 50 [aX f,.slice K bs.length c9] (bX f e j d p S J {σ with left:=l,full:=I}++[dd (.slice K bs.length c9) bs]) (Cs f e j d (dd (.slice K bs.length c9) bs) Q))
 (hL:∀n x a p U O ω,Q n x a p U O ω->rI f h d l I T Y aft ω) :
 dQ 21 [aX h,.slice A bs.length c,nK l I T Y] (cj h f e j d p S J σ++[pb]) λv m=>∃n x a p U O ω,v=.tuple #[aQ n,aw x,aw a]/\Q n x a p U O ω/\m=[dX h d (aft ω).1,cU f e j,aN e p U,aP j d O,aI d (aft ω).2,pb]:=by
 refine bA Tryz.func21 Z λE fr hE=>jc<|sS<|sO (cR Z Z λb5=>(sA Z (sA Z (sB Z (sQ (sS (sM Z (da Z (bn 1 Z (aR Z Z Z Z (sP (dS Z Z Z) (sN (aj Z ?_)))))))))))))
 refine ae<|sT<|bq Z<|bF (bO (vs:=cA l I T Y) Z) (bm Z) ?_
 refine bW Z (eH l I T Y) (bo bJ kT) ?_;refine aD ?_;refine aq (l':=pb::cU f e j::aN e p S::aP j d J::aI d {σ with left:=l,full:=I}::bB h d f::blk b5 41 (cA l I T Y).toArray::fr) (by show Ent (bB h d f::aI d _::blk b5 41 (cA l I T Y).toArray::cU f e j::aN e p S::aP j d J::pb::fr) _;exact aJ) ?_;refine sN<|bq Z ?_
 refine aq (Ent.row0 (e:=5) (size:=1)) ?_;refine sO (bZ (k:=0) (xs:=[]) Z Z jC Z am Z Z .head (news:=dm bs) (by simp[dm]) (λh=>by rw[hA h];rfl) (Reads.src hp bJ) (by simp[dm,Value.oneCell']) (by unfold maxLen;omega) am λK3 In=>?_);simp only[Nat.zero_add,List.nil_append];refine aK .head ?_;rintro K c9 rfl f1 f2 - - -
 obtain⟨mt,wf⟩:=lP f1 f2;refine sB Z<|sQ ?_
 refine aq (l':=cU f e j::aN e p S::aP j d J::aI d {σ with left:=l,full:=I}::dd (.slice K bs.length c9) bs::pb::bB h d f::blk b5 41 (cA l I T Y).toArray::fr) aJ ?_;refine sG<|cG 1 Z Z<|aR Z Z Z Z<|sM Z ?_
 refine bU Z (hC K c9 mt wf) aT ?_;rintro v m ⟨n,ev,x,a,X,p',U,O,ω,rfl,hQ,hT,rfl⟩;refine aq (l':=dd (.slice K bs.length c9) bs::cU f e j::aN e p' U::aP j d O::aI d ω::pb::bB h d f::blk b5 41 (cA l I T Y).toArray::(X++fr)) ?_ ?_
 · show Ent (cU f e j::aN e p' U::aP j d O::aI d ω::dd (.slice K bs.length c9) bs::(X++(pb::bB h d f::blk b5 41 (cA l I T Y).toArray::fr))) _
   refine gfE4.trans<|Ent.cons<|Ent.cons<|Ent.cons<|Ent.cons<|Ent.cons<|Ent.back.trans<|Ent.cons<|Ent.back.trans<|Ent.cons Ent.back
 refine sM Z<|bT Z Z<|bT Z Z<|sA Z<|sB Z<|sQ<|bq Z<|sP (bp Z Z)<|sM Z<|sN<|ag ?_
 refine aO (X:=Nat×List Value) (λx=>[(36,aw x.1),(35,aw bs.length),(9,.slice K bs.length c9),(10,aQ n),(11,ev),(5,aX b5),(0,aX h)]) (λx=>row 5 1 (.slice K bs.length c9) bs.length x.2::cU f e j::aN e p' U::aP j d O::aI d ω::pb::bB h d f::blk b5 41 (cA l I T Y).toArray::(X++fr)) (λx=>x.1<=bs.length) (λx=>bs.length-x.1) (0,dm bs) (Nat.zero_le _) bV aT ?_;rintro⟨k,ys⟩ hk;simp only at hk ⊢;refine sS<|sP (bz Z Z Z)<|sN<|sQ ?_
 refine aB Z (λBT=>?_) λBT=>?_
 ·
  have Fd:k<bs.length:=am;obtain⟨g,rfl⟩:∃g,K=some ⟨g,0,none⟩:=by
   cases K with
   | none=>have:=(f1 rfl).1;omega
   | some ad=>obtain⟨g,rfl⟩:=f2 ad rfl;exact⟨g,rfl⟩
  refine ae<|sT<|sQ<|ag<|bq Z<|sB Z<|sG<|sM Z<|ch Z (aS (z:=1) Z Z Z Z Fd) ?_
  refine sO<|fD .head Z Z Z Z am ?_
  refine ao<|al<|sT<|sG<|sP (bc (r:=((k+1:Nat):Int)) Z Z dP)<|sM Z<|ao ?_
  exact aE (k+1,_) (by simp only;omega) (by simp only;omega) bV aT
 ·
  refine aL<|aA<|az<|ap<|sT<|sQ ?_
  refine aq (l':=bB h d f::aI d ω::cU f e j::aN e p' U::aP j d O::pb::blk b5 41 (cA l I T Y).toArray::(X++fr)) aJ ?_;refine sG<|sM Z<|bF (bO (vs:=cA l I T Y) Z) (bm Z) ?_
  refine bW Z (hL n x a p' U O ω hQ) aT ?_;refine aD<|sN<|sQ ?_
  refine aq (l':=X++(dX h d (aft ω).1::aI d (aft ω).2::cU f e j::aN e p' U::aP j d O::pb::fr)) ?_ ?_
  · show Ent (dX h d (aft ω).1::aI d (aft ω).2::cU f e j::aN e p' U::aP j d O::pb::_::(X++fr)) _
    exact(Ent.cons (Ent.cons (Ent.cons (Ent.cons (Ent.cons (Ent.cons Ent.drop)))))).trans ((Ent.cons (Ent.cons (Ent.cons (Ent.cons (Ent.cons eo))))).trans ((Ent.cons (Ent.cons (Ent.cons (Ent.cons eo)))).trans ((Ent.cons (Ent.cons (Ent.cons eo))).trans ((Ent.cons (Ent.cons eo)).trans ((Ent.cons eo).trans eo)))))
  refine sG<|sM Z ?_
  refine bW Z hT aT ?_;refine sM Z<|bT Z Z<|bT Z Z<|sA Z<|sB Z<|bq Z<|sM Z<|sM Z<|sA Z<|sA Z<|sB Z<|an<|gH [dX h d (aft ω).1,cU f e j,aN e p' U,aP j d O,aI d (aft ω).2,pb] rfl Z Z Z ⟨n,x,a,p',U,O,ω,rfl,hQ,rfl⟩ ?_
  show Ent (_++_) (dX h d (aft ω).1::cU f e j::aN e p' U::aP j d O::aI d (aft ω).2::pb::fr);exact(qz _).trans aJ
theorem GP {a:Int} (T:Reads pb A bs) (hl:bs.length<=1000000000) (K:FK.nF bs=.error (x,a)):dQ 50 [aX f,.slice A bs.length c] (bX f e j d p S J σ++[pb]) (Cs f e j d pb λn Y O p' U J' ω=>n=0/\Y=x/\O=a/\p'=p/\U=S/\J'=J/\ω=σ):=by
 refine bA Tryz.func50 Z λE fr hE=>cX<|sS<|sA Z<|sB Z<|bq Z ?_
 refine bU Z (pu T am) gfE4 ?_;rintro v m hv;obtain⟨b,rfl,rfl⟩:∃b,v=.tuple #[.agg #[aw 0,cx],.iface 159 (aX b)]/\m=[blk b 164 #[aw x,aw a],pb]:=by
  rcases hv with⟨f',A',c',I,_⟩|⟨e',O,b',I,_,h1,h2⟩
  · rw[K] at I;cases I
  · rw[K] at I
    injection I with I;injection I with q1 q2;subst q1;subst q2;exact⟨b',h1,h2⟩
 refine aD<|sM Z<|bT Z Z<|bT Z Z<|sO (cH (z:=.agg #[aw 0,cx]) Z λb6=>?_)
 refine sO<|bh Z (m:=2) (vs:=[aw 0,cx]) Z Z Z Z er (by simp[Value.cells]) ?_
 refine sB Z<|sQ<|ag<|bq Z<|sP (i7 Z Z)<|sB Z<|aM Z<|bq Z<|sA Z<|sB Z ?_
 refine an<|aH<|aC<|ea (bX f e j d p S J σ++(pb::[blk b 164 #[aw x,aw a]])) Z Z Z ⟨0,_,x,a,[blk b 164 #[aw x,aw a]],p,S,J,σ,rfl,⟨rfl,rfl,rfl,rfl,rfl,rfl,rfl⟩,Ao b x a,rfl⟩ ?_
 show Ent _ (cU f e j::aN e p S::aP j d J::aI d σ::pb::blk b 164 #[aw x,aw a]::fr);exact aJ
theorem GO (hp:Reads pb A bs) (hl:bs.length<=1000000000) (hd:FK.nF bs=.ok fl) (K:S.roomy=false):dQ 50 [aX f,.slice A bs.length c] (bX f e j d p S J σ++[pb]) (Cs f e j d pb λn x' a' p' U J' ω=>n=0/\x'=5/\a'=-1/\p'=p/\U=S/\J'=J/\ω=σ):=by
 refine bA Tryz.func50 Z λE fr hE=>cX<|sS<|sA Z<|sB Z<|bq Z ?_
 refine bU Z (pu hp am) gfE4 ?_;rintro v m Y;obtain⟨O,T,rfl,rfl⟩:∃O T,v=.tuple #[.agg #[aw fl.deadline,.slice O fl.KW.length T],.nilIface]/\m=[nodesOwn (.slice O fl.KW.length T) fl.KW,pb]:=by
  rcases Y with⟨f',O,T,I,mt,Y,hm⟩|⟨e',a',b',I,_⟩
  · rw[hd] at I
    injection I with I;subst I;exact⟨O,T,Y,hm⟩
  · rw[hd] at I
    cases I
 refine aD<|sM Z<|bT Z Z<|bT Z Z<|sO (cH (z:=.agg #[aw 0,cx]) Z λb6=>?_)
 refine sO<|bh Z (m:=2) (vs:=[aw fl.deadline,.slice O fl.KW.length T]) Z Z Z Z er (by simp[Value.cells]) ?_
 refine aG b6 #[aw fl.deadline,.slice O fl.KW.length T] rfl<|sB Z<|sQ<|ag<|bq Z<|sP (eT Z Z)<|sB Z<|aj Z<|sS<|cG 0 Z Z<|aR Z Z Z Z ?_
 refine bW Z uJ (Ent.sel HasEng.sel) ?_;refine aa ?_;rw[show(S.runs.any (λr=>decide (0<r.2.ended))||decide (S.runs.length<6))=false from K];refine sP (cD Z Z)<|sB Z<|aM Z<|sS<|sP (ef Z Z Z)<|sA Z<|sB Z<|an<|aH<|aC<|ea (bX f e j d p S J σ++(pb::[])) Z Z Z ⟨0,_,5,-1,[],p,S,J,σ,rfl,⟨rfl,rfl,rfl,rfl,rfl,rfl,rfl⟩,nZ 5,rfl⟩ ?_
 show Ent _ (cU f e j::aN e p S::aP j d J::aI d σ::pb::fr);exact aJ
theorem SubmitPost.to (h:SubmitPost f e j d p S J σ bs fl pb v m):Cs f e j d pb (λn x a I U O ω=>a=-1/\O=(J.add σ (ii (FK.frame (1::bs)))).1/\ω=(J.add σ (ii (FK.frame (1::bs)))).2.1/\x=(J.add σ (ii (FK.frame (1::bs)))).2.2/\((x=0/\n=S.KT+1/\∃E,FK.Cut S E/\U=E.submit fl)\/(x≠0/\n=0/\U=S/\I=p))) v m:=by
 rcases h with⟨K,E,I,hc,rfl,rfl⟩|⟨K,rfl,rfl⟩
 · exact⟨_,_,0,-1,[],I,_,_,_,rfl,⟨rfl,rfl,rfl,K.symm,.inl ⟨rfl,rfl,E,hc,rfl⟩⟩,rU,rfl⟩
 · exact⟨0,_,_,-1,[],p,_,_,_,rfl,⟨rfl,rfl,rfl,rfl,.inr ⟨K,rfl,rfl,rfl⟩⟩,Ap _,rfl⟩
end
end
section
variable [H:HasRef l e a ns M r]
include H
theorem Iv (hi:M.runs[i]?=some u):∀w,Holds E w l->mr (some ⟨(a.ra u.id).gs,0,none⟩) (zV u.KV) w:=λw hw T I j v J=>by
 obtain⟨F,h⟩:=jk (H:=H) hw;have K:Star w (M.runs.map (iB a)) F:=Star.mem (p:=ju a M.runs) h cY;have O:(iB a u).sat w F:=Star.mem K (List.mem_map_of_mem (bY hi));injection I with I;subst I;exact O.1.cells (g:=(a.ra u.id).gs) Z j v J
theorem Iw:∀w,Holds E w l->mr (zY a.qg) (M.KX.flatMap iN) w:=λw hw O I j v K=>by
 obtain⟨F,h⟩:=jk (H:=H) hw;have J:(zW a M).sat w F:=Star.mem h cY;cases hg:a.qg with
 | none=>rw[hg] at I;cases I
 | some g=>
  unfold zW kS at J;rw[hg] at J I;injection I with I;subst I;exact J.1.cells (g:=g) Z j v K
end
theorem si {α β:Type} {f g:α->List β}:∀{l:List α},(∀v∈l,f v=g v)->l.flatMap f=l.flatMap g
 | [],_=>rfl
 | v::l,h=>by rw[List.flatMap_cons,List.flatMap_cons,h v List.mem_cons_self,si λu I=>h u (List.mem_cons_of_mem _ I)]
theorem Fw:fd Tryz.prog 194 (.agg #[aw 0,aw 0,.int .u64 0,.int .u64 0,.int .u64 0,aw 0,aw 0]) 7 56:=by unfold fd;kernel_rfl
abbrev zRun:Value:=.agg #[.int .u64 0,aw 0,cx,aw 0,.int .u64 0,aw 0,cx,aw 0]
theorem vK:fd Tryz.prog 150 zRun 8 96:=by unfold fd;kernel_rfl
theorem CZ (x:Operand) (vs:List Value) (h:vs.length=8):Instr.fill (λi=>some (i*8,8)) (Array.map (λx=>zRun.cells[x%zRun.cells.size]!) (Array.range (1*8))) ((List.map (λx=>x.fst) [((0:Nat),x)]).zip [.agg vs.toArray])=some vs.toArray:=by
 have e1:Array.range (1*8)=#[0,1,2,3,4,5,6,7]:=rfl;rw[e1]
 match vs,h with
 | [v0,v1,v2,v3,v4,v5,v6,v7],_=>simp[Instr.fill,Value.cells]
abbrev RfA.cp (a:RfA) (rg:Option Nat) (rc:Nat) (ra:Nat->RP):RfA:={a with rg:=rg,rc:=rc,ra:=ra}
abbrev cpC (a:RfA) (M:FR.En) (v:Value):Array Value:=#[.int .u64 M.time,.int .u64 M.seed,v,kS a M,.int .u64 M.KT,.int .u64 M.KS,aw M.timers,aw M.ends]
theorem fC (h:FR.Fine M) (hnd:(M.runs.map (·.id)).Nodup):dx G 84 [aX e] [aV e a ns M] λv m=>∃e' a',v=aX e'/\m=[aV e a ns M,aV e' a' ns M]:=by
 refine bA Tryz.func84 Z λE fr hE=>aa ?_;refine bt (p:=jx a ns M) (λw hw=>l8 hw) λLc=>?_;refine bt (p:=zY a.qg=none->M.KX.length=0) (λw hw h0=>by
  cases hq:M.KX with
  | nil=>rfl
  | cons x l=>
   obtain⟨g,hg⟩:=Ci (a:=a) (M:=M) (i:=0) (u:=x) (by rw[hq];rfl) hw;rw[hg] at h0;cases h0) λLd=>?_
 refine sS<|sB Z<|bq Z<|da Z ?_
 refine bF (bO (vs:=(pR a M).toList) Z) (λw hw j v hj=>cg (a:=a) (M:=M) (by simpa using hj) w hw) ?_;refine sO (cH (z:=.agg #[.int .u64 0,.int .u64 0,cx,cx,.int .u64 0,.int .u64 0,aw 0,aw 0]) Z λb3=>?_);refine sO<|bh (vs:=(pR a M).toList) Z (m:=8) Z Z Z Z er (by show 0+8<=8;omega) ?_
 refine aG b3 (cpC a M (iP a M)) Z<|sN<|sS<|bn 2 Z ?_
 refine bR Z Z Z Z gN ?_;refine sN<|sQ<|sS<|sB Z<|ag ?_
 refine aO (X:=Nat×Option Nat×Nat×(Nat->RP)) (λx=>[(4,aw x.1),(3,aX b3),(0,aX e)]) (λx=>blk b3 74 (cpC a M (.slice (zY x.2.1) x.1 x.2.2.1))::row 150 8 (.slice (zY x.2.1) x.1 x.2.2.1) x.1 (gW (a.cp x.2.1 x.2.2.1 x.2.2.2) (M.runs.take x.1))::ju (a.cp x.2.1 x.2.2.1 x.2.2.2) (M.runs.take x.1)::aV e a ns M::fr) (λx=>x.1<=M.runs.length/\∀u∈M.runs.take x.1,(x.2.2.2 u.id).nd=(a.ra u.id).nd) (λx=>M.runs.length-x.1) (0,none,0,a.ra) ⟨Nat.zero_le _,λu h=>by simp at h⟩ bV (Ent.cons (Ent.row0.trans (Ent.cons (Ent.trans (Ent.all (m:=[])) aT)))) ?_;rintro⟨k,rg,rc,ra⟩ ⟨hk,T⟩;replace hk:k<=M.runs.length:=hk;replace T:∀u∈M.runs.take k,(ra u.id).nd=(a.ra u.id).nd:=T;refine sQ<|bq Z<|cG 2 Z Z<|bF (au (v:=iP a M) Z) (cg Z)<|sP (bp Z Z)<|sP (bz Z Z Z)<|sN ?_
 refine aB Z (λmt=>?_) λmt=>?_
 ·
  have Fd:k<M.runs.length:=by have:(k:Int)<(M.runs.length:Int):=mt;omega
  obtain⟨u,hu⟩:∃u,M.runs[k]?=some u:=⟨M.runs[k],by simp[Fd]⟩;have In:=bY hu;have Lv:=eS h u In;have Lw:1<=u.KV.length:=by rw[(h.fit u In).2];exact(h.fit u In).1.head.2.1
  have Lx:=h.runs;have K3:M.runs.take (k+1)=M.runs.take k++[u]:=by rw[List.take_add_one,hu];rfl
  have Y:∀v∈M.runs.take k,v.id≠u.id:=λv I he=>by
   obtain⟨j,hj⟩:=List.getElem?_of_mem I;have Ll:j<k:=by have:=(gfGet.1 hj).1;rw[List.length_take] at this;omega
   rw[List.getElem?_take_of_lt Ll] at hj;have:=FR.xd hnd hj hu he;omega
  refine bt (p:=∃g,a.rg=some g) (λw hw=>gY hu hw) λ⟨gr,hg⟩=>?_;refine ae<|sT<|sQ<|ag<|sS<|cG 2 Z Z<|bF (au (v:=dp gr M.runs.length a.rc) Z) (dF hg)<|ch Z (aS (z:=8) Z Z Z Z Fd)<|bF (bO (vs:=gT (a.ra u.id) u) Z) (kX hu hg)<|sO (cH (z:=.agg #[.int .u64 0,aw 0,cx,aw 0,.int .u64 0,aw 0,cx,aw 0]) Z λb5=>?_)
  refine sO<|bh (vs:=gT (a.ra u.id) u) Z (m:=8) Z Z Z Z er (by show 0+8<=8;omega) ?_
  refine aG b5 (gT (a.ra u.id) u).toArray Z<|sN<|sS<|bn 6 Z<|bF (au (v:=jg (a.ra u.id) u) Z) (ah Z) ?_
  refine aq (Ent.row0 (e:=194) (size:=7)) ?_;refine dq rfl (bZ (k:=0) (xs:=[]) rfl rfl Fw rfl am rfl rfl .head (news:=zV u.KV) (cM (k:=7) (λ_=>rfl) _) (λh=>by cases h) (Iv hu) (λv I=>by obtain⟨x,_,hx⟩:=List.mem_flatMap.1 I;simp only[List.mem_cons,List.not_mem_nil,or_false] at hx;rcases hx with rfl|rfl|rfl|rfl|rfl|rfl|rfl<;>rfl) (by unfold maxLen;omega) am λLp Lm=>?_);refine aK .head λK4 Le K5 Lg Lh _ _ _=>?_;obtain⟨Lj,rfl⟩:∃g,K4=some ⟨g,0,none⟩:=by
   cases K4 with
   | none=>have:=(Lg rfl).1;omega
   | some ad=>obtain⟨g,rfl⟩:=Lh ad rfl;exact⟨g,rfl⟩
  subst K5;rw[Nat.zero_add,List.nil_append];obtain⟨p,hp⟩:∃p:RP,p=⟨(a.ra u.id).nd,Lj,Le⟩:=⟨_,rfl⟩;refine bn 6 Z ?_;refine bR Z Z Z Z gN ?_;refine sN<|aG b5 (gT p u).toArray (by rw[hp];rfl)<|sG<|bn 2 Z<|bF (au (v:=.slice (zY rg) k rc) Z) (ah Z)<|bF (bO (vs:=gT p u) Z) (bm Z) ?_
  refine sO (dh (m:=1) (z:=zRun) (size:=8) (ps:=[(0,.tmp 32)]) (vs:=[.agg (gT p u).toArray]) (cs:=(gT p u).toArray) Z Z Z Z am am Z (CZ _ _ Z) λLq=>?_);refine dq rfl (bZ rfl rfl vK rfl am rfl rfl (HasVal.sel (v:=.slice (zY rg) k rc)) (news:=gT p u) rfl (λh=>by cases h) (eO (λj u h=>by simpa using h)) er (by unfold maxLen;omega) am λLr Ln=>?_);refine aK .head λLs J K6 _ K7 _ _ _=>?_;obtain⟨K,rfl⟩:=nW K7;subst K6;refine bn 2 Z ?_;refine bR Z Z Z Z gN ?_;refine ao<|al<|sT<|aG b3 (cpC a M (.slice (zY K) (k+1) J)) Z<|sG<|ch Z (bc (r:=((k+1:Nat):Int)) Z Z dP)<|sA Z<|ao ?_
  refine aE (k+1,K,J,λid=>if id=u.id then p else ra id) ⟨Fd,λv I=>?_⟩ (by show M.runs.length-(k+1)<M.runs.length-k;omega) bV ?_
  · have I:v∈M.runs.take (k+1):=I
    rw[K3] at I;rcases List.mem_append.1 I with I|I
    · show(if v.id=u.id then p else ra v.id).nd=_
      rw[if_neg (Y v I)];exact T v I
    · rw[List.mem_singleton.1 I]
      show(if u.id=u.id then p else ra u.id).nd=_;rw[if_pos rfl,hp]
  · obtain⟨a2,O⟩:∃a2,a2=a.cp K J (λid=>if id=u.id then p else ra id):=⟨_,rfl⟩
    have e1:gW (a.cp rg rc ra) (M.runs.take k)++gT p u=gW a2 (M.runs.take (k+1)):=by
     rw[K3];show(M.runs.take k).flatMap _++_=(M.runs.take k++[u]).flatMap _;rw[List.flatMap_append]
     congr 1
     · refine si λv I=>?_
       show gT (ra v.id) v=gT (a2.ra v.id) v;rw[O];show _=gT (if v.id=u.id then p else ra v.id) v;rw[if_neg (Y v I)]
     · rw[O]
       show _=[u].flatMap λr=>gT (if r.id=u.id then p else ra r.id) r;simp
    have e2:(M.runs.take (k+1)).map (iB a2)=(M.runs.take k).map (iB (a.cp rg rc ra))++[row 194 7 (jg p u) u.KV.length (zV u.KV)]:=by
     rw[K3,List.map_append]
     congr 1
     · refine List.map_congr_left λv I=>?_
       show row _ 7 (jg (a2.ra v.id) v) _ _=row _ 7 (jg (ra v.id) v) _ _;rw[O];show row _ 7 (jg (if v.id=u.id then p else ra v.id) v) _ _=_;rw[if_neg (Y v I)]
     · rw[O]
       show[row _ 7 (jg (if u.id=u.id then p else ra u.id) u) _ _]=_;rw[if_pos rfl]
    show Ent _ (blk b3 74 (cpC a M (.slice (zY K) (k+1) J))::row 150 8 (.slice (zY K) (k+1) J) (k+1) (gW (a.cp K J λid=>if id=u.id then p else ra id) (M.runs.take (k+1)))::ju (a.cp K J λid=>if id=u.id then p else ra id) (M.runs.take (k+1))::aV e a ns M::fr);rw[<-O,<-e1];have e3:∀r,Ent (row 194 7 (jg p u) u.KV.length (zV u.KV)::ju (a.cp rg rc ra) (M.runs.take k)::r) (ju a2 (M.runs.take (k+1))::r):=λr=>by
     refine(Ent.cons (Ent.unall (m:=(M.runs.take k).map (iB (a.cp rg rc ra))))).trans ?_;refine Ent.trans ?_<|Ent.all (m:=(M.runs.take (k+1)).map (iB a2))
     rw[e2,List.append_assoc];exact Ent.perm List.perm_middle.symm
    refine Ent.trans ?_<|Ent.cons<|Ent.cons<|e3 _
    rw[hp];exact aJ
 ·
  have K9:k=M.runs.length:=by have:¬(k:Int)<(M.runs.length:Int):=mt;omega
  rw[K9,List.take_length];rw[K9,List.take_length] at T;refine aL<|aA<|az<|ap<|sT<|sS<|cG 3 Z Z<|bF (au (v:=kS a M) Z) (cg Z) ?_
  refine aq (Ent.row0 (e:=197) (size:=2)) ?_;refine dq rfl (bZ (k:=0) (xs:=[]) rfl rfl ri rfl am rfl rfl .head (news:=M.KX.flatMap iN) (cM (k:=2) (λ_=>rfl) _) Ld Iw (λv I=>by obtain⟨x,_,hx⟩:=List.mem_flatMap.1 I;simp only[List.mem_cons,List.not_mem_nil,or_false] at hx;rcases hx with rfl|rfl<;>rfl) (by have:=h.KX;unfold maxLen;omega) (by have:=h.KX;omega) λLt Lo=>?_);refine aK .head λLu wf K8 _ Li _ _ _=>?_;obtain⟨BT,rfl⟩:=nW Li;subst K8;rw[Nat.zero_add,List.nil_append];refine bn 3 Z ?_;refine bR Z Z Z Z gN ?_;refine sN<|sS<|sB Z<|an<|ar [aV e a ns M,aV b3 ⟨rg,rc,BT,wf,ra⟩ ns M] rfl Z ⟨b3,_,rfl,rfl⟩ ?_
  have Lb:jx ⟨rg,rc,BT,wf,ra⟩ ns M:=λv I=>by
   show(ra v.id).nd∈ns/\(ra v.id).nd.ns=_;rw[T v I];exact Lc v I
  refine Ent.trans ?_<|Ent.cons<|jd Lb
  have e4:ju (a.cp rg rc ra) M.runs=ju ⟨rg,rc,BT,wf,ra⟩ M.runs:=rfl;rw[e4];exact gfE4.trans<|Ent.cons<|Ent.cons gfE1
section
variable {D:List Deferred} {ts:List (Nat×Value)} {r' r2 r3:List HP} {Q:Exit->Act->World->Prop} {ty:TypeId} {pos:String} {af:Array Edge} {g:Option (Nat×Bool)} {t:TypeId} {x y:Operand} {m:Nat} {K:Act->World->Prop}
abbrev RfA.rn (a:RfA) (g:Option Nat) (c:Nat):RfA:={a with rg:=g,rc:=c}
theorem IH [H:HasRef l e a ns M r] (hj:M.runs[j]?=some u) (hm:m=(M.runs.eraseIdx j).length) (s:Sel (row 150 8 v m (gW a (M.runs.eraseIdx j))) l r') (hz:df P t 1) (hx:ev ts x=some (.pointer (some ⟨e,2,none⟩))) (hy:ev ts y=some v) (s2:Sel (aV e a ns M) r' r2)
 (hk:∀o c,At E n D ts (aV e (a.rn o c) ns (M.cut j)::r2) K):At E n D ts l (λac w=>(Oper.mk none (.store t x y) ty pos af g).wp P ac w K Q):=by
 subst hm;refine bt (p:=jx a ns M) (λw hw=>l8 hw) λT=>?_;refine aq ((Ent.sel s).trans (Ent.cons (Ent.sel s2))) ?_;refine aK .head λA c hA wf Y _ _ _=>?_;obtain⟨o,rfl⟩:=nW Y;subst hA;refine aq ((Ent.cons (iK (a:=a) (M:=M))).trans gfE1) ?_;refine co (b:=e) (cs:=pR a M) Z hz hx hy Z cY ?_;refine aq ?_<|hk o c
 have I:jx (a.rn o c) ns (M.cut j):=λw hw=>T w (List.mem_of_mem_eraseIdx hw);refine Ent.trans ?_<|jd I
 obtain⟨J,O,h1,h3⟩:∃J O,M.runs=J++u::O/\M.runs.eraseIdx j=J++O:=by
  have mt:=(gfGet.1 hj).1;refine⟨M.runs.take j,M.runs.drop (j+1),?_,List.eraseIdx_eq_take_drop_succ _ _⟩;have e:M.runs[j]=u:=(gfGet.1 hj).2;rw[<-e,<-List.drop_eq_getElem_cons mt,List.take_append_drop]
 have e4:∀r,Ent (ju a M.runs::r) (ju (a.rn o c) (M.cut j).runs::r):=λr=>by
  have e5:(M.cut j).runs=J++O:=h3;rw[h1,e5];exact Ent.rfOpen.trans Ent.drop
 exact Ent.cons<|Ent.cons<|Ent.drop.trans<|Ent.cons<|e4 _
end
theorem Cf {p:RP} (mt:jx a ns M) (Fd:p.nd.ns=u.fl.KW) (wf:∀v∈M.runs,v.id≠u.id):Ent (blk e 74 ((pR a M).setIfInBounds 2 (.slice (zY o) (M.runs.length+1) c))::row 150 8 (.slice (zY o) (M.runs.length+1) c) (M.runs.length+1) (gW a M.runs++gT p u)::zW a M::ju a M.runs::row 194 7 (jg p u) u.KV.length (zV u.KV)::r) (aV e ⟨o,c,a.qg,a.qc,λid=>if id=u.id then p else a.ra id⟩ (p.nd::ns) {M with runs:=M.runs++[u]}::r):=by
 obtain⟨O,T⟩:∃O:RfA,O=⟨o,c,a.qg,a.qc,λid=>if id=u.id then p else a.ra id⟩:=⟨_,rfl⟩;rw[<-T];have J:∀v∈M.runs,O.ra v.id=a.ra v.id:=λv I=>by rw[T];exact if_neg (wf v I)
 have Y:O.ra u.id=p:=by rw[T];exact if_pos rfl
 have BT:jx O (p.nd::ns) {M with runs:=M.runs++[u]}:=λv I=>by
  rcases List.mem_append.1 I with I|I
  · rw[J v I]
    exact⟨List.mem_cons_of_mem _ (mt v I).1,(mt v I).2⟩
  · rw[List.mem_singleton.1 I,Y]
    exact⟨List.mem_cons_self,Fd⟩
 have e1:gW a M.runs++gT p u=gW O (M.runs++[u]):=by
  show M.runs.flatMap _++_=(M.runs++[u]).flatMap _;rw[List.flatMap_append]
  congr 1
  · exact si λv I=>by rw[J v I]
  · rw[<-Y]
    simp
 have e2:(M.runs++[u]).map (iB O)=M.runs.map (iB a)++[row 194 7 (jg p u) u.KV.length (zV u.KV)]:=by
  rw[List.map_append]
  congr 1
  · refine List.map_congr_left λv I=>?_
    unfold iB;rw[J v I]
  · show[row _ 7 (jg (O.ra u.id) u) _ _]=_
    rw[Y]
 have e3:Ent (ju a M.runs::row 194 7 (jg p u) u.KV.length (zV u.KV)::r) (ju O (M.runs++[u])::r):=by
  refine gfE1.trans ?_;refine(Ent.cons (Ent.unall (m:=M.runs.map (iB a)))).trans ?_;refine Ent.trans ?_<|Ent.all (m:=(M.runs++[u]).map (iB O))
  rw[e2,List.append_assoc];exact Ent.perm List.perm_middle.symm
 rw[e1];refine Ent.trans ?_<|jd BT
 have hl:(M.runs++[u]).length=M.runs.length+1:=by simp
 unfold jS zW iP kS pR iP kS;simp only[hl];rw[T] at e3 ⊢;exact Ent.cons<|Ent.cons<|Ent.cons e3
theorem w9 {x:ND} {l:List ND}:Ent (JP x::bx l::r) (bx (x::l)::r):=
 (Ent.cons (Ent.unall (m:=l.map JP))).trans (Ent.all (m:=(x::l).map JP))
theorem Hr {vs:List Value} {f:List FK.Node} (h:vs.length=f.length):Ent (row 46 7 (dp e f.length c) f.length (cL f vs)::(dg vs f++r)) (JP ⟨e,c,vs,f⟩::r):=by
 refine(Ent.cons (Ent.all (m:=dg vs f))).trans ?_;refine(Ent.pure h).trans ?_;exact Ent.all (m:=ndL ⟨e,c,vs,f⟩)
end Go.Y
namespace FR
structure OldTo (M:En) (i:Nat) (o:Option Nat):Prop where
 yes:∀j,o=some j->j<i/\∃r,M.runs[j]?=some r/\0<r.ended/\∀(k:Nat) (u:Rn),k<i->M.runs[k]?=some u->0<u.ended->r.ended<=u.ended
 no:o=none->∀(k:Nat) (u:Rn),k<i->M.runs[k]?=some u->u.ended=0
theorem OldTo.old (h:OldTo M M.runs.length o):Old M o:=by
 refine⟨λj J=>?_,λO u I=>?_⟩
 · obtain⟨_,r,Y,h2,h3⟩:=h.yes j J
   refine⟨r,Y,h2,λu I T=>?_⟩;obtain⟨k,hk⟩:=List.getElem?_of_mem I;exact h3 k u (gfGet.1 hk).1 hk T
 · obtain⟨k,hk⟩:=List.getElem?_of_mem I
   exact h.no O k u (gfGet.1 hk).1 hk
theorem OldTo.skip (h:OldTo M i o) (hi:M.runs[i]?=.some u) (J:u.ended=0\/∃j r,o=.some j/\M.runs[j]?=.some r/\r.ended<=u.ended):OldTo M (i+1) o:=by
 refine⟨λj O=>?_,λT k v hk I=>?_⟩
 · obtain⟨h0,r,Y,h2,h3⟩:=h.yes j O
   refine⟨am,r,Y,h2,λk v hk I h4=>?_⟩;rcases Nat.lt_succ_iff_lt_or_eq.1 hk with hk|rfl
   · exact h3 k v hk I h4
   · rw[hi] at I
     injection I with I;subst I;rcases J with J|⟨j',r',e1,e2,e3⟩
     · omega
     · rw[O] at e1
       injection e1 with e1;subst e1;rw[Y] at e2;injection e2 with e2;subst e2;exact e3
 · rcases Nat.lt_succ_iff_lt_or_eq.1 hk with hk|rfl
   · exact h.no T k v hk I
   · rw[hi] at I
     injection I with I;subst I;rcases J with J|⟨j',r',e1,_⟩
     · exact J
     · rw[T] at e1;cases e1
theorem OldTo.take (h:OldTo M i o) (hi:M.runs[i]?=.some u) (Y:0<u.ended) (O:o=.none\/∃j r,o=.some j/\M.runs[j]?=.some r/\u.ended<r.ended):OldTo M (i+1) (.some i):=by
 refine⟨λj T=>?_,λhn=>by cases hn⟩;injection T with T;subst T;refine⟨Nat.lt_succ_self _,u,hi,Y,λk v hk I h4=>?_⟩;rcases Nat.lt_succ_iff_lt_or_eq.1 hk with hk|rfl
 · rcases O with O|⟨j,r,e1,e2,e3⟩
   · have:=h.no O k v hk I
     omega
   · obtain⟨_,r',J,h2,h3⟩:=h.yes j e1
     rw[e2] at J;injection J with J;subst J;have:=h3 k v hk I h4;omega
 · rw[hi] at I
   injection I with I;subst I;exact cu _
def Cutd (M I:En):Prop:=(M.runs.length≠6/\I=M)\/(M.runs.length=6/\∃j,Old M (some j)/\I=M.cut j)
end FR
namespace Go.Y
open Go.Proofs Go.RowKit Go.SL
theorem Kh (x:Nat):((x:Int)).tmod 128=((x%128:Nat):Int):=by
 rw[Int.tmod_eq_emod_of_nonneg am];omega
theorem Be {p:HP} (hp:Reads p A bs) (hl:bs.length<=1099511627776) (r q:Nat) (hq:q<=bs.length) :
 Does Tryz.prog G 220 [.pointer (some ⟨r,0,none⟩)].toArray [blk r 301 #[.slice A bs.length c,aw q,.bool false],p]
  (λu m=>(∃n q':Nat,FK.rd bs q=.ok (n,q')/\u=aw n/\m=[blk r 301 #[.slice A bs.length c,aw q',.bool false],p])\/
   (∃(e q':Nat) (k:Int),FK.rd bs q=.error e/\e=q/\u=aw k/\m=[blk r 301 #[.slice A bs.length c,aw q',.bool true],p])):=by
 refine bA Tryz.func220 Z λE fr hE=>aD<|sS<|sB Z<|sS<|sB Z<|sS<|sB Z<|sQ<|sS<|sA Z ?_
 refine sN<|ag ?_
 refine aO (X:=Nat×Nat) (λx=>[(5,aw x.1),(3,aw x.2),(4,aw (128 ^ x.1:Nat)),(0,.pointer (some ⟨r,0,none⟩))]) (λx=>blk r 301 #[.slice A bs.length c,aw (q+x.1:Nat),.bool false]::p::fr) (λx=>x.1<=3/\x.2<128 ^ x.1/\FK.rD bs q (3-x.1) x.1 x.2=FK.rd bs q/\q+x.1<=bs.length) (λx=>3-x.1) (0,0) ⟨am,by simp,(FK.Ju bs q).symm,hq⟩ bV aT ?_;rintro⟨i,n⟩ ⟨hi,hn,K,In⟩;simp only at hi hn K In ⊢;refine sQ<|bq Z<|sP (bz Z Z Z)<|sN ?_
 refine aB Z (λc8=>?_) λc8=>?_
 ·
  have K4:i<=2:=am;refine ae<|sT<|sQ<|ag<|sQ<|sQ<|sZ Z<|dT Z Z<|dt 1 Z Z Z<|bQ Z (au Z) (ah Z)<|cv Z Z<|dt 0 Z Z Z<|bQ Z (au Z) (ah Z)<|bC Z (bp Z Z)<|bC Z (mA Z Z Z)<|dE<|sT ?_
  refine aB Z (λBT=>?_) λBT=>?_
  ·
   refine sS<|cG 2 Z Z ?_
   refine bR Z Z Z Z gN ?_;refine sN<|sS<|sB Z<|an<|aC<|aH<|aC<|bP<|aH<|aC ?_
   exact ar _ Z Z (.inr ⟨q,q+i,0,by rw[<-K,show 3-i=(2-i)+1 by omega,FK.rD,List.getElem?_eq_none am],rfl,rfl,rfl⟩) aT
  ·
   have O:q+i<bs.length:=am;obtain⟨b,o,hA⟩:=hp.form (by intro h;simp[h] at O);obtain⟨x,hx⟩:∃x,bs[q+i]?=some x:=⟨bs[q+i],by simp[O]⟩;have K5:=x.toNat_lt;have wf:128 ^ i<=16384:=Nat.pow_le_pow_right am (by omega:i<=2);have K3:x.toNat%128*128 ^ i<=127*16384:=Nat.mul_le_mul am wf;have I:=K;rw[show 3-i=(2-i)+1 by omega,FK.rD,hx] at I;simp only at I;refine ae<|sT<|sQ<|sZ Z<|dT Z Z<|dt 0 Z Z Z<|bQ Z (au Z) (ah Z)<|cv Z Z<|dt 1 Z Z Z<|bQ Z (au Z) (ah Z)<|bC Z (aS (z:=1) Z Z (by rw[hA];rfl) Z O)<|bQ Z (au Z) (hp.at bJ hA (by simpa using hx))<|bC Z (dN Z Z Z (jf am))<|bC Z (aU Z)<|dE<|sT<|sS ?_
   refine cG 1 Z Z<|aR Z Z Z Z<|sP (bc Z Z (jf am))<|da Z<|bn 1 Z ?_
   refine bR Z Z Z Z gN ?_;refine sN<|bq Z<|ch Z (nT Z Z am (Kh _))<|ch Z (kZ (r:=((x.toNat%128*128 ^ i:Nat):Int)) Z Z (by rw[<-Int.natCast_mul,jf am]))<|sP (bc (r:=((n+x.toNat%128*128 ^ i:Nat):Int)) Z Z (by rw[<-Int.natCast_add,jf am]))<|sB Z<|bq Z<|sP (kZ (r:=((128 ^ (i+1):Nat):Int)) Z Z (by rw[Nat.pow_succ,jf am];omega))<|sB Z ?_
   refine bq Z<|sP (bz Z Z Z)<|sN ?_
   refine aB Z (λFd=>?_) λFd=>?_
   ·
    rw[if_pos am] at I;have hm:x.toNat%128=x.toNat:=Nat.mod_eq_of_lt am;refine sQ<|sS<|sM Z (ck Z (aY Z Z Z) (λ_ _=>trivial) λT Y=>(sM Z ?_))
    refine bN T (by rfl) ?_;refine cB Z Z (λ_=>rfl) (bd Z) (λ_ _=>trivial) ?_;refine bN T (by rfl) ?_;refine cB Z Z (λ_=>rfl) (dY Z Z Z) (λ_ _=>trivial) ?_;refine ck Z (dJ Z Z Z) (λ_ _=>trivial) λJ mt=>sN ?_;refine ce Z (λJ=>?_) λJ=>?_
    ·
     simp only[mt,Y,Bool.and_eq_true,decide_eq_true_eq] at J;refine sG<|cG 2 Z Z ?_
     refine bR Z Z Z Z gN ?_;refine sN<|bq Z<|sB Z<|an<|aH<|aC<|bP<|aH<|aC ?_
     exact ar _ Z Z (.inr ⟨q,q+i+1,_,by rw[<-I,if_pos am],rfl,rfl,rfl⟩) aT
    ·
     rw[if_neg (by intro h;rw[mt,Y] at J;simp at J;omega)] at I;refine ae<|sT<|bq Z<|sB Z<|an<|aH<|aC<|bP<|aH<|aC ?_
     exact ar _ Z Z (.inl ⟨n+x.toNat%128*128 ^ i,q+i+1,by rw[<-I,hm],rfl,rfl⟩) aT
   ·
    rw[if_neg am] at I;refine ae<|al<|sT<|sG<|ch Z (bc Z Z (jf am))<|sA Z<|ao ?_
    exact aE (i+1,n+x.toNat%128*128 ^ i) ⟨by simp only;omega,by rw[Nat.pow_succ];have:=Nat.mul_le_mul_right (128 ^ i) (show x.toNat%128<=127 by omega);simp only;omega,by show FK.rD bs q (3-(i+1)) (i+1) _=_;rw[show 3-(i+1)=2-i by omega];exact I,by simp only;omega⟩ (by simp only;omega) bV aT
 ·
  obtain rfl:i=3:=am;refine aL<|aA<|az<|ap<|sT<|sS<|cG 2 Z Z ?_
  refine bR Z Z Z Z gN ?_;exact sN<|sS<|sB Z<|an<|ar _ Z Z (.inr ⟨q,q+3,0,K.symm,rfl,rfl,rfl⟩) aT
def rmem (r st:Nat) (A:Option Addr) (c:Nat) (bs:List UInt8):Except Nat Nat->HP
 | .ok q=>HP.ex λs0:Int=>HP.all [blk r 301 #[.slice A bs.length c,.int .i64 q,.bool false],blk st 3 #[.int .i64 s0]]
 | .error e=>HP.ex λq:Nat=>HP.all [blk r 301 #[.slice A bs.length c,.int .i64 q,.bool true],blk st 3 #[.int .i64 e]]
def xh:Except Nat Nat->Bool
 | .ok _=>false
 | .error _=>true
def ct (bs:List UInt8):Except Nat Nat->Except Nat Nat
 | .error e=>.error e
 | .ok q=>match FK.rd bs q with
  | .ok (_,q')=>.ok q'
  | .error e=>.error e
section
variable {r':List HP} {r st:Nat}
theorem rmem.cells {s:Except Nat Nat} {w:World} (sl:Sel (rmem r st A c bs s) l r') (hw:Holds E w l):∃(q:Nat) (s0:Int),w.heap[r]?=some (.cells #[.slice A bs.length c,aw q,.bool (xh s)] 301)/\w.heap[st]?=some (.cells #[aw s0] 3)/\(∀q',s=.ok q'->q=q')/\(∀e,s=.error e->s0=e):=by
 obtain⟨F1,_,_,_,_,O,_⟩:=(hw.sel sl).star;cases s with
 | ok q=>
  obtain⟨s0,T,Y,h3,h4,hd,I,F5,F6,h6,h7,J,K,_⟩:=O;exact⟨q,s0,I.2,K.2,λq' h=>by injection h,λe h=>by cases h⟩
 | error e=>
  obtain⟨q,T,Y,h3,h4,hd,I,F5,F6,h6,h7,J,K,_⟩:=O;exact⟨q,e,I.2,K.2,λq' h=>(by cases h),λe' h=>(by injection h with h;rw[h])⟩
theorem rmem.bad (sl:Sel (rmem r st A c bs s) l r'):∀w,Holds E w l->cq ⟨r,2,none⟩ (.bool (xh s)) w:=λw hw=>by
 obtain⟨q,s0,I,_⟩:=rmem.cells sl hw;simp[cq,World.cell?,I]
theorem rmem.place {q:Nat} (sl:Sel (rmem r st A c bs (.ok q)) l r'):∀w,Holds E w l->cq ⟨r,1,none⟩ (aw q) w:=λw hw=>by
 obtain⟨q',s0,I,_,J,_⟩:=rmem.cells sl hw;simp[cq,World.cell?,I,J q rfl]
theorem rmem.start (sl:Sel (rmem r st A c bs (.error e)) l r'):∀w,Holds E w l->cq ⟨st,0,none⟩ (aw e) w:=λw hw=>by
 obtain⟨q',s0,J,I,_,h3⟩:=rmem.cells sl hw;simp[cq,World.cell?,I,h3 e rfl]
theorem uK {q:Nat}:Ent (blk r 301 #[.slice A bs.length c,aw q,.bool false]::blk st 3 #[aw x]::fr) (rmem r st A c bs (.ok q)::fr):=
 (Ent.all (m:=[blk r 301 #[.slice A bs.length c,aw q,.bool false],blk st 3 #[aw x]])).trans (Ent.ex (f:=λx:Int=>HP.all [blk r 301 #[.slice A bs.length c,aw q,.bool false],blk st 3 #[aw x]]) x)
theorem Bb {q:Nat}:Ent (blk r 301 #[.slice A bs.length c,aw q,.bool true]::blk st 3 #[aw e]::fr) (rmem r st A c bs (.error e)::fr):=
 (Ent.all (m:=[blk r 301 #[.slice A bs.length c,aw q,.bool true],blk st 3 #[aw e]])).trans (Ent.ex (f:=λq:Nat=>HP.all [blk r 301 #[.slice A bs.length c,aw q,.bool true],blk st 3 #[aw e]]) q)
theorem kv (h:ct bs s=.ok q'):∃q n,s=.ok q/\FK.rd bs q=.ok (n,q'):=by
 cases s with
 | error e=>cases h
 | ok q=>
  simp only[ct] at h;cases hr:FK.rd bs q with
  | error e=>rw[hr] at h;cases h
  | ok x=>
   obtain⟨n,I⟩:=x;rw[hr] at h;injection h with h;subst h;exact⟨q,n,rfl,hr⟩
end
def NextIs (bs:List UInt8) (s:Except Nat Nat) (k:Int):Prop:=∀q n q',s=.ok q->FK.rd bs q=.ok (n,q')->k=n
theorem NextIs.small {k:Int} (h:NextIs bs s k) (J:ct bs s=.ok q'):0<=k/\k<2097152:=by
 obtain⟨q,n,K,I⟩:=kv J;have:=FK.rF I;rw[h q n q' K I];omega
theorem hZ {p:HP} (T:Reads p A bs) (Y:bs.length<=1099511627776) (r st:Nat) (s:Except Nat Nat) (hq:∀q,s=.ok q->q<=bs.length) :
 Does Tryz.prog G 185 [.pointer (some ⟨r,0,none⟩),.pointer (some ⟨st,0,none⟩)].toArray [rmem r st A c bs s,p]
  (λu m=>∃k:Int,u=aw k/\NextIs bs s k/\(∀q,ct bs s=.ok q->q<=bs.length)/\m=[rmem r st A c bs (ct bs s),p]):=by
 cases s with
 | error e=>
 refine bA Tryz.func185 Z λE fr hE=>aD<|sS<|sB Z<|sQ<|sS<|cG 2 Z Z<|bF (au Z) (rmem.bad .head)<|sN<|aM Z<|sS<|sA Z<|ao ?_
 refine sT<|an<|aC ?_
 exact ar [_,_] rfl rfl ⟨0,rfl,λq n q' h=>(by cases h),λq h=>(by cases h),rfl⟩ aT
 | ok q=>
 refine bA Tryz.func185 Z λE fr hE=>aD<|dI .head ?_
 intro s0;refine bH<|aD<|sS<|sB Z<|sQ<|sS<|cG 2 Z Z<|aR Z Z Z Z<|sN<|aj Z<|ae<|sT<|sQ ?_
 refine sG<|sM Z<|cG 1 Z Z<|aR Z Z Z Z<|da Z ?_
 refine bR Z Z Z Z gN ?_;refine sN<|bq Z ?_
 refine bU Z (Be T Y r q (hq q Z)) (bo bJ bJ) ?_;rintro v m hv;obtain⟨k,rfl,hk,O,hm⟩:∃k:Int,v=aw k/\NextIs bs (.ok q) k/\(∀q',ct bs (.ok q)=.ok q'->q'<=bs.length)/\Ent (m++(blk st 3 #[aw q]::fr)) (rmem r st A c bs (ct bs (.ok q))::p::fr):=by
  rcases hv with⟨n,q',J,rfl,rfl⟩|⟨e,q',k,J,rfl,rfl,rfl⟩
  · refine⟨n,rfl,λK n1 q2 h I=>?_,λK h=>?_,?_⟩
    · injection h with h
      subst h;rw[J] at I;injection I with I;injection I with I;rw[I]
    · simp only[ct,J] at h
      injection h with h;rw[<-h];exact(FK.rF J).2.2
    · simp only[ct,J]
      exact(Ent.cons (Ent.perm (List.Perm.swap _ _ _))).trans uK
  · refine⟨k,rfl,λK n1 q2 h I=>?_,λK h=>?_,?_⟩
    · injection h with h
      subst h;rw[J] at I;cases I
    · simp only[ct,J] at h
      cases h
    · simp only[ct,J]
      exact(Ent.cons (Ent.perm (List.Perm.swap _ _ _))).trans Bb
 exact aq hm<|sB Z<|an<|ar [_,_] rfl Z ⟨k,rfl,hk,O,rfl⟩ aT
theorem qH (d:Nat) (A:Option Addr) (c:Nat) (ns:List FK.Node) (hd:d<=1048576) (hl:ns.length<=12) (ho:∀n∈ns,FK.fB n/\FK.EdgesOk ns.length (-1) n.after) :
 Gives Tryz.prog G 134 [.agg #[aw d,.slice A ns.length c]].toArray (λw=>NodesAt w w.heap.size A c ns) λv m=>m=[dd v (FK.lG ⟨d,ns⟩)]:=by
 have wf:=Ex hd hl ho;refine Gives.body Tryz.func134 Z Z λE w0 hE h0 hN=>?_;refine sS<|sO (cR Z Z λb1=>(sB Z (sS (bn 0 Z (aR Z Z Z Z ?_)))))
 refine bU Z (d6 _ [] d am cY) Ent.row0 ?_;rintro v m rfl;refine aa<|sB Z<|bq Z<|bn 1 Z<|aR Z Z Z Z<|sP (bp Z Z) ?_
 refine bU Z (d6 _ _ ns.length am (by have:=FK.dL (n:=d) am;simp;omega)) aT ?_;rintro v m rfl;refine aa<|sB Z<|sQ<|sS<|sB Z<|ag ?_
 refine aO (X:=Nat×Value) (λx=>[(4,aw x.1),(3,x.2),(1,.pointer (some ⟨b1,0,none⟩))]) (λx=>[dd x.2 (mq d ns x.1),blk b1 _ #[aw d,.slice A ns.length c],old E w0]) (λx=>x.1<=ns.length) (λx=>ns.length-x.1) (0,_) am bV (by simp only[mq,List.take_zero,List.flatMap_nil,List.append_nil,List.nil_append];exact aT) ?_;rintro⟨k,v3⟩ hk;simp only at hk ⊢;refine sQ<|bq Z<|bn 1 Z<|aR Z Z Z Z<|sP (bp Z Z)<|sP (bz Z Z Z)<|sN ?_
 refine aB Z (λK5=>?_) λK5=>?_
 ·
  have BT:k<ns.length:=am;obtain⟨b,off,rfl,Lb,O⟩:=hN.cells am;obtain⟨nd,hnd⟩:∃nd,ns[k]?=some nd:=⟨ns[k],by simp[BT]⟩;obtain⟨A6,c6,Y,T⟩:=NodeAt.row (O k nd hnd);obtain⟨K6,mt⟩:=ho nd (bY hnd);have Fd:=B6 (d:=d) hnd;have In:(mq d ns k).length+((rE nd).flatMap Dj).length+(FK.dW nd.after.length).length+(nd.after.flatMap Dj).length<=700:=by
   have:=wf (k+1);rw[Fd,wX] at this;simp only[List.length_append] at this;have e:(λk:Int=>FK.dW k.toNat)=Dj:=rfl;rw[e] at this;omega
  have K3:nd.after.length<=12:=by
   rcases mt.length_le am with h|h
   · omega
   · rw[h];simp
  obtain⟨ba,cl,be,bs,ca,ji,I⟩:=nd;have K3:I.length<=12:=K3;have K4:=IJ K6;simp only[rE,List.mem_cons,List.not_mem_nil,or_false,forall_eq_or_imp,forall_eq] at K4;obtain⟨⟨x1,y1⟩,⟨x2,y2⟩,⟨x3,y3⟩,⟨x4,y4⟩,⟨x5,y5⟩,⟨x6,y6⟩⟩:=K4;obtain⟨n1,rfl⟩:∃m:Nat,ba=m:=⟨ba.toNat,am⟩;obtain⟨n2,rfl⟩:∃m:Nat,cl=m:=⟨cl.toNat,am⟩;obtain⟨n3,rfl⟩:∃m:Nat,be=m:=⟨be.toNat,am⟩;obtain⟨n4,rfl⟩:∃m:Nat,bs=m:=⟨bs.toNat,am⟩;obtain⟨n5,rfl⟩:∃m:Nat,ca=m:=⟨ca.toNat,am⟩;obtain⟨n6,rfl⟩:∃m:Nat,ji=m:=⟨ji.toNat,am⟩;simp only[rE,List.flatMap_cons,List.flatMap_nil,List.append_nil,List.length_append] at In;have e1:∀k:Nat,Dj (k:Int)=FK.dW k:=λ_=>rfl;simp only[e1] at In;refine ae<|sT<|sQ<|ag<|sS<|bn 1 Z<|aR Z Z Z Z<|ch Z (aS (z:=7) Z Z Z Z BT)<|bF (bO (vs:=ia _ A6 c6) Z) (Fj de h0 Y)<|sO (cH (z:=.agg #[aw 0,aw 0,aw 0,aw 0,aw 0,aw 0,cx]) Z λb5=>?_)
  refine sO<|bh Z (m:=7) (vs:=ia _ A6 c6) Z Z Z Z (by simp[ia,Value.oneCell']) (by simp[ia,Value.cells]) ?_
  simp only[Value.cells,AQ];refine sN<|bq Z<|bn 0 Z<|aR Z Z Z Z ?_
  refine bU Z (d6 _ _ n1 am am) gfE1 ?_;rintro v m rfl;refine aa<|sB Z<|bq Z<|bn 1 Z<|aR Z Z Z Z ?_
  refine bU Z (d6 _ _ n2 am (by simp only[List.length_append];omega)) aT ?_;rintro v m rfl;refine aa<|sB Z<|bq Z<|bn 2 Z<|aR Z Z Z Z ?_
  refine bU Z (d6 _ _ n3 am (by simp only[List.length_append];omega)) aT ?_;rintro v m rfl;refine aa<|sB Z<|bq Z<|bn 3 Z<|aR Z Z Z Z ?_
  refine bU Z (d6 _ _ n4 am (by simp only[List.length_append];omega)) aT ?_;rintro v m rfl;refine aa<|sB Z<|bq Z<|bn 4 Z<|aR Z Z Z Z ?_
  refine bU Z (d6 _ _ n5 am (by simp only[List.length_append];omega)) aT ?_;rintro v m rfl;refine aa<|sB Z<|bq Z<|bn 5 Z<|aR Z Z Z Z ?_
  refine bU Z (d6 _ _ n6 am (by simp only[List.length_append];omega)) aT ?_;rintro v m rfl;refine aa<|sB Z<|bq Z<|bn 6 Z<|aR Z Z Z Z<|sP (bp Z Z) ?_
  refine bU Z (d6 _ _ I.length am (by simp only[List.length_append];omega)) aT ?_;rintro v m rfl;refine aa<|sB Z<|sS<|sB Z<|ag ?_
  refine aO (X:=Nat×Value) (λx=>[(6,aw x.1),(3,x.2),(4,aw k),(1,.pointer (some ⟨b1,0,none⟩)),(5,.pointer (some ⟨b5,0,none⟩))]) (λx=>[dd x.2 (mq d ns k++FK.dW n1++FK.dW n2++FK.dW n3++FK.dW n4++FK.dW n5++FK.dW n6++FK.dW I.length++(I.take x.1).flatMap Dj),blk b5 _ (ia ⟨n1,n2,n3,n4,n5,n6,I⟩ A6 c6).toArray,blk b1 _ #[aw d,.slice (some ⟨b,off,none⟩) ns.length c],old E w0]) (λx=>x.1<=I.length) (λx=>I.length-x.1) (0,_) am bV (by simp only[List.take_zero,List.flatMap_nil,List.append_nil];exact aT) ?_;rintro⟨j,v3⟩ hj;simp only at hj ⊢;refine sQ<|bq Z<|bn 6 Z<|aR Z Z Z Z<|sP (bp Z Z)<|sP (bz Z Z Z)<|sN ?_
  refine aB Z (λK=>?_) λK=>?_
  ·
   simp only at K;have J:j<I.length:=am;obtain⟨b6,K9,rfl,Lc,K7⟩:=T.cells (by simp only;omega);obtain⟨y,hy⟩:∃y,I[j]?=some y:=⟨I[j],by simp[J]⟩;have Ld:=mt.bounds y (bY hy);obtain⟨m,rfl⟩:∃m:Nat,y=m:=⟨y.toNat,am⟩;have K8:=uB hy;have Le:=El Dj I j;refine ae<|sT<|sQ<|ag<|sG<|sM Z<|bn 6 Z<|aR Z Z Z Z<|ch Z (aS (z:=1) Z Z Z Z J)<|bF (au Z) (nc gt h0 (by simpa using K7 j _ hy)) ?_
   refine bU Z (d6 _ _ m am (by simp only[List.length_append];omega)) aT ?_;rintro v m rfl;refine aa<|sA Z<|ao<|al<|sT<|sG<|ch Z (bc Z Z (jf am))<|sA Z<|ao ?_
   exact aE (j+1,_) (by simp;omega) (by simp;omega) bV (by rw[K8];simp only[List.flatMap_append,List.flatMap_cons,List.flatMap_nil,List.append_nil,List.append_assoc];exact aT)
  ·
   simp only at K;obtain rfl:j=I.length:=am;refine aL<|aA<|az<|ap<|al<|sT<|sG<|ch Z (bc Z Z (jf am))<|sA Z<|ao ?_
   exact aE (k+1,_) (by simp;omega) (by simp;omega) bV (by rw[Fd];simp only[FK.iH,Int.toNat_natCast,List.append_assoc,List.take_length];exact Ent.cons Ent.drop)
 ·
  obtain rfl:k=ns.length:=am;refine aL<|aA<|az<|ap<|sT<|bq Z<|sB Z<|an ?_
  exact ar [dd v3 (FK.lG ⟨d,ns⟩)] rfl Z Z (by have e:mq d ns ns.length=FK.lG ⟨d,ns⟩:=(by simp[mq,FK.lG]);rw[e];exact Ent.cons Ent.drop)
end Go.Y
namespace Go.Y
open Go.Proofs Go.RowKit Go.Deep
section
variable {g:List Bool} {l:List FK.Node} {b:Bool}
theorem iI (n low:Int) (w:World) (E:low<=n) (I:n<=1048576) :
 Calls Tryz.prog 193 #[.int .i64 n,.int .i64 low] w λe w'=>e=.returned (.bool true)/\w=w':=by
 go_enter Tryz.func193,Tryz.ntmps193
 go_wp2
 go_ret
 exact⟨rfl,rfl⟩
theorem qa (n low:Int) (w:World) (h:n<low\/1048576<n) :
 Calls Tryz.prog 193 #[.int .i64 n,.int .i64 low] w λe w'=>e=.returned (.bool false)/\w=w':=by
 by_cases I:low<=n
 · have E:decide (n<=1048576)=false:=by simp;omega
   clear h
   go_enter Tryz.func193,Tryz.ntmps193
   go_wp2
   go_ret
   exact⟨rfl,rfl⟩
 · have E:n<low:=am
   clear h
   go_enter Tryz.func193,Tryz.ntmps193
   go_wp2
   go_ret
   exact⟨rfl,rfl⟩
def gx (n low:Int):Bool:=decide (low<=n/\n<=1048576)
theorem f9 (n low:Int) (w:World) :
 Calls Tryz.prog 193 #[.int .i64 n,.int .i64 low] w λe w'=>e=.returned (.bool (gx n low))/\w=w':=by
 by_cases h:low<=n/\n<=1048576
 · have:gx n low=true:=by simp[gx,h]
   rw[this];exact iI n low w h.1 h.2
 · have:gx n low=false:=by simp only[gx,decide_eq_false_iff_not];exact h
   rw[this];exact qa n low w am
theorem gj {n:Int} (E:x<=n) (I:n<=1048576):gx n x=true:=by simp[gx,E,I]
theorem mF {n:Int} (h:n<x\/1048576<n):gx n x=false:=by simp only[gx,decide_eq_false_iff_not];omega
def ChkPost (w:World) (p:Int×Int) (e:Ending) (w':World):Prop:=e=.returned (.tuple #[.int .i64 p.1,.int .i64 p.2])/\Below w.heap.size w w'
def gk (g:List Bool):Array Value:=(g.map Value.bool).toArray
theorem lX (h:g[i]?=some b):(gk g)[i]?=some (.bool b):=by simp[gk,h]
theorem uh (g:List Bool) (i:Nat) (b:Bool):(gk g).setIfInBounds i (.bool b)=gk (g.set i b):=by
 apply Array.ext_getElem?;intro k;rw[Array.getElem?_setIfInBounds];simp only[gk,List.getElem?_toArray,List.getElem?_map,List.getElem?_set,List.size_toArray,List.length_map]
 by_cases h:i=k<;>by_cases E:k<g.length<;>simp[h,E]<;>(try(subst h;simp[E]))
theorem tR (n:Nat):madeCells #[Value.bool false] n=gk (List.replicate n false):=by
 unfold madeCells gk;apply Array.ext_getElem?;intro k
 by_cases hk:k<n<;>simp[hk,Nat.mod_one]
def FreeTo (l:List FK.Node) (g:List Bool) (i m:Nat) (b:Bool):Prop:=b=true<->∀k∈(FK.aft l i).take m,g[k]?=some true
theorem FreeTo.start (l:List FK.Node) (g:List Bool) (i:Nat):FreeTo l g i 0 true:=by simp[FreeTo]
theorem FreeTo.next {m x:Nat} {c:Bool} (h:FreeTo l g i m b) (E:(FK.aft l i)[m]?=some x) (J:g[x]?=some c):FreeTo l g i (m+1) (b&&c):=by
 obtain⟨K,E⟩:=gfGet.1 E;unfold FreeTo at *
 rw[List.take_succ_eq_append_getElem K,E];rw[Bool.and_eq_true,h];constructor
 · rintro⟨O,T⟩ k hk
   simp at hk;rcases hk with hk|rfl
   · exact O k hk
   · rw[J,T]
 · intro hk
   refine⟨λk I=>hk k (by simp[I]),?_⟩;have:=hk x cY;rw[J] at this;exact Option.some.inj this
theorem FreeTo.whole {m:Nat} (h:FreeTo l g i m b) (E:(FK.aft l i).length<=m):b=true<->∀k∈FK.aft l i,g[k]?=some true:=by
 unfold FreeTo at h
 rwa [List.take_of_length_le E] at h
theorem ChkPost.mk {w':World} {p:Int×Int} (E:Below w.heap.size w w'):ChkPost w p (.returned (.tuple #[.int .i64 p.1,.int .i64 p.2])) w':=⟨rfl,E⟩
theorem tM (w:World) (A:Option Addr) (c:Nat) (f:FK.Flow)
 (I:¬FK.im f):Calls Tryz.prog 133 #[.agg #[.int .i64 f.deadline,.slice A f.KW.length c]] w (ChkPost w (FK.chk f)):=by
 have Y:=Lib.hid (FK.Checked.head I).chk;have E:(f.deadline<1\/1048576<f.deadline)\/((1<=f.deadline/\f.deadline<=1048576)/\f.KW.length=0)\/((1<=f.deadline/\f.deadline<=1048576)/\12<f.KW.length):=by
  unfold FK.im FK.span at I;omega
 clear I;rw[Y.out];rcases E with h|⟨⟨O,T⟩,h3⟩|⟨⟨O,T⟩,h3⟩
 · go_enter Tryz.func133,Tryz.ntmps133
   go_wp2_with (go_at_call 193;refine(qa _ _ _ am).mono ?_;rintro e K ⟨rfl,rfl⟩)
   go_ret2
   exact ChkPost.mk (p:=(2,-1)) pd
 · have J:((f.KW.length:Int)==0)=true:=by simp[h3]
   have H3:=Lib.hid h3;clear h3
   go_enter Tryz.func133,Tryz.ntmps133
   go_wp2_with (go_at_call 193;refine(iI _ _ _ am am).mono ?_;rintro e K ⟨rfl,rfl⟩)
   go_ret2
   exact ChkPost.mk (p:=(2,-1)) pd
 · have J:((f.KW.length:Int)==0)=false:=by rw[beq_eq_false_iff_ne];omega
   go_enter Tryz.func133,Tryz.ntmps133
   go_wp2_with (go_at_call 193;refine(iI _ _ _ am am).mono ?_;rintro e K ⟨rfl,rfl⟩)
   go_ret2
   exact ChkPost.mk (p:=(2,-1)) pd
def LastRel (len:Nat) (l:List Int) (m:Nat):Prop:=FK.EdgesOk len (-1) l<->FK.EdgesOk len (if m=0 then -1 else l.getD (m-1) 0) (l.drop m)
end
section
variable {l:List Int} {m:Nat} {prev:Int}
theorem LastRel.start (len:Nat) (l:List Int):LastRel len l 0:=by simp[LastRel]
theorem LastRel.at_ {len:Nat} (h:LastRel len l m) (E:l[m]?=some x) (J:0<m->l[m-1]?=some prev) :
 FK.EdgesOk len (-1) l<->((if m=0 then -1 else prev)<x/\x<len/\FK.EdgesOk len x (l.drop (m+1))):=by
 obtain⟨K,E⟩:=gfGet.1 E;unfold LastRel at h;rw[h,tE K,E]
 by_cases I:m=0
 · simp[I]
 · have:=J am
   simp[I,this]
theorem LastRel.next {len:Nat} (h:LastRel len l m) (E:l[m]?=some x) (I:0<m->l[m-1]?=some prev) (J:(if m=0 then -1 else prev)<x) (K:x<len):LastRel len l (m+1):=by
 have:=h.at_ E I;unfold LastRel;rw[this];simp[J,K,E]
theorem LastRel.ended {len:Nat} (h:LastRel len l m) (E:l.length<=m):FK.EdgesOk len (-1) l:=by
 unfold LastRel at h;rw[h,List.drop_of_length_le E];trivial
def AcTo (l:List FK.Node) (j:Nat):Prop:=∀i,i<j->FK.Ac l i
theorem tN (w:World) (B:Nat) (A:Option Addr) (c:Nat) (f:FK.Flow) (hB:B<=w.heap.size) (hN:NodesAt w B A c f.KW)
 (hh:FK.im f):Calls Tryz.prog 133 #[.agg #[.int .i64 f.deadline,.slice A f.KW.length c]] w (ChkPost w (FK.chk f)):=by
 have LN:=hh;obtain⟨⟨d1,d2⟩,l1,l2⟩:=LN;have HN:=Lib.hid hN;have HH:=Lib.hid hh;have g1:=hN.len;have g2:=hN.cap;clear hh hN;have hz:((f.KW.length:Int)==0)=false:=by rw[beq_eq_false_iff_ne];omega
 have Lw:∀W:World,(Instr.makeSlice 309 (.int .i64 (f.KW.length:Int)) (.int .i64 (f.KW.length:Int))).run Tryz.prog W=.ok (.slice (some ⟨W.heap.size,0,none⟩) f.KW.length f.KW.length) (W.alloc (.cells (gk (List.replicate f.KW.length false)) 4)):=λW=>by
  rw[<-tR];exact run_make_row' (P:=Tryz.prog) 309 4 (.bool false) 1 Tryz.underlying309 (by kernel_rfl) rfl .i64 .i64 f.KW.length am am W
 have L7:=Lib.hid Lw;clear Lw
 go_enter Tryz.func133,Tryz.ntmps133
 go_wp2_with (go_at_call 193;refine(iI _ _ _ am am).mono ?_;rintro e w2 ⟨rfl,rfl⟩)
 go_loopw [5] (λi wr=>∃k:Nat,k<=f.KW.length/\i=.int .i64 k/\FK.OkTo f k/\Below w.heap.size w wr/\w.heap.size<wr.heap.size/\wr.cell? ⟨w.heap.size,1,none⟩=some (.slice A f.KW.length c)) (λi _=>f.KW.length-(RowKit.intOf i).toNat)
 case atStart=>exact⟨0,am,rfl,λj n hj=>by omega,pd,by simp,by go_simp⟩
 case round=>
  obtain⟨k,hk,rfl,Lg,hb,LG,LH⟩:=hrel
  by_cases LW:k<f.KW.length
  · obtain⟨b,off,rfl,LJ,E⟩:=HN.out.cells am
    have mt:f.KW[k]?=some f.KW[k]:=by simp[LW]
    obtain⟨n,hn⟩:∃n,n=f.KW[k]:=⟨_,rfl⟩;rw[<-hn] at mt;clear hn;have K7:=E k n mt;have K3:=K7.keep (hb.to_same.mono hB) LJ;obtain⟨c0,c1,c2,c3,c4,c5,⟨A6,n6,c6,hi⟩,hr⟩:=K3;have K6:=Lib.hid hi;have Ll:=Lib.hid mt;have K4:=Lib.hid Lg;have HB:=Lib.hid hb;clear E hr hi mt Lg hb K7
    by_cases hno:FK.fB n
    · have Lx:=Lib.hid hno
      obtain⟨a1,a2,⟨a3,a4⟩,⟨a5,a6⟩,⟨a7,a8⟩,⟨a9,Mp⟩,Mq,Mr⟩:=hno;have L8:=K6.out.len;have Lv:=K6.out.cap
      go_wp2_with (go_at_call 193;refine(iI _ _ _ am am).mono ?_;rintro e w2 ⟨rfl,rfl⟩)
      obtain⟨O,rfl⟩:∃O:World,O=wr:=⟨_,rfl⟩
      go_loopw [12] (λt ws=>∃m:Nat,m<=n.after.length/\t=.int .i64 m/\LastRel f.KW.length n.after m/\Below O.heap.size O ws/\O.heap.size<ws.heap.size/\ws.cell? ⟨O.heap.size,6,none⟩=some (.slice A6 n.after.length n6)) (λt _=>n.after.length-(RowKit.intOf t).toNat)
      case atStart=>exact⟨0,am,rfl,.start _ _,pd,by simp,by go_simp⟩
      case round=>
       obtain⟨m,hm,rfl,Lh,J,Mi,Ms⟩:=hrel;have K8:wr.cell? ⟨w.heap.size,1,none⟩=some (.slice (some ⟨b,off,none⟩) f.KW.length c):=by rw[J.to_same.cell LG];exact LH
       by_cases Lm:m<n.after.length
       · obtain⟨b6,o6,LK,L6,Ld⟩:=(K6.out.keep (J.to_same.mono am)).cells am
         have I:n.after[m]?=some n.after[m]:=by simp[Lm]
         have LO:=Ld m n.after[m] I;have LX:=K6.out.rng n.after[m] (List.getElem_mem _);obtain⟨x,hx⟩:∃x,x=n.after[m]:=⟨_,rfl⟩;rw[<-hx] at LO LX I;obtain⟨prev,T⟩:∃prev,0<m->n.after[m-1]?=some prev:=by
          by_cases h0:0<m
          · exact⟨n.after[m-1],λ_=>by simp⟩
          · exact⟨0,λh=>absurd h h0⟩
         have Ln:0<m->wr.cell? ⟨b6,o6+(m-1),none⟩=some (.int .i64 prev):=λh=>Ld (m-1) prev (T h);have Lo:0<m->i64 prev:=λh=>K6.out.rng prev (bY (T h));have LY:=Lib.hid I;have L9:=Lib.hid (Lh.at_ I T);have Fd:=Lib.hid (λh1 h2=>Lh.next I T h1 h2);have wf:=Lib.hid J;obtain⟨Mt,Mu⟩:=LX;subst LK;clear Ld hx I T Lh J;have K5:x∈n.after:=bY LY.out
         by_cases h1:x<0
         · have K:¬FK.EdgesOk f.KW.length (-1) n.after:=λhe=>by have:=(he.bounds x K5).1;omega
           have HR:=Lib.hid (FK.Checked.edge k n HH.out K4.out Ll.out Lx.out K).chk;clear K Ln Lo K5
           go_wp2
           go_quiet (fail)
           go_wp2
           go_ret2
           rw[HR.out];exact ChkPost.mk (p:=(3,(k:Int))) (HB.out.trans (((mf wf.out):Below O.heap.size O _).mono HB.out.size))
         · have Mw:decide (x<0)=false:=by simp;omega
           by_cases h2:(f.KW.length:Int)<=x
           · have Ma:decide ((f.KW.length:Int)<=x)=true:=by simp;omega
             have K:¬FK.EdgesOk f.KW.length (-1) n.after:=λhe=>by have:=(he.bounds x K5).2;omega
             have HR:=Lib.hid (FK.Checked.edge k n HH.out K4.out Ll.out Lx.out K).chk;clear K Ln Lo K5
             go_wp2
             go_quiet (fail)
             go_wp2
             go_ret2
             rw[HR.out];exact ChkPost.mk (p:=(3,(k:Int))) (HB.out.trans (((mf wf.out):Below O.heap.size O _).mono HB.out.size))
           · have Ma:decide ((f.KW.length:Int)<=x)=false:=by simp;omega
             clear K5
             by_cases LZ:0<m
             · have Mb:decide (0<(m:Int))=true:=by simp;omega
               have Ml:=Ln LZ;have L3:=Lo LZ;obtain⟨Mj,Mk⟩:=L3;have Mx:((m:Int)-1).toNat=m-1:=am;clear Ln Lo
               by_cases h3:x<=prev
               · have Mc:decide (x<=prev)=true:=by simp;omega
                 have K:¬FK.EdgesOk f.KW.length (-1) n.after:=λhe=>by have:=(L9.out.1 he).1;rw[if_neg am] at this;omega
                 have HR:=Lib.hid (FK.Checked.edge k n HH.out K4.out Ll.out Lx.out K).chk;clear K
                 go_wp2
                 go_quiet (fail)
                 go_wp2
                 go_ret2
                 rw[HR.out];exact ChkPost.mk (p:=(3,(k:Int))) (HB.out.trans (((mf wf.out):Below O.heap.size O _).mono HB.out.size))
               · have Mc:decide (x<=prev)=false:=by simp;omega
                 have LP:=Lib.hid (Fd.out (by rw[if_neg am];omega) am)
                 go_wp2
                 go_quiet (fail)
                 go_wp2
                 go_roundw
                 case rel=>exact⟨m+1,am,by go_num,LP.out,(mf wf.out),by simp;omega,by go_simp⟩
                 case measure=>simp[RowKit.intOf];omega
             · have Mb:decide (0<(m:Int))=false:=by simp;omega
               have LP:=Lib.hid (Fd.out (by rw[if_pos am];omega) am);clear Ln Lo
               go_wp2
               go_quiet (fail)
               go_wp2
               go_roundw
               case rel=>exact⟨m+1,am,by go_num,LP.out,(mf wf.out),by simp;omega,by go_simp⟩
               case measure=>simp[RowKit.intOf];omega
       · have K9:=Lh.ended am
         have Lp:FK.OkTo f (k+1):=λj n' hj LU=>by
          rcases Nat.lt_or_ge j k with h|h
          · exact K4.out j n' h LU
          · obtain rfl:j=k:=am
            have:=Ll.out;rw[LU] at this;cases this;exact⟨Lx.out,K9⟩
         have LQ:=Lib.hid Lp;have wf:=Lib.hid J;clear Lp K9 Lh J
         go_wp2
         go_roundw
         case rel=>exact⟨k+1,am,by go_num,LQ.out,HB.out.trans (wf.out.mono HB.out.size),am,K8⟩
         case measure=>simp[RowKit.intOf];omega
    · have HR:=Lib.hid (FK.Checked.bound k n HH.out K4.out Ll.out hno).chk
      have LR:=tq hno;clear hno;rcases LR with h|⟨h0,h⟩|⟨h0,h⟩|⟨h0,h2,h⟩|⟨h0,h2,h3,h⟩|⟨h0,h2,h3,h4,h⟩|⟨h0,h2,h3,h4,h5,h⟩
      · go_wp2_with (go_at_call 193;refine(f9 _ _ _).mono ?_;rintro e w2 ⟨rfl,rfl⟩)
        go_ret2
        rw[HR.out];exact ChkPost.mk (p:=(2,(k:Int))) (mf HB.out)
      · go_wp2_with (go_at_call 193;refine(f9 _ _ _).mono ?_;rintro e w2 ⟨rfl,rfl⟩)
        go_ret2
        rw[HR.out];exact ChkPost.mk (p:=(2,(k:Int))) (mf HB.out)
      · have f0:gx n.close 1=false:=mF am
        go_wp2_with (go_at_call 193;refine(f9 _ _ _).mono ?_;rintro e w2 ⟨rfl,rfl⟩)
        go_ret2
        rw[HR.out];exact ChkPost.mk (p:=(2,(k:Int))) (mf HB.out)
      · have f0:gx n.close 1=true:=gj am am
        have f1:gx n.beat 0=false:=mF am
        go_wp2_with (go_at_call 193;refine(f9 _ _ _).mono ?_;rintro e w2 ⟨rfl,rfl⟩)
        go_ret2
        rw[HR.out];exact ChkPost.mk (p:=(2,(k:Int))) (mf HB.out)
      · have f0:gx n.close 1=true:=gj am am
        have f1:gx n.beat 0=true:=gj am am;have f2:gx n.base 1=false:=mF am
        go_wp2_with (go_at_call 193;refine(f9 _ _ _).mono ?_;rintro e w2 ⟨rfl,rfl⟩)
        go_ret2
        rw[HR.out];exact ChkPost.mk (p:=(2,(k:Int))) (mf HB.out)
      · have f0:gx n.close 1=true:=gj am am
        have f1:gx n.beat 0=true:=gj am am;have f2:gx n.base 1=true:=gj am am;have f3:gx n.cap n.base=false:=mF am
        go_wp2_with (go_at_call 193;refine(f9 _ _ _).mono ?_;rintro e w2 ⟨rfl,rfl⟩)
        go_ret2
        rw[HR.out];exact ChkPost.mk (p:=(2,(k:Int))) (mf HB.out)
      · have f0:gx n.close 1=true:=gj am am
        have f1:gx n.beat 0=true:=gj am am;have f2:gx n.base 1=true:=gj am am;have f3:gx n.cap n.base=true:=gj am am;have f4:gx n.K0 0=false:=mF am
        go_wp2_with (go_at_call 193;refine(f9 _ _ _).mono ?_;rintro e w2 ⟨rfl,rfl⟩)
        go_ret2
        rw[HR.out];exact ChkPost.mk (p:=(2,(k:Int))) (mf HB.out)
  · obtain rfl:k=f.KW.length:=am
    have K4:=Lib.hid Lg;have HB:=Lib.hid hb;have hv:=Lg.aft_lt;have HV:=Lib.hid hv;have Lw:=L7.out;have L4:=(HN.out.keep (hb.to_same.mono hB));have Md:=Lib.hid L4;have L5:=Lib.hid LH;clear Lg hb hv L4 LW hk
    go_wp2
    clear Lw LH;obtain⟨O,rfl⟩:∃O:World,O=wr:=⟨_,rfl⟩
    go_loopw [14] (λt ws=>∃(r:Nat) (g:List Bool),r<=f.KW.length/\t=.int .i64 r/\FK.Gone f.KW g/\FK.Far f.KW g r/\Blk ws O.heap.size 4 (gk g)/\Below O.heap.size O ws) (λt _=>f.KW.length-(RowKit.intOf t).toNat)
    case atStart=>exact⟨0,List.replicate f.KW.length false,am,rfl,.start _,.inr am,Blk.made _ _ _,(Below.refl _ _).alloc (cu _) _⟩
    case round=>
     obtain⟨r,g,hr,rfl,Li,Lz,Y,J⟩:=hrel;have K8:wr.cell? ⟨w.heap.size,1,none⟩=some (.slice A f.KW.length c):=by rw[J.to_same.cell LG];exact L5.out
     have LA:=Lib.hid Y;have Mm:=Y.lt;have wf:=Lib.hid J;have HG:=Lib.hid Li;have HF:=Lib.hid Lz;clear Y J Li Lz
     by_cases Mn:r<f.KW.length
     · go_wp2
       clear K8;obtain⟨w3,rfl⟩:∃w3:World,w3=wr:=⟨_,rfl⟩
       go_loopw [15] (λt ws=>∃(i:Nat) (g':List Bool),i<=f.KW.length/\t=.int .i64 i/\FK.Sweep f.KW g g' i/\Blk ws O.heap.size 4 (gk g')/\Below O.heap.size O ws) (λt _=>f.KW.length-(RowKit.intOf t).toNat)
       case atStart=>exact⟨0,g,am,rfl,.start HG.out,LA.out,wf.out⟩
       case round=>
        obtain⟨i,g',hi,rfl,LV,Y,J⟩:=hrel;have K8:wr.cell? ⟨w.heap.size,1,none⟩=some (.slice A f.KW.length c):=by rw[J.to_same.cell LG];exact L5.out
        have BT:=Lib.hid Y;have Me:=Y.lt;have Lb:=Lib.hid J;have Lq:=Lib.hid LV;clear Y J LV
        by_cases Lr:i<f.KW.length
        · obtain⟨b,off,rfl,LJ,E⟩:=Md.out.cells am
          have mt:f.KW[i]?=some f.KW[i]:=by simp[Lr]
          obtain⟨n,hn⟩:∃n,n=f.KW[i]:=⟨_,rfl⟩;rw[<-hn] at mt;have Mf:n∈f.KW:=bY mt;clear hn;have K3:=(E i n mt).keep (Lb.out.to_same.mono am) LJ;obtain⟨A6,n6,c6,Lu⟩:=K3.c6;have LB:=FK.FD mt;have Ly:∀x∈n.after,0<=x:=λx hx=>by
           have:=(K4.out i n Lr mt).2.bounds x hx;omega
          have K6:=Lib.hid Lu;have LC:=Lib.hid LB;have Mg:=Lib.hid Ly;have L8:=Lu.len;have Lv:=Lu.cap;clear E mt K3 Lu LB Ly Mf
          go_wp2
          go_loop [16,17] (λt s=>∃(m:Nat) (b':Bool),m<=n.after.length/\s=.int .i64 m/\t=.bool b'/\FreeTo f.KW g' i m b') (λ_ s=>n.after.length-(RowKit.intOf s).toNat)
          case atStart=>exact⟨0,true,am,rfl,rfl,.start _ _ _⟩
          case round=>
           obtain⟨m,b',hm,rfl,rfl,Lj⟩:=hrel;have Ls:=Lib.hid Lj;clear Lj
           by_cases Lm:m<n.after.length
           · obtain⟨b6,o6,LK,L6,Ld⟩:=K6.out.cells am
             have I:n.after[m]?=some n.after[m]:=by simp[Lm]
             have LO:=Ld m n.after[m] I;have Ly:=Mg.out n.after[m] (List.getElem_mem _);obtain⟨xn,LL⟩:∃xn:Nat,n.after[m]=(xn:Int):=⟨n.after[m].toNat,am⟩;have LS:(FK.aft f.KW i)[m]?=some xn:=by rw[LC.out,List.getElem?_map,I,LL];simp
             have Mo:=HV.out i xn (bY LS);have Le:=Lq.out.gone.len;obtain⟨cb,LM⟩:∃cb,g'[xn]?=some cb:=⟨g'[xn]'am,by simp⟩;have E:wr.cell? ⟨O.heap.size,xn,none⟩=some (.bool cb):=by rw[BT.out.cell];exact lX LM
             have Fd:=Lib.hid (Ls.out.next LS LM);rw[LL] at LO Ly;subst LK;clear Ld I LL LS Le LM;cases b' with
             | true=>
              go_wp2
              go_round
              case rel=>exact⟨m+1,cb,am,by go_num,rfl,by simpa using Fd.out⟩
              case measure=>simp[RowKit.intOf];omega
             | false=>
              go_wp2
              go_round
              case rel=>exact⟨m+1,false,am,by go_num,rfl,by simpa using Fd.out⟩
              case measure=>simp[RowKit.intOf];omega
           · have Le:=Lq.out.gone.len
             obtain⟨vb,In⟩:∃vb,g'[i]?=some vb:=⟨g'[i]'am,by simp⟩;have E:wr.cell? ⟨O.heap.size,i,none⟩=some (.bool vb):=by rw[BT.out.cell];exact lX In
             have My:wr.frozen? ⟨O.heap.size,i,none⟩=false:=BT.out.free i;have Fd:=Lib.hid (Lq.out.next Lr (Ls.out.whole (by rw[LC.out];simp;omega)) (HV.out i) (v:=vb||b') (by rw[List.getD,In];rfl));have Lt:=Lib.hid (BT.out.put i (.bool (vb||b')));rw[uh] at Lt;clear Le In;cases vb with
             | true=>
              go_wp2
              go_roundw
              case rel=>exact⟨i+1,g'.set i true,am,by go_num,by simpa using Fd.out,by simpa using Lt.out,Lb.out.setCell (cu _) _⟩
              case measure=>simp[RowKit.intOf];omega
             | false=>
              go_wp2
              go_roundw
              case rel=>exact⟨i+1,g'.set i b',am,by go_num,by simpa using Fd.out,by simpa using Lt.out,Lb.out.setCell (cu _) _⟩
              case measure=>simp[RowKit.intOf];omega
        · obtain rfl:i=f.KW.length:=am
          have Mh:=Lib.hid (FK.Far.next HV.out HG.out HF.out Lq.out)
          go_wp2
          go_roundw
          case rel=>exact⟨r+1,g',am,by go_num,Lq.out.gone,Mh.out,BT.out,Lb.out⟩
          case measure=>simp[RowKit.intOf];omega
     · obtain rfl:r=f.KW.length:=am
       have HW:=Lib.hid (FK.Far.end_ HG.out HF.out)
       go_wp2
       go_loop [18] (λt=>∃j:Nat,j<=f.KW.length/\t=.int .i64 j/\AcTo f.KW j) (λt=>f.KW.length-(RowKit.intOf t).toNat)
       case atStart=>exact⟨0,am,rfl,λi hi=>by omega⟩
       case round=>
        obtain⟨j,hj,rfl,Lv⟩:=hrel;have LT:=Lib.hid Lv;clear Lv
        by_cases LD:j<f.KW.length
        · have Le:=HG.out.len
          have Lc:=HG.out.iff HW.out j LD;obtain⟨vb,In⟩:∃vb,g[j]?=some vb:=⟨g[j]'am,by simp⟩;have E:wr.cell? ⟨O.heap.size,j,none⟩=some (.bool vb):=by rw[LA.out.cell];exact lX In
          cases vb with
          | true=>
           have LE:=Lc.1 In;have Fd:=Lib.hid (show AcTo f.KW (j+1) from λi hi=>by
            rcases Nat.lt_or_ge i j with h|h
            · exact LT.out i h
            · obtain rfl:i=j:=am
              exact LE)
           clear Le Lc In LE
           go_wp2
           go_round
           case rel=>exact⟨j+1,am,by go_num,Fd.out⟩
           case measure=>simp[RowKit.intOf];omega
          | false=>
           have LF:¬FK.Ac f.KW j:=λh=>by have:=Lc.2 h;rw[In] at this;cases this
           have HR:=Lib.hid (FK.Checked.cycle j HH.out K4.out LD LF LT.out).chk;clear Le Lc In LF
           go_wp2
           go_ret2
           rw[HR.out];exact ChkPost.mk (p:=(4,(j:Int))) (HB.out.trans (wf.out.mono HB.out.size))
        · obtain rfl:j=f.KW.length:=am
          have HR:=Lib.hid (FK.Checked.ok HH.out K4.out LT.out).chk
          go_wp2
          go_ret2
          rw[HR.out];exact ChkPost.mk (p:=(0,-1)) (HB.out.trans (wf.out.mono HB.out.size))
theorem qG (w:World) (B:Nat) (A:Option Addr) (c:Nat) (f:FK.Flow) (I:B<=w.heap.size) (J:NodesAt w B A c f.KW) :
 Calls Tryz.prog 133 #[.agg #[.int .i64 f.deadline,.slice A f.KW.length c]] w (ChkPost w (FK.chk f)):=by
 by_cases E:FK.im f
 · exact tN w B A c f I J E
 · exact tM w A c f E
end
end Go.Y
namespace Go.Y
open Go.Proofs Go.RowKit Go.SL
theorem Fit.enc (h:FK.Fit f):∃d:Nat,f.deadline=d/\d<=1048576/\f.KW.length<=12/\∀n∈f.KW,FK.fB n/\FK.EdgesOk f.KW.length (-1) n.after:=by
 obtain⟨⟨J,K⟩,h3,I⟩:=h.head;refine⟨f.deadline.toNat,am,am,I,λn E=>?_⟩;obtain⟨i,hi⟩:=List.getElem?_of_mem E;exact h.KW i n (gfGet.1 hi).1 hi
def Dc (f:FK.Flow) (v:Value) (m:List HP):Prop:=
 ((FK.chk f).1=0/\∃E,v=.tuple #[E,aw 0,aw (-1)]/\m=[dd E (FK.lG f)])\/((FK.chk f).1≠0/\v=.tuple #[cx,aw (FK.chk f).1,aw (FK.chk f).2]/\m=[])
theorem mY (f:FK.Flow) (A:Option Addr) (c:Nat):Gives Tryz.prog Good 133 [.agg #[aw f.deadline,.slice A f.KW.length c]].toArray (λw=>NodesAt w w.heap.size A c f.KW)
 λv m=>v=.tuple #[aw (FK.chk f).1,aw (FK.chk f).2]/\m=[]:=
 fM λ_ w _ _ E=>qG w w.heap.size A c f (cu _) E
theorem Bf (I:Int) (ns:List FK.Node) (A:Option Addr) (c:Nat):Gives Tryz.prog Good 85 [.agg #[aw I,.slice A ns.length c]].toArray (λw=>NodesAt w w.heap.size A c ns) (Dc ⟨I,ns⟩):=by
 refine Gives.body Tryz.func85 Z Z λE w0 T Y hN=>?_;refine sS<|sO (cR Z Z λb1=>(sA Z (sA Z (sB Z (sS (bF (bO (vs:=[aw I,.slice A ns.length c]) Z) (bm Z) (sO (mz Z Z Z T (mY ⟨I,ns⟩ A c) (n8 bJ Y hN (cu _)) ?_))))))))
 rintro v m ⟨rfl,rfl⟩;refine aZ<|sM Z<|bT Z Z<|bT Z Z<|sA Z<|sB Z<|sQ<|bq Z<|sP (dc Z Z Z)<|sN ?_
 refine aB Z (λJ=>?_) λJ=>?_
 ·
  exact bq Z<|sM Z<|sA Z<|sA Z<|sB Z<|an<|aC<|gH [] rfl Z Z Z (.inr ⟨J,rfl,rfl⟩) Ent.drop
 ·
  have K:(FK.chk ⟨I,ns⟩).1=0:=am;obtain⟨d,hd,O,hl,ho⟩:=Fit.enc (FK.oJ K);simp only at hd hl ho;subst hd;refine ae<|sT<|sS<|bF (bO (vs:=[aw d,.slice A ns.length c]) Z) (bm Z)<|sO<|mz Z Z Z T (qH d A c ns O hl ho) (n8 bJ Y hN (cu _)) ?_
  rintro v m rfl;exact aa<|sA Z<|sA Z<|sB Z<|an<|gH [_] rfl Z Z Z (.inl ⟨K,_,rfl,rfl⟩)<|Ent.cons Ent.drop
section
variable {p:HP}
theorem ReadPost.form (h:ReadPost bs p v m):∃x y z,v=.tuple #[.agg #[x,y],z]/\x.oneCell'=true/\y.oneCell'=true/\z.oneCell'=true:=by
 rcases h with⟨f,E,I,_,_,rfl,_⟩|⟨e,a,b,_,_,rfl,_⟩
 · exact⟨_,_,_,rfl,rfl,rfl,rfl⟩
 · exact⟨_,_,_,rfl,rfl,rfl,rfl⟩
theorem ReadPost.ok (h:ReadPost bs p v m) (K:FK.nF bs=.ok f):∃I J,(∀nd∈f.KW,Small nd)/\v=.tuple #[.agg #[aw f.deadline,.slice I f.KW.length J],.nilIface]/\m=[nodesOwn (.slice I f.KW.length J) f.KW,p]:=by
 rcases h with⟨Y,I,J,E,O,h3,T⟩|⟨e,a,b,E,_⟩
 · rw[K] at E
   injection E with E;subst E;exact⟨I,J,O,h3,T⟩
 · rw[K] at E;cases E
def DecPost (bs:List UInt8) (p:HP) (v:Value) (m:List HP):Prop:=
 (∃(f:FK.Flow) (E:Option Addr) (I:Nat),FK.nF bs=.ok f/\(∀nd∈f.KW,Small nd)/\v=.tuple #[.agg #[aw f.deadline,.slice E f.KW.length I],aw 0,aw (-1)]/\m=[nodesOwn (.slice E f.KW.length I) f.KW,p])\/
 (∃(e a:Int),FK.nF bs=.error (e,a)/\e≠0/\v=.tuple #[.agg #[aw 0,cx],aw e,aw a]/\m=[p])
theorem DecPost.ok (h:DecPost bs p v m) (K:FK.nF bs=.ok f):∃I J,(∀nd∈f.KW,Small nd)/\v=.tuple #[.agg #[aw f.deadline,.slice I f.KW.length J],aw 0,aw (-1)]/\m=[nodesOwn (.slice I f.KW.length J) f.KW,p]:=by
 rcases h with⟨Y,I,J,E,O,h3,T⟩|⟨e,a,E,_⟩
 · rw[K] at E
   injection E with E;subst E;exact⟨I,J,O,h3,T⟩
 · rw[K] at E;cases E
theorem DecPost.bad {e a:Int} (h:DecPost bs p v m) (I:FK.nF bs=.error (e,a)):e≠0/\v=.tuple #[.agg #[aw 0,cx],aw e,aw a]/\m=[p]:=by
 rcases h with⟨T,Y,c',E,J,h3,K⟩|⟨e,a,E,J,h3,K⟩
 · rw[I] at E;cases E
 · rw[I] at E
   injection E with E;injection E with E O;subst E;subst O;exact⟨J,h3,K⟩
end
end Go.Y
