/- A host: ahead of a call and behind it; errors as numbers. -/
import Derived.Test.YtmeegfamopaljaaGreatDoorRuH
import Derived.Test.YtmeegfamopaljaaGreatDoorRuE
import Derived.Test.YtmeegfamopaljaaGreatDoorRuA
import Derived.Shelf.Small.Bits
import Derived.Shelf.Strconv.Atoi
import Derived.Shelf.Strconv.Itoa0
import Derived.Shelf.Strconv.Itoa1
import Derived.Shelf.LaysM
import Derived.Shelf.Strconv.Itoa2
import Derived.Shelf.Strconv.Itoa3
import Derived.Shelf.Sort.Plain
import Derived.Shelf.Strings.Prefix
import Derived.Shelf.Slices.In.SortNone
import Derived.Shelf.Slices.In.SortNone2
import Derived.Test.YtmeegfamopaljaaGreatDoorChecked
import Derived.Sort.OwnSorted
import Derived.Test.YtmeegfamopaljaaGreatDoorRuF
import Derived.Test.YtmeegfamopaljaaGreatDoorRuB
import Derived.Test.YtmeegfamopaljaaGreatDoorRuG
set_option maxHeartbeats 1000000
set_option maxRecDepth 20000
variable {G:Go.SL.Env->Prop} {M:FR.En} {b c d e h i id j k n:Nat} {v:Go.Value} {ts:List (Nat×Go.Value)} {Q:Go.Exit->Go.Act->Go.World->Prop} {E:Go.SL.Env} {u:FR.Rn} {D:List Go.Deferred} {X l:List FR.Tmd} {K:Go.Act->Go.World->Prop} {r:List Go.SL.HP} {σ:FK.Dsk} {w:Go.World} {P:Go.Program} {g:Option (Nat×Bool)} {S:FK.En} {U:List FK.KD->Go.SL.HP} {x:FR.Tmd} {s:FR.St} {τ:FK.KD->FR.Tmd} {af:Array Go.Edge} {p:Go.Y.EA} {ty:Go.TypeId} {F:Go.FuncId} {J:FK.Jn} {α:Type}
namespace FK
structure Quiet (σ:Dsk):Prop where
 down:σ.down=false
 left:σ.left=-1
 full:σ.full=-1
 pend:σ.pend=[]
def Dsk.logs (σ:Dsk) (n:Nat) (s:ByteArray):Dsk:={σ with now:=fj σ.now ⟨2,d7 n,s⟩,dur:=fj σ.dur ⟨2,d7 n,s⟩}
def Dsk.rested (σ:Dsk):Dsk:={σ with left:=-1,full:=-1}
def Dsk.spent (σ:Dsk):Dsk:={σ with left:=-3,full:=-3}
theorem Quiet.logs {σ:Dsk} (h:Quiet σ) (n:Nat) (s:ByteArray):Quiet (σ.logs n s):=⟨h.down,h.left,h.full,h.pend⟩
theorem Quiet.rested {σ:Dsk} (h:Quiet σ):σ.rested=σ:=by
 obtain⟨a,b,c,d,e,f⟩:=σ;obtain⟨I,E,h3,J⟩:=h;simp only at E h3;subst E;subst h3
 rfl
theorem Quiet.add {σ:Dsk} (h:Quiet σ) {J:Jn} (E:J.broken=0) (s:ByteArray):J.add σ s=(J,(σ.logs J.n s).spent,0):=by
 obtain⟨a,b,c,d,e,f⟩:=σ;obtain⟨I,K,h3,O⟩:=h;obtain⟨n,t,T⟩:=J;simp only at I K h3 O E;subst I;subst K;subst h3;subst O;subst E;have e1:Go.IntKind.i64.wrap (-2)=-2:=by decide
 have e2:Go.IntKind.i64.wrap (-3)=-3:=by decide
 simp[Jn.add,Dsk.tell,Dsk.writes,Dsk.sync,e1,e2,Dsk.logs,Dsk.spent]
end FK
namespace Go.Y
open Go.Proofs
open Go Go.RowKit Go.SL
abbrev dX (h d:Nat) (fp:Option Addr):HP:=blk h 118 #[aX d,.pointer fp]
abbrev cA (l E I J:Int):List Value:=[aw l,aw E,aw I,aw J]
abbrev nK (l E I J:Int):Value:=.agg (cA l E I J).toArray
abbrev iO:Value:=nK (-1) (-1) 0 0
section
variable {P:List (Nat×ByteArray)} {fp:Option Addr}
theorem uv:dx G 18 [] [] λv m=>v=iO/\m=[]:=by
 refine bA Tryz.func18 Z λE fr J=>aZ<|sS<|sO (cH (z:=.agg #[aw 0,aw 0,aw 0,aw 0]) Z λI=>(sN (sS (sP (bI (ps:=[(0,.const (aw (-1))),(1,.const (aw (-1)))]) (vs:=[aw (-1),aw (-1)]) (cs:=(cA (-1) (-1) 0 0).toArray) Z Z Z Z Z) ?_))))
 refine sO<|bh Z (m:=4) (vs:=cA (-1) (-1) 0 0) Z Z Z Z er (by show 0+4<=4;omega) ?_
 exact aG I (cA (-1) (-1) 0 0).toArray Z<|sN<|an<|oa [] rfl (bM (vs:=cA (-1) (-1) 0 0) Z Z Z Z (bm Z)) ⟨rfl,rfl⟩ Ent.drop
theorem eH (l I J K:Int):dx G 49 [aX h,nK l I J K] [dX h d fp,aI d σ] λv m=>v=.tuple #[]/\m=[dX h d fp,aI d {σ with left:=l,full:=I}]:=by
 refine bA Tryz.func49 Z λE fr O=>aD ?_;refine dI bJ λq=>bH ?_;refine aq (l':=pS d q σ (dX h d fp::fr)) aT ?_;refine sS<|sO (cR Z Z λT=>(sN (sZ Z (dT Z Z (bC Z (cI Z) (bC Z (bl 0 Z) (bQ Z (au Z) (ah Z) (cv Z Z (bC Z (cI Z) (bC Z (bl 0 Z) (bQ Z (au Z) (ah Z) (bC Z (bl 0 Z) (bQ Z (au Z) (ah Z) (bC Z (bl 1 Z) (bQ Z (au Z) (ah Z) (bC Z (cI Z) (bC Z (bl 3 Z) ?_)))))))))))))))))
 refine dA 14 Z<|co Z Z Z Z Z gN ?_
 refine dK [true,false,false,false] (ai (ah Z) ak)<|dj 15 Z (cI Z)<|bC Z (bl 4 Z) ?_
 refine dA 17 Z<|co Z Z Z Z Z gN ?_
 refine dK [false] ak<|dE ?_
 refine aG d (jW q {σ with left:=l,full:=I}) Z ?_;refine bD [dX h d fp,aI d {σ with left:=l,full:=I}] rfl ⟨rfl,rfl⟩ ?_;refine Ent.trans ?_ ((dw (d:=d) q {σ with left:=l,full:=I} (r:=dX h d fp::fr)).trans gfE1);show Ent _ (blk d 131 (jW q {σ with left:=l,full:=I})::cr q.md q.P σ.dur::cr q.mn q.P σ.now::gB q.P::row 211 3 q.pv σ.pend.length (kE σ.pend)::dX h d fp::fr);exact aJ
theorem fT (l J K O:Int) (I:σ.down=false):dx G 51 [aX h,nK l J K O] [dX h d fp,aI d σ] λv m=>v=.tuple #[]/\m=[dX h d fp,aI d σ.rested]:=by
 obtain⟨dur,now,pend,left,full,down⟩:=σ;simp only at I;subst I;refine bA Tryz.func51 Z λE fr T=>aD ?_;refine dI bJ λq=>bH ?_;refine aq (l':=pS d q ⟨dur,now,pend,left,full,false⟩ (dX h d fp::fr)) aT ?_;refine sS<|sO (cR Z Z λY=>(sN (sQ (sS (sM Z (da Z (bn 0 Z (aR Z Z Z Z (da Z (bn 5 Z (aR Z Z Z Z (sN (aj Z (ae (sT ?_)))))))))))))))
 refine sZ Z<|dT Z Z<|dt 0 Z Z Z<|bQ Z (au Z) (ah Z)<|cv Z Z<|dt 0 Z Z Z<|bQ Z (au Z) (ah Z)<|dt 3 Z Z Z ?_
 refine dA 10 Z<|co Z Z Z Z Z gN ?_
 refine dK [false,false] ak<|dj 11 Z (cI Z)<|bC Z (bl 4 Z) ?_
 refine dA 13 Z<|co Z Z Z Z Z gN ?_
 refine dK [] ak<|dE<|aG d (jW q ⟨dur,now,pend,-1,-1,false⟩) Z<|bD [dX h d fp,aI d ⟨dur,now,pend,-1,-1,false⟩] rfl ⟨rfl,rfl⟩ ?_
 refine Ent.trans ?_ ((dw (d:=d) q ⟨dur,now,pend,-1,-1,false⟩ (r:=dX h d fp::fr)).trans gfE1);show Ent _ (blk d 131 (jW q ⟨dur,now,pend,-1,-1,false⟩)::cr q.md q.P dur::cr q.mn q.P now::gB q.P::row 211 3 q.pv pend.length (kE pend)::dX h d fp::fr);exact aJ
theorem kA:dQ 54 [.nilIface] [] λv m=>v=aw 0/\m=[]:=by
 refine bA Tryz.func54 Z λE fr I=>aZ<|sS<|sB Z<|bq Z ?_
 refine bW Z rU aT ?_;exact aZ<|sM Z<|bT Z Z<|bT Z Z<|sA Z<|sB Z<|bq Z<|sB Z<|an<|ar [] rfl Z ⟨rfl,rfl⟩ aT
theorem wG (n:Int):dQ 54 [.iface 48 (aw n)] [] λv m=>v=aw n/\m=[]:=by
 refine bA Tryz.func54 Z λE fr I=>aZ<|sS<|sB Z<|bq Z ?_
 refine bW Z (nZ n) aT ?_;exact aZ<|sM Z<|bT Z Z<|bT Z Z<|sA Z<|sB Z<|bq Z<|sB Z<|an<|ar [] rfl Z ⟨rfl,rfl⟩ aT
theorem ip (n:Int):dQ 54 [eY n] [] λv m=>v=aw n/\m=[]:=by
 unfold eY
 split
 · subst n
   exact kA
 · exact wG n
theorem Ap (n:Int):dQ 48 [eY n] [] λv m=>v=.tuple #[aw n,aw (-1)]/\m=[]:=by
 unfold eY
 split
 · subst n
   exact rU
 · exact nZ n
theorem lN {α:Type} {x:α}:∀{l:List α} {j:Nat},l[j]?=some x->l.Perm (x::l.eraseIdx j)
 | [],_,h=>by simp at h
 | y::l,0,h=>by simp at h;subst h;exact List.Perm.refl _
 | y::l,j+1,h=>by
  have:=lN (l:=l) (j:=j) (by simpa using h);rw[List.eraseIdx_cons_succ];exact(List.Perm.cons y this).trans (List.Perm.swap x y _)
theorem Names.perm {M M':List (ByteArray×Nat)} (h:M.Perm M'):∀{fs:FK.qB},Names P M fs->∃E,Names P M' E/\E.Perm fs:=by
 induction h with
 | nil=>exact λh=>⟨_,h,List.Perm.refl _⟩
 | cons x _ ih=>
  intro fs h;cases h with
  | cons a t=>
   obtain⟨E,I,J⟩:=ih t;exact⟨_,.cons a I,List.Perm.cons _ J⟩
 | swap x y l=>
  intro fs h;cases h with
  | cons a t=>
   cases t with
   | cons b t=>exact⟨_,.cons b (.cons a t),List.Perm.swap _ _ _⟩
 | trans _ _ K O=>
  intro fs h;obtain⟨f1,I,J⟩:=K h;obtain⟨T,h3,Y⟩:=O I;exact⟨T,h3,Y.trans J⟩
theorem Names.keys {P:List (Nat×ByteArray)}:∀{M:List (ByteArray×Nat)} {fs:FK.qB},Names P M fs->M.map (·.1)=fs.map (·.1)
 | _,_,.nil=>rfl
 | _,_,.cons _ t=>by simp only[List.map_cons,t.keys]
theorem GD {V:Type} {m:List (ByteArray×V)} {a:ByteArray} (h:a∉m.map (·.1)) (v:V):FK.jL m a v=m++[(a,v)]:=by
 refine FK.uX ?_ v;unfold FK.gO;have:m.find? (·.1==a)=none:=by
  rw[List.find?_eq_none];intro x E I;have:=(MapKept.bytes_beq _ _).1 I;exact h (by rw[<-this];exact List.mem_map_of_mem (f:=(·.1)) E)
 rw[this]
 rfl
theorem Ib {md:Nat} {nv Y:Value} {l O:Int} {dn:Bool} {dur:FK.qB} (hn:(dur.map (·.1)).Nodup):dx G 62 [aX d] [blk d 131 #[.map (some md),nv,Y,aw l,aw O,.bool dn],cr md P dur,gB P] λv m=>v=.tuple #[]/\∃I,I.Perm dur/\m=[aI d ⟨dur,I,[],l,O,false⟩]:=by
 refine bA Tryz.func62 Z λE fr hE=>cJ ?_;refine dI bJ λM=>bH ?_;refine aq (l':=HP.pure (Names P M dur)::cP fm md (fO M)::blk d 131 #[.map (some md),nv,Y,aw l,aw O,.bool dn]::gB P::fr) aT ?_;refine fg .head λhN=>?_;have K3:(M.map (·.1)).Nodup:=by rw[hN.keys];exact hn
 refine bq Z<|sO (kz fm Z λK=>(da Z (bn 1 Z ?_)))
 refine bR Z Z Z Z gN ?_;refine aG d #[.map (some md),.map (some K),Y,aw l,aw O,.bool dn] rfl<|sN<|sQ<|sS<|cG 0 Z Z<|aR Z Z Z Z<|sO (ox (b:=md) (m:=fO M) Z Z Z de λit=>(sN (ag ?_)))
 refine aO (X:=List (ByteArray×Nat)×Option (ByteArray×Value)×List (ByteArray×Nat)) (λ_=>[(12,.pointer (some ⟨it,0,none⟩)),(0,aX d)]) (λx=>ek fm it md (fO M) (fO x.1) x.2.1::cP fm K (fO x.2.2)::blk d 131 #[.map (some md),.map (some K),Y,aw l,aw O,.bool dn]::gB P::fr) (λx=>M.Perm (x.2.2++x.1)) (λx=>x.1.length) (M,none,[]) (List.Perm.refl _) bV (by show Ent _ (ek fm it md (fO M) (fO M) none::cP fm K []::blk d 131 #[.map (some md),.map (some K),Y,aw l,aw O,.bool dn]::gB P::fr);exact aJ) ?_;rintro⟨left,In,done⟩ J;replace J:M.Perm (done++left):=J;refine aq (l':=ek fm it md (fO M) (fO left) In::cP fm K (fO done)::blk d 131 #[.map (some md),.map (some K),Y,aw l,aw O,.bool dn]::gB P::fr) aT ?_;refine sQ ?_
 by_cases HL:left=[]
 ·
  subst HL;refine sG ?_;refine sO<|lD Z Z .head (λ_=>?_) (λj q T=>by simp at T)
  refine bT Z Z<|sN<|sQ<|aj Z<|aL<|aA<|az<|ap<|sT<|sQ ?_
  rw[List.append_nil] at J;obtain⟨I,BT,Fd⟩:=Names.perm J hN;refine sG<|cG 2 Z Z ?_
  refine bR Z Z Z Z gN ?_;refine sN<|sG<|cG 5 Z Z ?_
  refine bR Z Z Z Z gN ?_;refine ao<|aG d (jW ⟨md,K,cx,P⟩ ⟨dur,I,[],l,O,false⟩) Z<|bD [aI d ⟨dur,I,[],l,O,false⟩] rfl ⟨rfl,I,Fd,rfl⟩ ?_
  refine Ent.trans ?_<|dw ⟨md,K,cx,P⟩ ⟨dur,I,[],l,O,false⟩
  refine(Ent.sel (p:=ek fm it md (fO M) (fO []) none) bJ).trans (Ent.ranged.trans ((dM hN).trans ?_));refine(Ent.sel (p:=cP fm K (fO done)) de).trans ((dM BT).trans ?_);refine(Ent.row0 (e:=211) (size:=3)).trans ?_;show Ent _ (blk d 131 (jW ⟨md,K,cx,P⟩ ⟨dur,I,[],l,O,false⟩)::cr md P dur::cr K P I::gB P::row 211 3 cx 0 []::fr);exact aJ
 ·
  refine sG ?_;refine sO<|lD Z Z .head (λh=>absurd (List.map_eq_nil_iff.1 h) HL) λj q T=>?_
  obtain⟨x,hx,rfl⟩:∃x,left[j]?=some x/\(x.1,aX x.2)=q:=by
   rw[List.getElem?_map] at T;cases hl:left[j]? with
   | none=>rw[hl] at T;cases T
   | some x=>rw[hl] at T;injection T with T;exact⟨x,rfl,T⟩
  have K4:=(gfGet.1 hx).1;have K5:=lN hx;have mt:M.Perm ((done++[x])++left.eraseIdx j):=by
   rw[List.append_assoc];exact J.trans<|List.Perm.append_left done K5
  have wf:x.1∉done.map (·.1):=by
   have:=(mt.map (·.1)).nodup_iff.1 K3;rw[List.map_append,List.map_append,List.append_assoc,List.nodup_append] at this;intro hm;exact this.2.2 _ hm _ cY Z
  rw[<-iv];refine bT Z Z<|sN<|sQ<|aM Z<|ae<|sT<|ag<|sS<|bF (oI (p:=(x.1,aX x.2)) Z) (m0 .head)<|bT Z Z<|bT Z Z<|sA Z<|sB Z<|sG<|sM Z<|da Z ?_
  refine bn 1 Z<|aR Z Z Z Z<|sM Z<|sM Z<|sO<|vG (a:=x.1) (v:=aX x.2) Z Z kW Z Z Z bJ ?_
  rw[xB,GD wf];refine ao<|al ?_
  exact aE (left.eraseIdx j,some (x.1,aX x.2),done++[x]) mt (by show(left.eraseIdx j).length<left.length;rw[List.length_eraseIdx_of_lt K4];omega) bV (by show Ent _ (ek fm it md (fO M) (fO (left.eraseIdx j)) (some (x.1,aX x.2))::cP fm K (fO (done++[x]))::blk d 131 #[.map (some md),.map (some K),Y,aw l,aw O,.bool dn]::gB P::fr);exact aJ)
theorem wI:dx G 27 [] [] λv m=>∃h d,v=aX h/\m=[dX h d none,aI d ⟨[],[],[],-1,-1,false⟩]:=by
 refine bA Tryz.func27 Z λE fr hE=>aZ<|sS<|sB Z<|sS<|sO (kz fm Z λK=>(sP (bI (ps:=[(0,.tmp 2),(3,.const (aw (-1))),(4,.const (aw (-1)))]) (vs:=[.map (some K),aw (-1),aw (-1)]) (cs:=#[.map (some K),.map none,cx,aw (-1),aw (-1),.bool false]) Z Z Z Z Z) (sO (cR Z Z λI=>(sP (bI (ps:=[(0,.tmp 4)]) (vs:=[aX I]) (cs:=#[aX I,.pointer none]) Z Z Z Z Z) (sO (cR Z Z λT=>(sB Z (sS (sM Z (da Z ?_)))))))))))
 refine bn 0 Z<|aR Z Z Z Z ?_
 refine bU Z (Ib (md:=K) (P:=[]) (dur:=[]) cY) ((bo bJ bJ).trans (Ent.cons ((dM (M:=[]) .nil).trans (Ent.cons (Ent.all (m:=[])))))) ?_;rintro v m ⟨rfl,J,O,rfl⟩;refine aa<|sN<|bq Z<|sB Z<|an ?_
 have Y:J=[]:=List.Perm.eq_nil O;subst Y;exact ar [dX T I none,aI I ⟨[],[],[],-1,-1,false⟩] rfl Z ⟨T,I,rfl,rfl⟩ gfE1
end
end Go.Y
namespace Go.SL
open Go.RowKit
section
variable {fr:List HP} {p1 p2 p3 p4 p5:HP}
theorem jc {p0:HP} (h:At E n D ts (p0::p1::p2::p3::p4::p5::fr) K):At E n D ts ([p0,p1,p2,p3,p4,p5]++fr) K:=h
theorem BQ {p0 I:HP} (h:At E n D ts (p0::p1::p2::p3::p4::p5::I::fr) K):At E n D ts ([p0,p1,p2,p3,p4,p5,I]++fr) K:=h
theorem f7 {p0 I O:HP} (h:At E n D ts (p0::p1::p2::p3::p4::p5::I::O::fr) K):At E n D ts ([p0,p1,p2,p3,p4,p5,I,O]++fr) K:=h
end
end Go.SL
namespace Go.Y
open Go.Proofs Go.RowKit Go.SL
abbrev bB (h d f:Nat):HP:=dX h d (some ⟨f,0,none⟩)
abbrev cj (h f e j d:Nat) (p:EA) (S:FK.En) (J:FK.Jn) (σ:FK.Dsk):List HP:=bB h d f::bX f e j d p S J σ
abbrev noted (σ:FK.Dsk) (J:FK.Jn) (op n:Nat):FK.Dsk:=σ.logs J.n (ii (FK.frame (FK.eD op n)))
section
variable {f:Nat} {R:FK.Rn}
theorem my (h:FK.Quiet σ):({σ with left:=-1,full:=-1}:FK.Dsk)=σ:=h.rested
theorem vW (h:FK.Quiet σ):σ.spent.rested=σ:=h.rested
theorem zm (O:FK.Quiet σ) (hq:S.KX=[]):dQ 24 [aX h,iO] (cj h f e j d p S J σ) λv m=>v=.tuple #[fR 0 0 0 0,.bool false,aw 0]/\m=cj h f e j d p S J σ:=by
 refine bA Tryz.func24 Z λE fr hE=>cX<|sS<|sO (cR Z Z λT=>(sO (cH (z:=.agg #[.int .u64 0,aw 0,aw 0,.int .u64 0]) Z λI=>(sA Z (sB Z (sQ (sS (sM Z (da Z (bn 1 Z (aR Z Z Z Z (sP (dS Z Z Z) (sN (aj Z ?_))))))))))))))
 refine ae<|sT<|bq Z<|bF (bO (vs:=cA (-1) (-1) 0 0) Z) (bm Z) ?_
 refine bW Z (eH (-1) (-1) 0 0) (bo de Ae) ?_;refine aD ?_;rw[my O];refine aq (l':=cU f e j::aN e p S::aP j d J::aI d σ::bB h d f::blk I 55 (cd 0 0 0 0).toArray::blk T 41 (cA (-1) (-1) 0 0).toArray::fr) (by show Ent (_::_::blk I 55 (cd 0 0 0 0).toArray::blk T 41 (cA (-1) (-1) 0 0).toArray::_) _;exact aJ) ?_;refine sN<|sS<|cG 1 Z Z<|aR Z Z Z Z ?_
 refine bW Z (zy hq) aT ?_;refine bS<|sM Z<|bT Z Z<|bT Z Z<|bT Z Z<|sO (cH (z:=.agg #[.int .u64 0,aw 0,aw 0,.int .u64 0]) Z λY=>?_)
 refine sO<|bh Z (m:=4) (vs:=cd 0 0 0 0) Z Z Z Z er (by show 0+4<=4;omega) ?_
 refine aG Y (cd 0 0 0 0).toArray Z<|sA Z<|sB Z<|sQ ?_
 refine aq (l':=bB h d f::aI d σ::cU f e j::aN e p S::aP j d J::blk Y 55 (cd 0 0 0 0).toArray::blk I 55 (cd 0 0 0 0).toArray::blk T 41 (cA (-1) (-1) 0 0).toArray::fr) aJ ?_;refine sG<|sM Z<|bF (bO (vs:=cA (-1) (-1) 0 0) Z) (bm Z) ?_
 refine bW Z (fT (-1) (-1) 0 0 O.down) aT ?_;refine aD ?_;rw[O.rested];refine sN<|sQ<|sZ Z<|jh 0 Z (bO (vs:=cd 0 0 0 0) Z) (bm Z)<|cv Z Z<|cv Z Z ?_
 refine dA 3 Z<|ed Z kA aT ?_
 rintro v m ⟨rfl,rfl⟩;refine aZ<|dK [true] (ai (bm Z) ak) ?_
 refine dA 4 Z<|bh Z (m:=4) (vs:=cd 0 0 0 0) Z Z Z Z er (by show 0+4<=4;omega) ?_
 refine dK [false] ak<|dj 5 Z (aU Z)<|bC Z (aU Z)<|dE<|sT<|an<|aG I (cd 0 0 0 0).toArray Z<|eP (cj h f e j d p S J σ) Z (bM (vs:=cd 0 0 0 0) Z Z Z Z (bm Z)) (bL Z) (bL Z) ⟨rfl,rfl⟩ ?_
 show Ent _ (bB h d f::cU f e j::aN e p S::aP j d J::aI d σ::fr);exact aJ
theorem zl (hS:FK.Ok S) (hJ:J.n<1000000) (hb:J.broken=0) (hr:Roomy σ) (Y:FK.Quiet σ) {q:List FK.Pl} {s:FK.Sp} {nd:FK.Node} (hq:S.KX=⟨id,(k:Int),0⟩::q) (hR:S.getR id=some R) (hs:R.KV[k]?=some s) (hn:R.fl.KW[k]?=some nd) (I:S.sets+1<9223372036854775807) (O:S.KS<9223372036854775807):dQ 24 [aX h,iO] (cj h f e j d p S J σ) λv m=>v=.tuple #[fR id k (s.KU+1) (S.KS+1),.bool true,aw 0]/\m=cj h f e j d p (S.hand ⟨id,(k:Int),0⟩ q R s nd) J (noted σ J 2 0):=by
 have T:=Y.add hb (ii (FK.frame (FK.eD 2 0)));refine bA Tryz.func24 Z λE fr hE=>cX<|sS<|sO (cR Z Z λb3=>(sO (cH (z:=.agg #[.int .u64 0,aw 0,aw 0,.int .u64 0]) Z λb4=>(sA Z (sB Z (sQ (sS (sM Z (da Z (bn 1 Z (aR Z Z Z Z (sP (dS Z Z Z) (sN (aj Z ?_))))))))))))))
 refine ae<|sT<|bq Z<|bF (bO (vs:=cA (-1) (-1) 0 0) Z) (bm Z) ?_
 refine bW Z (eH (-1) (-1) 0 0) (bo de Ae) ?_;refine aD ?_;rw[my Y];refine aq (l':=cU f e j::aN e p S::aP j d J::aI d σ::bB h d f::blk b4 55 (cd 0 0 0 0).toArray::blk b3 41 (cA (-1) (-1) 0 0).toArray::fr) (by show Ent (_::_::blk b4 55 (cd 0 0 0 0).toArray::blk b3 41 (cA (-1) (-1) 0 0).toArray::_) _;exact aJ) ?_;refine sN<|sS<|cG 1 Z Z<|aR Z Z Z Z ?_
 refine bU Z (zx hS hJ hr hq hR hs hn I O) aT ?_;rintro v m hv;obtain⟨rfl,rfl⟩:v=.tuple #[fR id k (s.KU+1) (S.KS+1),.bool true,.nilIface]/\m=bX f e j d p (S.hand ⟨id,(k:Int),0⟩ q R s nd) J (noted σ J 2 0).spent:=by
  unfold oL at hv;rw[T] at hv;rcases hv with⟨_,h1,h2⟩|⟨h1,_⟩
  · exact⟨h1,h2⟩
  · exact absurd Z h1
 refine bS<|sM Z<|bT Z Z<|bT Z Z<|bT Z Z<|sO (cH (z:=.agg #[.int .u64 0,aw 0,aw 0,.int .u64 0]) Z λb7=>?_)
 refine sO<|bh Z (m:=4) (vs:=cd id k (s.KU+1) (S.KS+1)) Z Z Z Z er (by show 0+4<=4;omega) ?_
 refine aG b7 (cd id k (s.KU+1) (S.KS+1)).toArray Z<|sA Z<|sB Z<|sQ ?_
 refine aq (l':=bB h d f::aI d (noted σ J 2 0).spent::cU f e j::aN e p (S.hand ⟨id,(k:Int),0⟩ q R s nd)::aP j d J::blk b7 55 (cd id k (s.KU+1) (S.KS+1)).toArray::blk b4 55 (cd 0 0 0 0).toArray::blk b3 41 (cA (-1) (-1) 0 0).toArray::fr) aJ ?_;refine sG<|sM Z<|bF (bO (vs:=cA (-1) (-1) 0 0) Z) (bm Z) ?_
 refine bW Z (fT (σ:=(noted σ J 2 0).spent) (-1) (-1) 0 0 Y.down) aT ?_;refine aD ?_;rw[vW (Y.logs _ _)];refine sN<|sQ<|sZ Z<|jh 0 Z (bO (vs:=cd id k (s.KU+1) (S.KS+1)) Z) (bm Z)<|cv Z Z<|cv Z Z ?_
 refine dA 3 Z<|ed Z kA aT ?_
 rintro v m ⟨rfl,rfl⟩;refine aZ<|dK [true] (ai (bm Z) ak) ?_
 refine dA 4 Z<|bh Z (m:=4) (vs:=cd id k (s.KU+1) (S.KS+1)) Z Z Z Z er (by show 0+4<=4;omega) ?_
 refine dK [false] ak<|dj 5 Z (aU Z)<|bC Z (aU Z)<|dE<|sT<|an<|aG b4 (cd id k (s.KU+1) (S.KS+1)).toArray Z<|eP (cj h f e j d p (S.hand ⟨id,(k:Int),0⟩ q R s nd) J (noted σ J 2 0)) Z (bM (vs:=cd id k (s.KU+1) (S.KS+1)) Z Z Z Z (bm Z)) (bL Z) (bL Z) ⟨rfl,rfl⟩ ?_
 show Ent _ (bB h d f::cU f e j::aN e p (S.hand ⟨id,(k:Int),0⟩ q R s nd)::aP j d J::aI d (noted σ J 2 0)::fr);exact aJ
theorem Eh {Q:Int->FK.En->FK.Jn->FK.Dsk->Prop} (hQ:FK.Quiet σ)
 (hC:dQ 59 [aX f,aQ n] (bX f e j d p S J σ) λv m=>∃c U O I,v=eY c/\I.down=false/\Q c U O I/\m=bX f e j d p U O I):dQ 25 [aX h,aw 7,aQ n,iO] (cj h f e j d p S J σ) λv m=>∃c U O I,v=aw c/\Q c U O I/\m=cj h f e j d p U O I.rested:=by
 refine bA Tryz.func25 Z λE fr hE=>cX<|sS<|sO (cR Z Z λT=>(sB Z (sQ (sS (sM Z (da Z (bn 1 Z (aR Z Z Z Z (sP (dS Z Z Z) (sN (aj Z (ae (sT ?_)))))))))))))
 refine bq Z<|bF (bO (vs:=cA (-1) (-1) 0 0) Z) (bm Z) ?_
 refine bW Z (eH (-1) (-1) 0 0) (bo bJ kT) ?_;refine aD ?_;rw[my hQ];refine aq (l':=cU f e j::aN e p S::aP j d J::aI d σ::bB h d f::blk T 41 (cA (-1) (-1) 0 0).toArray::fr) (by show Ent (_::_::blk T 41 (cA (-1) (-1) 0 0).toArray::_) _;exact aJ) ?_;refine sN<|sS<|sB Z<|sQ<|bq Z<|sN<|ag<|sS<|sP (aY Z Z Z)<|sB Z ?_
 refine aj Z<|sS<|sP (aY Z Z Z)<|sB Z<|aj Z<|sS<|sP (aY Z Z Z)<|sB Z<|aj Z<|sS<|sP (aY Z Z Z)<|sA Z<|ao ?_
 refine sT<|aj Z<|sS<|sP (aY Z Z Z)<|sB Z<|aM Z<|sG<|cG 1 Z Z<|aR Z Z Z Z<|sM Z ?_
 refine bU Z hC aT ?_;rintro v m ⟨c,U,O,I,rfl,Y,mt,rfl⟩;refine bS<|sA Z<|ao<|al<|sT<|sQ ?_
 refine aq (l':=bB h d f::aI d I::cU f e j::aN e p U::aP j d O::blk T 41 (cA (-1) (-1) 0 0).toArray::fr) aJ ?_;refine sG<|sM Z<|bF (bO (vs:=cA (-1) (-1) 0 0) Z) (bm Z) ?_
 refine bW Z (fT (-1) (-1) 0 0 Y) aT ?_;refine aD<|sN<|bq Z ?_
 refine bW Z (ip c) aT ?_;refine aZ<|sB Z<|an<|ar (cj h f e j d p U O I.rested) Z Z ⟨c,U,O,I,rfl,mt,rfl⟩ ?_
 show Ent _ (bB h d f::cU f e j::aN e p U::aP j d O::aI d I.rested::fr);exact aJ
theorem CallPost.well {op:Nat} {Q:FK.En->Prop} (I:FK.Quiet σ) (Y:J.broken=0) {m:List HP} (h:CallPost f e j d p S J σ op n Q v m):∃(c:Int) (U:FK.En) (T:FK.Jn) (O:FK.Dsk),v=eY c/\O.down=false/\(c=0/\Q U/\T=J/\O.rested=noted σ J op n)/\m=bX f e j d p U T O:=by
 unfold CallPost at h;rw[I.add Y] at h;obtain⟨rfl,U,h1,_,rfl⟩:=h;exact⟨0,U,J,(noted σ J op n).spent,rfl,(show(noted σ J op n).spent.down=false from I.down),⟨rfl,h1 Z,rfl,vW (I.logs _ _)⟩,rfl⟩
theorem BG (hS:FK.Ok S) (hn:n<18446744073709551616) (hJ:J.n<1000000) (hb:J.broken=0) (hr:Roomy σ) (T:FK.Quiet σ) (I:S.sets<=4611686018427387904) (O:S.ends<=4611686018427387904):dQ 25 [aX h,aw 7,aQ n,iO] (cj h f e j d p S J σ) λv m=>v=aw 0/\∃U,FK.Ticks (S.later n) S U/\m=cj h f e j d p U J (noted σ J 7 n):=by
 refine(Eh (Q:=λc U Y σ'=>c=0/\FK.Ticks (S.later n) S U/\Y=J/\σ'.rested=noted σ J 7 n) T ((BS hS hn hJ hr I O).mono λv m hv=>⟨m,hv.well T hb,aT⟩)).mono ?_;rintro v m ⟨c,U,Y,σ',rfl,⟨rfl,h2,rfl,h4⟩,rfl⟩;refine⟨_,⟨rfl,U,h2,rfl⟩,?_⟩;rw[h4];exact aT
theorem zk (I:FK.Ok S):dQ 22 [aX h] (cj h f e j d p S J σ) λv m=>m=row 55 4 v S.KX.length (qV S S.KX)::cj h f e j d p S J σ:=by
 refine bA Tryz.func22 Z λE fr O=>cX<|sS<|sB Z<|sQ<|sS<|cG 1 Z Z<|aR Z Z Z Z<|sP (dS Z Z Z)<|sN<|aj Z<|ae<|sT<|sQ ?_
 refine sG<|cG 1 Z Z<|aR Z Z Z Z ?_
 refine bU Z (zw I) (Ent.trans gfE1 (Ent.cons (cF bJ bJ bJ))) ?_;rintro v m rfl;refine cX<|sB Z<|an<|ar (row 55 4 v S.KX.length (qV S S.KX)::cj h f e j d p S J σ) Z Z Z ?_
 show Ent _ (_::bB h d f::cU f e j::aN e p S::aP j d J::aI d σ::fr);exact aJ
theorem oR (hS:FK.Ok S) (hR:S.getR id=some R):dQ 26 [aX h,aQ id] (cj h f e j d p S J σ) λv m=>∃I O T Y,v=.tuple #[.agg (cm id R.state (.slice I R.KV.length O) (.slice T R.KV.length Y)).toArray,aw 0]/\m=bG (.slice I R.KV.length O) (R.KV.map (·.state))::bG (.slice T R.KV.length Y) (R.KV.map (·.KU))::cj h f e j d p S J σ:=by
 refine bA Tryz.func26 Z λE fr hE=>cX<|sS<|sO (cH (z:=.agg #[.int .u64 0,aw 0,cx,cx]) Z λb4=>(sB Z (sQ (sS (sM Z (da Z (bn 1 Z (aR Z Z Z Z (sP (dS Z Z Z) (sN (aj Z (ae (sT ?_)))))))))))))
 refine sQ ?_;refine aq (l':=cU f e j::aN e p S::aP j d J::aI d σ::bB h d f::blk b4 62 (cm 0 0 cx cx).toArray::fr) (by show Ent (blk b4 62 (cm 0 0 cx cx).toArray::_) _;exact aJ) ?_;refine sG<|cG 1 Z Z<|aR Z Z Z Z<|sM Z ?_
 refine bU Z (wR hS hR) aT ?_;rintro v m ⟨I,O,T,Y,rfl,rfl⟩;refine jc<|sM Z<|bT Z Z<|bT Z Z<|sO (cH (z:=.agg #[.int .u64 0,aw 0,cx,cx]) Z λb6=>?_)
 refine sO<|bh Z (m:=4) (vs:=cm id R.state (.slice I R.KV.length O) (.slice T R.KV.length Y)) Z Z Z Z er (by show 0+4<=4;omega) ?_
 refine aG b6 (cm id R.state (.slice I R.KV.length O) (.slice T R.KV.length Y)).toArray Z<|sB Z<|sQ<|sZ Z<|jh 0 Z (bO (vs:=cm id R.state (.slice I R.KV.length O) (.slice T R.KV.length Y)) Z) (bm Z)<|cv Z Z ?_
 refine dA 2 Z<|ed Z kA aT ?_
 rintro v m ⟨rfl,rfl⟩;refine aZ<|dK [true] (ai (bm Z) ak) ?_
 refine dA 3 Z<|bh Z (m:=4) (vs:=cm id R.state (.slice I R.KV.length O) (.slice T R.KV.length Y)) Z Z Z Z er (by show 0+4<=4;omega) ?_
 refine dK [false] ak<|dj 4 Z (aU Z)<|dE<|sT<|an<|aG b4 (cm id R.state (.slice I R.KV.length O) (.slice T R.KV.length Y)).toArray Z ?_
 refine dr (bG (.slice I R.KV.length O) (R.KV.map (·.state))::bG (.slice T R.KV.length Y) (R.KV.map (·.KU))::cj h f e j d p S J σ) Z (bM (vs:=cm id R.state (.slice I R.KV.length O) (.slice T R.KV.length Y)) Z Z Z Z (bm Z)) (bL Z) ⟨I,O,T,Y,rfl,rfl⟩ ?_;show Ent _ (bG _ _::bG _ _::bB h d f::cU f e j::aN e p S::aP j d J::aI d σ::fr);exact aJ
end
end Go.Y
namespace Go.SL
open Go.RowKit
theorem DoesD.plain {f:FuncId} {I:Func} {c:Code} {args:List Value} {u:FrameMode} {pre:List HP} {R:List HP->Prop} (hf:P.funcs[f]?=some I) (hb:I.body=some c) (hn:Nat.ble args.length I.ntmps=true)
 (h:∀E fr,G E->At E I.ntmps [] (fy 0 args) (pre++fr) (c.wp P (mh P I E fr λv m=>v=.tuple #[]/\R m))):DoesD P G f args.toArray u u pre R:=by
 intro E w fr hE hw;refine callsD_of_wpS hf hb λY cs hc=>?_;have O:Fits I.ntmps [] (fy 0 args) {tmps:=args.toArray++Array.replicate (I.ntmps-args.toArray.size) undef,defers:=[]}:=by
  refine⟨?_,rfl,?_⟩
  · have:=Nat.le_of_ble_eq_true hn
    simp;omega
  · intro i v hi
    obtain⟨_,J⟩:=fA args 0 i v hi;rw[Nat.sub_zero] at J;have T:i<args.length:=(gfGet.1 J).1;simp[Array.getElem?_append,T,(gfGet.1 J).2]
 have hk:=h E fr hE _ w O hw;refine wpS_of_wp<|Code.wp_mono ?_ hk
 intro e a w' K;cases e with
 | normal=>exact let⟨h1,v,J,v',m,h3,⟨h4,h5⟩,h6⟩:=K;⟨h1,u,by cases Y;simp_all,v,J,by rw[h3,h4],rfl,m,h5,h6⟩
 | ret=>exact let⟨h1,v,J,v',m,h3,⟨h4,h5⟩,h6⟩:=K;⟨h1,u,by cases Y;simp_all,v,J,by rw[h3,h4],rfl,m,h5,h6⟩
 | panic c=>exact let⟨_,v',m,h3,_⟩:=K;by cases h3
 | exit _=>exact K.elim
 | goto _=>exact K.elim
 | outgrown=>exact let⟨v',m,h3,_⟩:=K;by cases h3
end Go.SL
namespace Go.Proofs
open Go.Shelf
open Go.RowKit in
open Go.RowKit in
def pO:Go.Shelf.Ren:=⟨fun|192=>333|190=>336|125=>247|258=>337|128=>274|129=>227|302=>338|303=>339|304=>340|305=>341|306=>342|307=>343|308=>344|309=>345|310=>346|333=>347|329=>294|330=>295|334=>348|335=>349|336=>350|344=>351|n=>n,fun|31=>278|0=>0|9=>9|3=>3|46=>87|51=>312|53=>51|4=>4|183=>395|182=>394|131=>357|5=>5|218=>417|222=>219|228=>428|229=>200|n=>n,fun|n=>n⟩
theorem w8:Go.Proofs.Lays.n192 Tryz.prog pO:={
 mixed:=by kernel_rfl
 f125:=Tryz.func247.trans (congrArg some (by kernel_rfl))
 f128:=Tryz.func274.trans (congrArg some (by kernel_rfl))
 f129:=Tryz.func227.trans (congrArg some (by kernel_rfl))
 f190:=Tryz.func336.trans (congrArg some (by kernel_rfl))
 f192:=Tryz.func333.trans (congrArg some (by kernel_rfl))
 f258:=Tryz.func337.trans (congrArg some (by kernel_rfl))
 f302:=Tryz.func338.trans (congrArg some (by kernel_rfl))
 f303:=Tryz.func339.trans (congrArg some (by kernel_rfl))
 f304:=Tryz.func340.trans (congrArg some (by kernel_rfl))
 f305:=Tryz.func341.trans (congrArg some (by kernel_rfl))
 f306:=Tryz.func342.trans (congrArg some (by kernel_rfl))
 f307:=Tryz.func343.trans (congrArg some (by kernel_rfl))
 f308:=Tryz.func344.trans (congrArg some (by kernel_rfl))
 f309:=Tryz.func345.trans (congrArg some (by kernel_rfl))
 f310:=Tryz.func346.trans (congrArg some (by kernel_rfl))
 f329:=Tryz.func294.trans (congrArg some (by kernel_rfl))
 f330:=Tryz.func295.trans (congrArg some (by kernel_rfl))
 f333:=Tryz.func347.trans (congrArg some (by kernel_rfl))
 f334:=Tryz.func348.trans (congrArg some (by kernel_rfl))
 f335:=Tryz.func349.trans (congrArg some (by kernel_rfl))
 f336:=Tryz.func350.trans (congrArg some (by kernel_rfl))
 f344:=Tryz.func351.trans (congrArg some (by kernel_rfl))
 t0:=Tryz.underlying0
 a0:=Tryz.isAgg0
 z0:=Tryz.sizeOf0
 v0:=Tryz.zeroValue0
 t3:=Tryz.underlying3
 a3:=Tryz.isAgg3
 z3:=Tryz.sizeOf3
 v3:=Tryz.zeroValue3
 t4:=Tryz.underlying4
 a4:=Tryz.isAgg4
 z4:=Tryz.sizeOf4
 v4:=Tryz.zeroValue4
 t5:=Tryz.underlying5
 a5:=Tryz.isAgg5
 z5:=Tryz.sizeOf5
 v5:=Tryz.zeroValue5
 t9:=Tryz.underlying9
 a9:=Tryz.isAgg9
 z9:=Tryz.sizeOf9
 v9:=Tryz.zeroValue9
 t31:=Tryz.underlying278
 a31:=Tryz.isAgg278
 z31:=Tryz.sizeOf278
 v31:=Tryz.zeroValue278
 t46:=Tryz.underlying87
 a46:=Tryz.isAgg87
 z46:=Tryz.sizeOf87
 v46:=Tryz.zeroValue87
 t51:=Tryz.underlying312
 a51:=Tryz.isAgg312
 z51:=Tryz.sizeOf312
 v51:=Tryz.zeroValue312
 t53:=Tryz.underlying51
 a53:=Tryz.isAgg51
 z53:=Tryz.sizeOf51
 v53:=Tryz.zeroValue51
 t131:=Tryz.underlying357
 a131:=Tryz.isAgg357
 z131:=Tryz.sizeOf357
 v131:=Tryz.zeroValue357
 t182:=Tryz.underlying394
 a182:=Tryz.isAgg394
 z182:=Tryz.sizeOf394
 v182:=Tryz.zeroValue394
 t183:=Tryz.underlying395
 a183:=Tryz.isAgg395
 z183:=Tryz.sizeOf395
 v183:=Tryz.zeroValue395
 t218:=Tryz.underlying417
 a218:=Tryz.isAgg417
 z218:=Tryz.sizeOf417
 v218:=Tryz.zeroValue417
 t222:=Tryz.underlying219
 a222:=Tryz.isAgg219
 z222:=Tryz.sizeOf219
 v222:=Tryz.zeroValue219
 t228:=Tryz.underlying428
 a228:=Tryz.isAgg428
 z228:=Tryz.sizeOf428
 v228:=Tryz.zeroValue428
 t229:=Tryz.underlying200
 a229:=Tryz.isAgg200
 z229:=Tryz.sizeOf200
 v229:=Tryz.zeroValue200}
open Go.RowKit Go.Lib in
open Go.RowKit Go.Lib in
open Go.RowKit Go.Lib in
open Go.RowKit Go.Sort in
open Go.RowKit Go.Sort in
theorem l6 (p:Option Addr) (cap:Nat) (w:World) :
 Calls Tryz.prog 333 #[.slice p 0 cap] w λe w'=>e=.returned (.tuple #[])/\w'=w:=Any.sort_Strings_none w8 p cap w
end Go.Proofs
namespace Go.Y
open Go.Proofs Go.RowKit Go.SL
theorem tZ {name:ByteArray} (J:σ.down=false) (I:FK.gO σ.now name=none):dx G 328 [aX d,fm name] [aI d σ] λv m=>v=.tuple #[cx,eY 9]/\m=[aI d σ]:=by
 obtain⟨dur,now,pend,left,full,down⟩:=σ;simp only at J I;subst J;refine bA Tryz.func328 Z λE fr T=>aa ?_;refine dI .head λq=>bH ?_;refine aq (l':=pS d q ⟨dur,now,pend,left,full,false⟩ fr) aT ?_;refine dI de λM=>bH ?_;refine aq (l':=HP.pure (Names q.P M now)::cP fm q.mn (fO M)::blk d 131 (jW q ⟨dur,now,pend,left,full,false⟩)::cr q.md q.P dur::gB q.P::row 211 3 q.pv pend.length (kE pend)::fr) aT ?_;refine fg .head λK=>?_;have O:FK.gO M name=none:=by
  rcases K.get name with h|⟨b,s,_,h,_⟩
  · exact h.1
  · rw[h] at I;cases I
 refine sS<|sA Z<|sB Z<|sQ<|sS<|cG 5 Z Z<|aR Z Z Z Z<|sN<|aj Z<|ae<|sT<|sS ?_
 refine cG 1 Z Z<|aR Z Z Z Z<|sM Z<|bF (kf (m:=fO M) (a:=name) Z kW Z Z Z (by rw[mH,O];rfl)) (iQ .head)<|sM Z<|bT Z Z<|bT Z Z<|sA Z<|sB Z<|sQ<|bq Z<|sP (cD Z Z)<|sN ?_
 refine aM Z<|sS<|sP (ef Z Z Z)<|sA Z<|sB Z<|an<|aC<|ea [aI d ⟨dur,now,pend,left,full,false⟩] rfl Z Z ⟨rfl,rfl⟩ ?_
 refine Ent.trans ?_<|dw q ⟨dur,now,pend,left,full,false⟩
 refine Ent.trans (dM K) ?_;show Ent _ (_::cr q.md q.P dur::cr q.mn q.P now::gB q.P::_::fr);exact aJ
theorem tP (I:σ.down=false) (J:σ.now=[]):dx G 327 [aX d] [aI d σ] λv m=>v=.tuple #[cx,.nilIface]/\m=[aI d σ]:=by
 obtain⟨dur,now,pend,left,full,down⟩:=σ;simp only at I J;subst I;subst J;refine bA Tryz.func327 Z λE fr T=>aa ?_;refine dI .head λq=>bH ?_;refine aq (l':=pS d q ⟨dur,[],pend,left,full,false⟩ fr) aT ?_;refine dI de λM=>bH ?_;refine aq (l':=HP.pure (Names q.P M [])::cP fm q.mn (fO M)::blk d 131 (jW q ⟨dur,[],pend,left,full,false⟩)::cr q.md q.P dur::gB q.P::row 211 3 q.pv pend.length (kE pend)::fr) aT ?_;refine fg .head λK=>?_;have hM:M=[]:=by cases K;rfl
 subst hM;refine sS<|sA Z<|sB Z<|sQ<|sS<|cG 5 Z Z<|aR Z Z Z Z<|sN<|aj Z<|ae<|sT<|sS ?_
 refine sB Z<|sQ<|sS<|cG 1 Z Z<|aR Z Z Z Z<|sO (ox (b:=q.mn) (m:=fO []) Z Z Z .head λO=>(sN (ag ?_)))
 refine aO (X:=Nat) (λ_=>[(15,.pointer (some ⟨O,0,none⟩)),(4,cx),(0,aX d)]) (λ_=>ek fm O q.mn (fO []) (fO []) none::blk d 131 (jW q ⟨dur,[],pend,left,full,false⟩)::cr q.md q.P dur::gB q.P::row 211 3 q.pv pend.length (kE pend)::fr) (λ_=>True) (λ_=>0) 0 trivial bV aT ?_;intro k hk;refine sS ?_;refine sO<|lD Z Z .head (λ_=>?_) (λj q Y=>by simp at Y)
 refine bT Z Z<|sN<|sQ<|aj Z<|aL<|aA<|az<|ap<|sT<|bq Z ?_
 refine sO<|mz Z Z Z T (fM (φ:=λ_=>True) λ_ w _ _ _=>(l6 none 0 w).mono λ_ _ ⟨h1,h2⟩=>⟨h1,by rw[h2];exact Below.refl _ _⟩) (λ_ _=>trivial) ?_
 rintro v m ⟨rfl,rfl⟩;refine aZ<|sN<|bq Z<|sA Z<|sB Z<|an<|ea [aI d ⟨dur,[],pend,left,full,false⟩] rfl Z Z ⟨rfl,rfl⟩ ?_
 refine Ent.trans ?_<|dw q ⟨dur,[],pend,left,full,false⟩
 refine Ent.trans (Ent.ranged.trans (dM K)) ?_;show Ent _ (_::cr q.md q.P dur::cr q.mn q.P []::gB q.P::_::fr);exact aJ
end Go.Y
namespace FK
end FK
namespace Go.SL
open Go Go.RowKit
variable {l:List HP} {pos:String}
end Go.SL
namespace Go.Y
open Go.Proofs
open Go Go.RowKit Go.SL
abbrev EY (b c:Nat) (s:ByteArray) (I:Nat×Nat):HP:=ob b (.cells (bytesRow s c) 5 I)
theorem DP {s:ByteArray} {J:Nat×Nat}:Reads (EY b c s J) (some ⟨b,0,none⟩) s.data.toList where
 form _:=⟨b,0,rfl⟩
 cell w F hp b' o he j x hx:=by
  injection he with he;injection he with e1 e2;subst e1;subst e2;have I:s.data[j]?=some x:=by simpa using hx
  have K:j<s.data.size:=by
   obtain⟨h,_⟩:=Array.getElem?_eq_some_iff.1 I;exact h
  simp[World.cell?,hp.2,bytesRow,Array.getElem?_append,I];intro h;have:s.size=s.data.size:=rfl;omega
theorem GV (b:Nat) (x:Operand):Instr.fill (λi=>some (i*1,1)) (Array.map (λx=>(Value.pointer none).cells[x%(Value.pointer none).cells.size]!) (Array.range (1*1))) ((List.map (λx=>x.fst) [((0:Nat),x)]).zip [aX b])=some #[aX b]:=by
 have e1:Array.range (1*1)=#[0]:=rfl;rw[e1];simp[Instr.fill,Value.cells]
theorem tmRow {l:List FK.Tmr} {m:List HP} {t:FK.Tmr} (s:Sel (iA l) m r) (J:t∈l):∀w,Holds E w m->gV t.blk 0 (ir t.key) w:=λw hw j v I=>by
 refine pf s J ?_ w hw;rw[Nat.zero_add]
 match j,I with
 | 0,I|1,I|2,I=>exact I
abbrev allL (w mp I:Nat) (S:FK.WS) (sl:Nat->Value) (left:List FK.Tmr) (E:Option (FK.Pl×Value)) (bs:List Nat) (v:Value) (fr:List HP):List HP:=ek iz I mp (fP S.tms) (fP left) E::eg v bs::Df w S sl mp::jR sl S.bs::iA S.tms::fr
theorem Hn {S:FK.WS} {w:Nat} {cap:Array Value} (h:FK.Inv S []) (Fd:S.tms.length<=100000)
 (hF:eB Tryz.prog F=true)
 (K:∀done k a,done.length<=100000->Does Tryz.prog G F (#[]++[iz k,.int .u64 (a:Nat)].toArray++cap) [U done] λv m=>v=.tuple #[]/\m=[U (done++[(k,a)])]) :
 dx G 183 [aX w,.func (.func F) #[] cap] [cy w S,U []] λv m=>v=.tuple #[]/\m=[cy w S,U (S.tms.map FK.kd)]:=by
 refine bA Tryz.func183 Z λE fr hE=>aD (ew .head λsl mp=>(sS (sB Z (sQ (sS (sM Z (da Z (bn 717 Z (bF (au Z) (ah (iU _ _ _ _ _)) (sO (ox (b:=mp) (m:=fP S.tms) Z Z Z gt λO=>(sN (ag ?_)))))))))))));refine aO (X:=List FK.Tmr×Option (FK.Pl×Value)×List Nat×Value) (λx=>[(13,.pointer (some ⟨O,0,none⟩)),(4,x.2.2.2),(1,.func (.func F) #[] cap),(0,aX w)]) (λx=>allL w mp O S sl x.1 x.2.1 x.2.2.1 x.2.2.2 (U []::fr)) (λx=>(S.tms.map FK.Tmr.blk).Perm (x.2.2.1++x.1.map FK.Tmr.blk)) (λx=>x.1.length) (S.tms,none,[],cx) (List.Perm.refl _) bV (by show Ent _ (ek iz O mp (fP S.tms) (fP S.tms) none::row 338 1 cx 0 []::Df w S sl mp::jR sl S.bs::iA S.tms::U []::fr);exact(Ent.row0 (e:=338) (size:=1)).trans aJ) ?_;rintro⟨left,K3,bs,y⟩ I;replace I:(S.tms.map FK.Tmr.blk).Perm (bs++left.map FK.Tmr.blk):=I;have Y:=I.length_eq;rw[List.length_append,List.length_map,List.length_map] at Y;refine aq (l':=allL w mp O S sl left K3 bs y (U []::fr)) aT ?_;refine sQ ?_
 by_cases HL:left=[]
 ·
  subst HL;refine sG ?_;refine sO<|lD Z Z .head (λ_=>?_) (λj q J=>by simp[fP] at J)
  refine bT Z Z<|sN<|sQ<|aj Z<|aL<|aA<|az<|ap<|sT<|sQ ?_
  rw[List.map_nil,List.append_nil] at I;have K6:=I.length_eq;rw[List.length_map] at K6;refine aK bJ ?_;rintro A c rfl K4 K5 - - -
  refine sG<|sM Z ?_
  refine bW Z (tX h.seqs I.symm h.blks Fd) (bo bJ gt) ?_;refine aD<|sN<|bq Z<|sP (bp Z Z)<|sM Z<|sN<|ag ?_
  refine aO (X:=Nat) (λi=>[(26,aw i),(25,aw bs.length),(24,.slice A bs.length c),(1,.func (.func F) #[] cap)]) (λi=>row 338 1 (.slice A bs.length c) bs.length ((S.tms.map FK.Tmr.blk).map aX)::cy w S::U ((S.tms.map FK.kd).take i)::fr) (λi=>i<=bs.length) (λi=>bs.length-i) 0 (Nat.zero_le _) bV (Ent.cons (gfE1.trans (by show Ent (ek iz O mp (fP S.tms) (fP []) _::iA S.tms::Df w S sl mp::jR sl S.bs::U []::fr) (cy w S::U []::fr);exact(Ent.ranged.trans aJ).trans (di (S:=S) (sl:=sl) (mp:=mp))))) ?_;intro i hi;replace hi:i<=bs.length:=hi;refine sS<|sP (bz Z Z Z)<|sN<|sQ ?_
  refine aB Z (λIn=>?_) λIn=>?_
  ·
   have K7:i<S.tms.length:=am;obtain⟨t,ht⟩:∃t,S.tms[i]?=some t:=⟨S.tms[i],by simp[K7]⟩;have mt:=bY ht;obtain⟨g,rfl⟩:∃g,A=some ⟨g,0,none⟩:=by
    cases A with
    | none=>have:=(K4 rfl).1;omega
    | some ad=>obtain⟨g,rfl⟩:=K5 ad rfl;exact⟨g,rfl⟩
   refine ae<|sT<|sQ<|ag<|sS<|sP (aS (z:=1) Z Z Z Z am)<|bF (au (v:=aX t.blk) Z) (il .head (by simp[ht]))<|sB Z (ew bJ λsl mp=>(sZ Z (dT Z Z (cv Z Z (bC Z (cI Z) (bC Z (bl 0 Z) (bQ Z (bO (vs:=ir t.key) Z) (tmRow de mt) (cv Z Z (bC Z (cI Z) ?_)))))))))
   refine dj 7 Z (bl 3 Z)<|bQ Z (au (v:=.int .u64 t.due) Z) (pf de mt Z) ?_
   refine dA 9 Z<|jl Z Z hF Z hE (K ((S.tms.map FK.kd).take i) t.key t.due (by rw[List.length_take];omega)) gfE5 ?_
   rintro v m ⟨rfl,rfl⟩;refine aa<|dK [false,false] ak<|dE<|al<|sT<|sG<|sP (bc (r:=((i+1:Nat):Int)) Z Z (jf am))<|sM Z<|ao ?_
   have K8:(S.tms.map FK.kd).take (i+1)=(S.tms.map FK.kd).take i++[(t.key,t.due)]:=by rw[List.take_add_one,List.getElem?_map,ht];rfl
   refine aE (i+1) am am bV ?_;show Ent _ (_::_::U ((S.tms.map FK.kd).take (i+1))::fr);rw[K8];refine Ent.trans (Ent.trans (b:=Df w S sl mp::jR sl S.bs::iA S.tms::cP iz mp (fP S.tms)::row 338 1 (dp g bs.length c) bs.length ((S.tms.map FK.Tmr.blk).map aX)::U ((S.tms.map FK.kd).take i++[(t.key,t.due)])::fr) aJ di) aJ
  ·
   refine aL<|aA<|az<|ap ?_
   have wf:(S.tms.map FK.kd).take i=S.tms.map FK.kd:=List.take_of_length_le (by rw[List.length_map];omega);exact cW [_,_] rfl ⟨rfl,rfl⟩ (by rw[wf];exact Ent.drop)
 ·
  refine sG ?_;refine sO<|lD Z Z .head (λh=>absurd (List.map_eq_nil_iff.1 h) HL) λj q' J=>?_
  obtain⟨x,hx,rfl⟩:∃x,left[j]?=some x/\(x.key,aX x.blk)=q':=by
   unfold fP at J;rw[List.getElem?_map] at J;cases hl:left[j]? with
   | none=>rw[hl] at J;cases J
   | some x=>rw[hl] at J;injection J with J;exact⟨x,rfl,J⟩
  have K9:=(gfGet.1 hx).1;have Lb:=lN hx;have Lc:(S.tms.map FK.Tmr.blk).Perm ((bs++[x.blk])++(left.eraseIdx j).map FK.Tmr.blk):=by
   rw[List.append_assoc];exact I.trans<|List.Perm.append_left bs<|Lb.map FK.Tmr.blk
  have BT:(fP left).eraseIdx j=fP (left.eraseIdx j):=(iv _ _ _).symm;rw[BT];refine bT Z Z<|sN<|sQ<|aM Z<|ae<|sT<|ag<|sS<|bF (oI (p:=(x.key,aX x.blk)) Z) (m0 .head)<|bT Z Z<|sB Z<|sG<|sM Z<|sM Z ?_
  refine sO (dh (m:=1) (z:=.pointer none) (size:=1) (ps:=[(0,.tmp 19)]) (vs:=[aX x.blk]) (cs:=#[aX x.blk]) Z Z Z Z am am Z (GV _ _) λLe=>?_);refine dq rfl (bZ rfl rfl CU rfl am rfl rfl (HasVal.sel (v:=y)) (news:=[aX x.blk]) rfl (λh=>by cases h) (eO (λj u h=>by simpa using h)) er (by unfold maxLen;omega) am λT Ld=>?_);refine sA Z<|ao<|al<|aE (left.eraseIdx j,some (x.key,aX x.blk),bs++[x.blk],T) Lc (by show(left.eraseIdx j).length<left.length;rw[List.length_eraseIdx_of_lt K9];omega) bV ?_
  show Ent _ (ek iz O mp (fP S.tms) (fP (left.eraseIdx j)) (some (x.key,aX x.blk))::row 338 1 T (bs++[x.blk]).length ((bs++[x.blk]).map aX)::Df w S sl mp::jR sl S.bs::iA S.tms::U []::fr);rw[List.length_append,List.map_append];show Ent _ (ek iz O mp (fP S.tms) (fP (left.eraseIdx j)) (some (x.key,aX x.blk))::row 338 1 T (bs.length+1) (bs.map aX++[aX x.blk])::Df w S sl mp::jR sl S.bs::iA S.tms::U []::fr);exact aJ
end Go.Y
namespace Go.SL
open Go.RowKit
section
variable {l:List HP} {ops:Array Oper} {fuel:Nat} {listed:Array Bool} {S:List (Nat×(World->Prop))}
theorem eQ {ts':List (Nat×Value)} (e:ts=ts') (h:At E n D ts' l K):At E n D ts l K:=e▸h
theorem tv (j:Nat) {o:Oper} {t:Nat} {b:Bool} (hi:ops[j]?=some o) (K:o.guard=some (i,b)) (O:(ops[i]?).bind (·.dst)=some t) (T:look t ts=some (.bool b)) (I:Region.ready .any ops listed=[j])
 (h:At E n D ts l (λa w=>o.wp P a w (λY w'=>(∀p∈S,gh ops j p.1=false->p.2 w')/\fJ P ops (bK Q) fuel (listed.setIfInBounds j true) (S.filter λp=>!gh ops j p.1) Y w') (bK Q))) :
 At E n D ts l (eZ P ops (bK Q) (fuel+1) listed S):=λa w f hw _=>by
 refine⟨λh0=>(by rw[h0] at I;cases I),?_⟩;rw[I];intro k hk;simp at hk;subst hk;unfold wpOp;have J:Region.wanted o (yielded ops a.tmps)=true:=by simp[Region.wanted,K,yielded,O,f.get t _ T]
 simp only[hi,J,if_true];exact .inl (h a w f hw)
end
end Go.SL
namespace Go.Y
open Go.Proofs Go.RowKit Go.SL
abbrev dB (t:FR.Tmd):List Value:=[.int .u64 t.run,aw t.node,.int .u64 t.due]
abbrev zTmr:Value:=.agg #[.int .u64 0,aw 0,.int .u64 0]
theorem CT:fd Tryz.prog 99 zTmr 3 24:=by unfold fd;kernel_rfl
theorem xW (x:Operand) (vs:List Value) (h:vs.length=3):Instr.fill (λi=>some (i*3,3)) (Array.map (λx=>zTmr.cells[x%zTmr.cells.size]!) (Array.range (1*3))) ((List.map (λx=>x.fst) [((0:Nat),x)]).zip [.agg vs.toArray])=some vs.toArray:=by
 have e1:Array.range (1*3)=#[0,1,2]:=rfl;rw[e1]
 match vs,h with
 | [v0,v1,v2],_=>simp[Instr.fill,Value.cells]
theorem Em {f:α->List Value} (I:∀x,(f x).length=3) {l:List α} (hi:i<l.length) (s:α):kG (l.flatMap f) (0+i*3) (f s)=(l.set i s).flatMap f:=by
 refine pD I (by rw[gK,cM I,List.length_set]) λk x j u J K=>?_;have O:j<3:=by have:=(gfGet.1 K).1;rw[I] at this;exact this
 by_cases h:k=i
 · subst h
   rw[List.getElem?_set_self hi] at J;injection J with J;subst J;rw[show k*3+j=(0+k*3)+j by omega];exact m8 (f s) (l.flatMap f) (0+k*3) j u (by rw[cM I,I];omega) K
 · rw[List.getElem?_set_ne (Ne.symm h)] at J
   rw[jB _ _ _ _ (by rw[I];omega)];exact eJ I j J K
theorem tm_at (h:l[i]?=some x) (j:Nat) (u:Value) (I:(dB x)[j]?=some u):(l.flatMap dB)[0+i*3+j]?=some u:=by
 rw[Nat.zero_add];exact eJ (k:=3) (λ_=>rfl) j h I
theorem mu (hi:i<l.length) (x:FR.Tmd):kG (l.flatMap dB) (0+i*3) (dB x)=(l.set i x).flatMap dB:=Em (λ_=>rfl) hi x
theorem kJ:∀u∈dB x,u.oneCell'=true:=λv I=>by
 simp only[List.mem_cons,List.not_mem_nil,or_false] at I;rcases I with rfl|rfl|rfl<;>rfl
theorem r9 (a:Nat):dx G 223 [aQ a] [] λv m=>v=.bool false/\m=[]:=by
 refine bA Tryz.func223 Z λE fr I=>?_;exact aZ<|sS<|sB Z<|bq Z<|ch Z (dc (r:=false) Z Z cY)<|sB Z<|an<|ar [] rfl Z ⟨rfl,rfl⟩ aT
def Hy (a b:Nat):Int:=if a<b then -1 else if b<a then 1 else 0
theorem Im {a:Nat}:Hy a b<0<->a<b:=by unfold Hy;split<;>(try split)<;>omega
theorem wY (a b:Nat):dx G 192 [aQ a,aQ b] [] λv m=>v=aw (Hy a b)/\m=[]:=by
 refine bA Tryz.func192 Z λE fr K=>aZ<|sS<|sB Z<|bq Z ?_
 refine bW Z (r9 a) aT ?_;refine aZ<|sB Z<|bq Z ?_
 refine bW Z (r9 b) aT ?_;refine aZ<|sB Z<|sQ<|bq Z<|sN<|aj Z<|ae<|sT<|sQ<|bq Z<|sN<|aj Z ?_
 refine ae<|sT<|sQ<|bq Z<|ch Z (bz Z Z Z)<|sN ?_
 refine aB Z (λI=>?_) λI=>?_
 ·
  have h:a<b:=am;refine sS<|sB Z<|an<|aC ?_
  exact ar [] rfl Z ⟨by unfold Hy;rw[if_pos h],rfl⟩ aT
 ·
  refine ae<|sT<|sQ<|bq Z<|ch Z (dY Z Z Z)<|sN ?_
  refine aB Z (λJ=>?_) λJ=>?_
  ·
   have h:b<a:=am;refine sS<|sB Z<|an<|aC ?_
   exact ar [] rfl Z ⟨by unfold Hy;rw[if_neg am,if_pos h],rfl⟩ aT
  ·
   refine ae<|sT<|sS<|sB Z<|an ?_
   exact ar [] rfl Z ⟨by unfold Hy;rw[if_neg am,if_neg am],rfl⟩ aT
theorem EE (x y:FR.Tmd):dx G 191 [.agg (dB x).toArray,.agg (dB y).toArray] [] λv m=>v=aw (Hy x.due y.due)/\m=[]:=by
 refine bA Tryz.func191 Z λE fr I=>aZ<|sS<|sO (cR Z Z λJ=>(sO (cR Z Z λK=>(sB Z (sS (bn 2 Z (bF (au (v:=aQ x.due) Z) (ah Z) (bn 2 Z (bF (au (v:=aQ y.due) Z) (ah Z) ?_)))))))))
 refine bW Z (wY x.due y.due) aT ?_;exact aZ<|sB Z<|an<|ar [] rfl Z ⟨rfl,rfl⟩<|Ent.drop.trans Ent.drop
abbrev lC:Value:=.func (.func 191) #[] #[]
abbrev sV (g c n:Nat):Value:=dp g n c
abbrev gA (g c n:Nat) (l:List FR.Tmd):HP:=row 99 3 (sV g c n) n (l.flatMap dB)
theorem gX {g:Nat} {L:List HP} (s:Sel (gA g c n l) L r) (h:l[i]?=some x):∀w,Holds E w L->gV g (0+i*3) (dB x) w:=l7 s (tm_at h)
theorem po {g a:Nat} {P A M B Q:List FR.Tmd} (hP:P.length=a) (J:A.length=k) (K:B.length=k) (hM:a+k+M.length=b) (Y:(P++(A++(M++(B++Q)))).length=n) (hb:n<=100000) :
 dx G 298 [sV g c n,aw a,aw b,aw k,lC] [gA g c n (P++(A++(M++(B++Q))))] λv m=>v=.tuple #[]/\m=[gA g c n (P++(B++(M++(A++Q))))]:=by
 have hl:=Y;simp only[List.length_append] at hl;refine bA Tryz.func298 Z λE fr hE=>aa<|sS<|sB Z<|ag ?_
 refine aO (X:=Nat) (λi=>[(10,aw i),(0,sV g c n),(1,aw a),(2,aw b),(3,aw k)]) (λi=>gA g c n (FR.fZ P A M B Q i)::fr) (λi=>i<=k) (λi=>k-i) 0 (Nat.zero_le _) bV (by rw[FR.wl];exact aT) ?_;intro i hi;replace hi:i<=k:=hi;refine sQ<|bq Z<|ch Z (bz Z Z Z)<|sN ?_
 refine aB Z (λO=>?_) λO=>?_
 ·
  have I:i<k:=am;obtain⟨x,hx⟩:∃x,A[i]?=some x:=⟨A[i],by simp[J,I]⟩;obtain⟨y,hy⟩:∃y,B[i]?=some y:=⟨B[i],by simp[K,I]⟩;obtain⟨h1,h2,h3⟩:=FR.wm (P:=P) (M:=M) (Q:=Q) (p:=a+i) (q:=b+i) (J.trans K.symm) hx hy am am;have mt:=(FR.yx (P:=P) (M:=M) (Q:=Q) (i:=i) am (J.trans K.symm)).trans Y;refine ae<|sT<|sQ<|ag<|sZ Z<|dT Z Z<|cv Z Z<|cv Z Z<|bC Z (bc (r:=((a+i:Nat):Int)) Z Z dP)<|cv Z Z<|cv Z Z<|cv Z Z<|bC Z (bc (r:=((b+i:Nat):Int)) Z Z dP)<|cv Z Z<|cv Z Z<|cv Z Z<|bC Z (bc (r:=((b+i:Nat):Int)) Z Z dP)<|bC Z (aS (z:=3) Z Z Z Z am)<|bQ Z (bO (vs:=dB y) Z) (gX .head h2)<|cv Z Z ?_
  refine dj 15 Z (bd Z)<|cv Z Z<|bC Z (bc (r:=((a+i:Nat):Int)) Z Z dP)<|bC Z (aS (z:=3) Z Z Z Z am)<|bQ Z (bO (vs:=dB x) Z) (gX .head h1)<|bC Z (aS (z:=3) Z Z Z Z am) ?_
  refine dA 21 Z<|eX .head (k:=3) Z Z Z Z kJ am ?_
  rw[mu am];refine dK [false,false] ak<|dj 22 Z (aS (z:=3) Z Z Z Z am) ?_
  refine dA 23 Z<|eX .head (k:=3) Z Z Z Z kJ am ?_
  rw[mu (by rw[List.length_set];omega),h3];refine dK [] ak<|dE<|al<|sT<|sG<|ch Z (bc (r:=((i+1:Nat):Int)) Z Z dP)<|sA Z<|ao ?_
  exact aE (i+1) I am bV aT
 ·
  have T:i=k:=am;subst T;refine aL<|aA<|az<|ap ?_
  exact cW [_] rfl ⟨rfl,rfl⟩ (by rw[<-J,FR.yy (J.trans K.symm)];exact aT)
theorem yK {g a m:Nat} {fin:List FR.Tmd} (hr:FR.Rot l m (m-a) (b-m) fin) (h1:a<m) (h2:m<b) (hn:l.length=n) (Y:n<=100000) :
 dx G 275 [sV g c n,aw a,aw m,aw b,lC] [gA g c n l] λv k=>v=.tuple #[]/\k=[gA g c n fin]:=by
 have Fd:=hr.len;refine bA Tryz.func275 Z λE fr hE=>aa<|bq Z<|ch Z (cV (r:=((m-a:Nat):Int)) Z Z dP)<|sB Z<|bq Z<|ch Z (cV (r:=((b-m:Nat):Int)) Z Z dP)<|sB Z<|sQ<|ag ?_
 refine aO (X:=Nat×Nat×List FR.Tmd) (λx=>[(11,aw x.2.1),(10,aw x.1),(0,sV g c n),(2,aw m),(4,lC)]) (λx=>gA g c n x.2.2::fr) (λx=>0<x.1/\0<x.2.1/\x.1<=m/\x.2.2.length=n/\FR.Rot x.2.2 m x.1 x.2.1 fin) (λx=>x.1+x.2.1) (m-a,b-m,l) ⟨Nat.sub_pos_of_lt h1,Nat.sub_pos_of_lt h2,Nat.sub_le _ _,hn,hr⟩ bV aT ?_;rintro⟨i,j,W⟩ ⟨hi,hj,I,J,T⟩;replace hi:0<i:=hi;replace hj:0<j:=hj;replace I:i<=m:=I;replace J:W.length=n:=J;replace T:FR.Rot W m i j fin:=T;have In:=T.len;refine eQ (ts':=[(11,aw j),(10,aw i),(0,sV g c n),(2,aw m),(4,lC)]) Z<|aq (l':=gA g c n W::fr) aT ?_
 refine sQ<|bq Z<|ch Z (dc Z Z Z)<|sN ?_
 refine aB Z (λmt=>?_) λmt=>?_
 ·
  have K3:i≠j:=am;refine ae<|sT<|ag<|bq Z<|ch Z (dY Z Z Z)<|sN ?_
  refine aB Z (λwf=>?_) λwf=>?_
  ·
   have K:j<i:=am;obtain⟨P,A,M,B,Q,e1,e2,e3,e4,e5,e6⟩:=T.right K;subst e1;have O:(P++(B++(M++(A++Q)))).length=n:=by rw[<-J];simp only[List.length_append];omega
   refine bq Z<|sM Z<|ch Z (cV (r:=((P.length:Nat):Int)) Z Z dP)<|sM Z<|sM Z<|sM Z ?_
   refine bW Z (po (P:=P) (A:=A) (M:=M) (B:=B) (Q:=Q) Z e3 e4 am J Y) aT ?_;refine aa<|sN<|sG<|sM Z<|ch Z (cV (r:=((i-j:Nat):Int)) Z Z dP)<|sA Z<|ao<|al ?_
   exact aE (i-j,j,P++(B++(M++(A++Q)))) ⟨am,hj,am,O,e6⟩ (by show i-j+j<i+j;omega) bV aT
  ·
   have K:i<j:=am;obtain⟨P,A,M,B,Q,e1,e2,e3,e4,e5,e6⟩:=T.left K;subst e1;have O:(P++(B++(M++(A++Q)))).length=n:=by rw[<-J];simp only[List.length_append];omega
   refine bq Z<|sM Z<|ch Z (cV (r:=((P.length:Nat):Int)) Z Z dP)<|sM Z<|ch Z (bc (r:=((m+j:Nat):Int)) Z Z dP)<|ch Z (cV (r:=((m+j-i:Nat):Int)) Z Z dP)<|sM Z<|sM Z ?_
   refine bW Z (po (P:=P) (A:=A) (M:=M) (B:=B) (Q:=Q) Z e3 e4 am J Y) aT ?_;refine aa<|sN<|sG<|sM Z<|ch Z (cV (r:=((j-i:Nat):Int)) Z Z dP)<|sA Z<|ao<|al ?_
   exact aE (i,j-i,P++(B++(M++(A++Q)))) ⟨hi,by show 0<j-i;omega,I,O,e6⟩ (by show i+(j-i)<i+j;omega) bV aT
 ·
  have BT:i=j:=am;subst BT;obtain⟨P,A,B,Q,e1,e2,e3,e4,e5⟩:=T.same;subst e1;refine aL<|aA<|az<|ap<|sT<|sG<|sM Z<|sM Z<|ch Z (cV (r:=((P.length:Nat):Int)) Z Z dP)<|sM Z<|sM Z<|sM Z ?_
  refine bW Z (po (P:=P) (A:=A) (M:=[]) (B:=B) (Q:=Q) Z e3 e4 (by simp;omega) J Y) aT ?_;refine aa<|ao ?_
  exact cW [_] rfl ⟨rfl,rfl⟩ (by rw[e5];exact aT)
theorem Cm (i n:Nat) (h:i<=n) (J:n<=100000):((IntKind.u64.wrap ((i+n:Nat):Int))).fdiv (2 ^ min ((1:Int)).toNat IntKind.u64.bits)=(((i+n)/2:Nat):Int):=by
 rw[km];have E:((i+n:Nat):Int)%18446744073709551616=((i+n:Nat):Int):=am;have I:(2:Int) ^ min ((1:Int)).toNat IntKind.u64.bits=2:=rfl;rw[E,I,Int.fdiv_eq_ediv_of_nonneg _ am];omega
theorem nz (x y:FR.Tmd):Does Tryz.prog G 191 (#[]++[.agg (dB x).toArray,.agg (dB y).toArray].toArray++#[]) [] λv m=>v=aw (Hy x.due y.due)/\m=[]:=by
 have:=EE (G:=G) x y;simpa using this
theorem rr {a:Nat}:decide (Hy a b<0)=decide (a<b):=decide_eq_decide.2 Im
theorem qk {g a:Nat} {P Q:List FR.Tmd} (hP:P.length=a) (hX:a+X.length=b) (hn:(P++(X++Q)).length=n) (hb:n<=100000) (hs:X.Pairwise λx y=>x.seq<y.seq) :
 dx G 248 [sV g c n,aw a,aw b,lC] [gA g c n (P++(X++Q))] λv m=>v=.tuple #[]/\∃Y,FR.Srt X Y/\m=[gA g c n (P++(Y++Q))]:=by
 have hl:=hn;simp only[List.length_append] at hl;refine bA Tryz.func248 Z λE fr hE=>aa<|bq Z<|sP (bc (r:=((a+1:Nat):Int)) Z Z dP)<|sB Z<|ag ?_
 refine aO (X:=Nat×List FR.Tmd) (λx=>[(8,aw (a+x.1:Nat)),(0,sV g c n),(1,aw a),(2,aw b),(3,lC)]) (λx=>gA g c n x.2::fr) (λx=>(x.1<=X.length\/x.1=1)/\x.2.length=n/\FR.InsI P X Q x.1 x.2) (λx=>X.length-x.1) (1,P++(X++Q)) ⟨.inr Z,hn,FR.InsI.first P X Q⟩ bV aT ?_;rintro⟨k,W⟩ ⟨hk,I,hI⟩;replace hk:k<=X.length\/k=1:=hk;replace I:W.length=n:=I;replace hI:FR.InsI P X Q k W:=hI;refine eQ (ts':=[(8,aw (a+k:Nat)),(0,sV g c n),(1,aw a),(2,aw b),(3,lC)]) Z<|aq (l':=gA g c n W::fr) aT ?_
 refine sQ<|bq Z<|ch Z (bz Z Z Z)<|sN ?_
 refine aB Z (λmt=>?_) λmt=>?_
 ·
  have K:k<X.length:=am;obtain⟨x,T⟩:∃x,X[k]?=some x:=⟨X[k],by simp[K]⟩;refine ae<|sT<|sQ<|ag<|bq Z<|sB Z<|ag ?_
  refine aO (X:=Nat×List FR.Tmd) (λx=>[(9,aw x.1),(8,aw (a+k:Nat)),(0,sV g c n),(1,aw a),(2,aw b),(3,lC)]) (λx=>gA g c n x.2::fr) (λy=>y.2.length=n/\FR.InsJ P X Q k y.1 x y.2) (λx=>x.1) (a+k,W) ⟨I,hP▸hI.start T⟩ bV aT ?_;rintro⟨j,W⟩ ⟨I,O⟩;replace I:W.length=n:=I;replace O:FR.InsJ P X Q k j x W:=O;refine eQ (ts':=[(9,aw j),(8,aw (a+k:Nat)),(0,sV g c n),(1,aw a),(2,aw b),(3,lC)]) Z<|aq (l':=gA g c n W::fr) aT ?_
  obtain⟨g1,g2⟩:=O.at
  have wf:=(O.len T).2;refine sQ<|sQ ?_
  by_cases hA:a<j
  ·
   obtain⟨z,g3,g4,g5⟩:=g2 am;refine sZ Z<|dT Z Z<|cv Z Z<|bC Z (ig Z Z am)<|cv Z Z<|dv 4 Z (bd Z)<|dv 5 Z (bd Z)<|dv 6 Z (bd Z)<|dv 7 Z (aS (z:=3) Z Z Z Z am)<|mg 8 Z (bO (vs:=dB x) Z) (gX .head g1)<|dv 9 Z (bd Z)<|dv 10 Z (bd Z)<|dv 11 Z (cV (r:=((j-1:Nat):Int)) Z Z dP)<|dv 12 Z (aS (z:=3) Z Z Z Z am)<|mg 13 Z (bO (vs:=dB z) Z) (gX .head g3) ?_
   refine tv 14 Z Z Z Z eA<|jl Z Z Z Z hE (nz x z) aT ?_
   rintro v m ⟨rfl,rfl⟩;refine aZ<|dK [false,false] ak<|dv 15 Z (bz (r:=decide (x.due<z.due)) Z Z rr)<|bC Z (aF Z Z Z)<|dE<|sT ?_
   refine aB Z (λJ=>?_) λJ=>?_
   ·
    refine ae<|sT<|sQ<|ag<|sZ Z<|dT Z Z<|cv Z Z<|cv Z Z<|cv Z Z<|bC Z (cV (r:=((j-1:Nat):Int)) Z Z dP)<|cv Z Z<|cv Z Z<|bC Z (cV (r:=((j-1:Nat):Int)) Z Z dP)<|bC Z (aS (z:=3) Z Z Z Z am)<|bQ Z (bO (vs:=dB z) Z) (gX .head g3)<|cv Z Z<|cv Z Z<|bC Z (aS (z:=3) Z Z Z Z am)<|bQ Z (bO (vs:=dB x) Z) (gX .head g1)<|bC Z (aS (z:=3) Z Z Z Z am) ?_
    refine dA 15 Z<|eX .head (k:=3) Z Z Z Z kJ am ?_
    rw[mu am];refine dK [false,false] ak<|dj 16 Z (aS (z:=3) Z Z Z Z am) ?_
    refine dA 17 Z<|eX .head (k:=3) Z Z Z Z kJ am ?_
    rw[mu (by rw[List.length_set];omega)];refine dK [] ak<|dE<|al<|sT<|sG<|ch Z (cV (r:=((j-1:Nat):Int)) Z Z dP)<|sA Z<|ao ?_
    exact aE (j-1,(W.set j z).set (j-1) x) ⟨by simp[I],g5 J⟩ (by show j-1<j;omega) bV aT
   ·
    refine aL<|aA<|az<|ap<|al<|sT<|sG<|ch Z (bc (r:=((a+(k+1):Nat):Int)) Z Z dP)<|sA Z<|ao ?_
    exact aE (k+1,W) ⟨.inl K,I,O.fin T hs λ_ z' e=>by rw[g3] at e;injection e with e;subst e;exact J⟩ (by show X.length-(k+1)<X.length-k;omega) bV aT
  ·
   refine sZ Z<|dT Z Z<|cv Z Z<|bC Z (lF Z Z am)<|cv Z Z<|dy 4 Z Z<|dy 5 Z Z<|dy 6 Z Z<|dy 7 Z Z<|dy 8 Z Z<|dy 9 Z Z<|dy 10 Z Z<|dy 11 Z Z<|dy 12 Z Z<|dy 13 Z Z<|dy 14 Z Z<|dy 15 Z Z<|bC Z (aF Z Z Z)<|dE<|sT ?_
   refine aj Z<|aL<|aA<|az<|ap<|al<|sT<|sG<|ch Z (bc (r:=((a+(k+1):Nat):Int)) Z Z dP)<|sA Z<|ao ?_
   exact aE (k+1,W) ⟨.inl K,I,O.fin T hs λh=>by omega⟩ (by show X.length-(k+1)<X.length-k;omega) bV aT
 ·
  obtain⟨Y,e,s⟩:=hI.fin am;refine aL<|aA<|az<|ap ?_
  exact cW [_] rfl ⟨rfl,Y,s,rfl⟩ (by rw[e];exact aT)
def E7 (G:Env->Prop) (N:Nat):Prop:=∀{g c n a m b:Nat} {P L R Q l:List FR.Tmd},b-a<=N->FR.Mrg P L R Q l a m b->a<m->m<b->l.length=n->n<=100000->
 dx G 249 [sV g c n,aw a,aw m,aw b,lC] [gA g c n l] λv k=>v=.tuple #[]/\∃Y,FR.Srt (L++R) Y/\k=[gA g c n (P++(Y++Q))]
theorem KP {P A Q:List FR.Tmd} {y:FR.Tmd} {p:Nat} (E:A[j]?=some y) (O:P.length+j=p) :
 (P++(A.take j++x::(A.drop j++Q)))[p]?=some x/\(P++(A.take j++x::(A.drop j++Q)))[p+1]?=some y/\((P++(A.take j++x::(A.drop j++Q))).set p y).set (p+1) x=P++(A.take (j+1)++x::(A.drop (j+1)++Q)):=by
 obtain⟨I,e1⟩:=gfGet.1 E;have J:A.drop j=y::A.drop (j+1):=by rw[List.drop_eq_getElem_cons I,e1]
 have K:A.take (j+1)=A.take j++[y]:=by rw[List.take_add_one,E];rfl
 have k:=FR.vD (U:=P++A.take j) (V:=[]) (W:=A.drop (j+1)++Q) (x:=x) (y:=y) (p:=p) (q:=p+1) (by rw[List.length_append,List.length_take];omega) rfl;rw[J,K];simpa using k
theorem Ho {P B Q:List FR.Tmd} {y:FR.Tmd} {p q:Nat} (E:B[j]?=some y) (T:P.length+j=p) (I:q=p+1) :
 (P++(B.take (j+1)++x::(B.drop (j+1)++Q)))[p]?=some y/\(P++(B.take (j+1)++x::(B.drop (j+1)++Q)))[q]?=some x/\((P++(B.take (j+1)++x::(B.drop (j+1)++Q))).set q y).set p x=P++(B.take j++x::(B.drop j++Q)):=by
 subst I;obtain⟨J,e1⟩:=gfGet.1 E;have K:B.drop j=y::B.drop (j+1):=by rw[List.drop_eq_getElem_cons J,e1]
 have O:B.take (j+1)=B.take j++[y]:=by rw[List.take_add_one,E];rfl
 have k:=FR.vD (U:=P++B.take j) (V:=[]) (W:=B.drop (j+1)++Q) (x:=y) (y:=x) (p:=p) (q:=p+1) (by rw[List.length_append,List.length_take];omega) rfl;rw[K,O,List.set_comm _ _ am];simpa using k
theorem Fp (h:l.length=1):∃x,l=[x]:=by
 match l,h with
 | [x],_=>exact⟨x,rfl⟩
abbrev qD (g c n a m b:Nat):List (Nat×Value):=[(0,sV g c n),(1,aw a),(2,aw m),(3,aw b),(4,lC)]
theorem FN {N:Nat} (ih:E7 G N):E7 G (N+1):=by
 intro g c n a m b P U V Q l hN I LC LD hn hb;have LE:=I.len;have Ls:=I.hP;have Lt:=I.hL;have LF:=I.hR;refine bA Tryz.func249 Z λE fr hE=>aa<|sQ<|bq Z<|ch Z (cV (r:=((m-a:Nat):Int)) Z Z dP)<|sP (aY Z Z Z)<|sN ?_
 refine aB Z (λLm=>?_) λLm=>?_
 ·
  obtain⟨x,rfl⟩:=Fp (l:=U) am;obtain rfl:m=a+1:=am;have hx:l[a]?=some x:=by obtain⟨y,e1,e2⟩:=I.left (cu a) am;simp at e2;subst e2;exact e1
  refine bq Z<|sB Z<|bq Z<|sB Z<|sQ<|ag ?_
  refine aO (X:=Nat×Nat) (λx=>(11,aw x.2)::(10,aw x.1)::qD g c n a (a+1) b) (λ_=>gA g c n l::fr) (λy=>FR.Put1 P V Q l x a b y.1 y.2) (λx=>x.2-x.1) (a+1,b) (FR.Put1.init am) bV aT ?_;rintro⟨i,j⟩ hI;replace hI:FR.Put1 P V Q l x a b i j:=hI;have i1:=hI.i1;have i2:=hI.i2;have i3:=hI.i3;refine eQ (ts':=(11,aw j)::(10,aw i)::qD g c n a (a+1) b) Z<|sQ<|bq Z<|ch Z (bz Z Z Z)<|sN ?_
  refine aB Z (λLn=>?_) λLn=>?_
  ·
   have Lu:i<j:=am;obtain⟨h,hh⟩:∃h,h=(i+j)/2:=⟨_,rfl⟩;obtain⟨y,J,_⟩:=I.right (i:=h) am am;refine ae<|sT<|ag<|bq Z<|ch Z (bc (r:=((i+j:Nat):Int)) Z Z dP)<|sP (dN Z Z Z Z) ?_
   refine sP (iS (r:=(h:Int)) Z Z am (by rw[hh];exact Cm i j am am)) ?_;refine sP (dN (r:=(h:Int)) Z Z Z (jf am))<|sB Z<|sQ<|sZ Z<|dT Z Z<|cv Z Z<|cv Z Z<|bC Z (aS (z:=3) Z Z Z Z am)<|bQ Z (bO (vs:=dB y) Z) (gX .head J)<|cv Z Z<|cv Z Z<|bC Z (aS (z:=3) Z Z Z Z am)<|bQ Z (bO (vs:=dB x) Z) (gX .head hx) ?_
   refine dA 9 Z<|jl Z Z Z Z hE (nz y x) aT ?_
   rintro v m ⟨rfl,rfl⟩;refine aZ<|dK [false,false] ak<|dj 10 Z (bz (r:=decide (y.due<x.due)) Z Z rr)<|dE<|sT ?_
   refine aB Z (λLd=>?_) λLd=>?_
   ·
    refine sG<|ch Z (bc (r:=((h+1:Nat):Int)) Z Z dP)<|sA Z<|ao<|al ?_
    exact aE (h+1,j) (hI.up I am am J Ld) (by show j-(h+1)<j-i;omega) bV aT
   ·
    refine sG<|sM Z<|sA Z<|ao<|al ?_
    exact aE (i,h) (hI.down I am am J Ld) (by show h-i<j-i;omega) bV aT
  ·
   obtain rfl:i=j:=am;obtain⟨A,B,rfl,hA,hS⟩:=hI.fin I;obtain rfl:l=P++(x::(A++(B++Q))):=by rw[I.is];simp
   refine aL<|aA<|az<|ap<|sT<|sQ<|bq Z<|sB Z<|ag ?_
   refine aO (X:=Nat) (λk=>(13,aw (a+k:Nat))::(10,aw i)::qD g c n a (a+1) b) (λk=>gA g c n (P++(A.take k++x::(A.drop k++(B++Q))))::fr) (λk=>k<=A.length) (λk=>A.length-k) 0 (Nat.zero_le _) bV aT ?_;intro k hk;replace hk:k<=A.length:=hk;refine sQ<|bq Z<|ch Z (cV (r:=((i-1:Nat):Int)) Z Z dP)<|sP (bz Z Z Z)<|sN ?_
   refine aB Z (λLo=>?_) λLo=>?_
   ·
    have K4:k<A.length:=am;obtain⟨y,J⟩:∃y,A[k]?=some y:=⟨A[k],by simp[K4]⟩;obtain⟨k1,k2,k3⟩:=KP (P:=P) (Q:=B++Q) (x:=x) (p:=a+k) J am;have Lv:(P++(A.take k++x::(A.drop k++(B++Q)))).length=n:=by rw[<-hn];simp;omega
    refine ae<|sT<|sQ<|ag<|sZ Z<|dT Z Z<|cv Z Z<|cv Z Z<|cv Z Z<|bC Z (bc (r:=((a+k+1:Nat):Int)) Z Z dP)<|cv Z Z<|cv Z Z<|bC Z (bc (r:=((a+k+1:Nat):Int)) Z Z dP)<|bC Z (aS (z:=3) Z Z Z Z am)<|bQ Z (bO (vs:=dB y) Z) (gX .head k2)<|cv Z Z<|cv Z Z<|bC Z (aS (z:=3) Z Z Z Z am)<|bQ Z (bO (vs:=dB x) Z) (gX .head k1)<|bC Z (aS (z:=3) Z Z Z Z am) ?_
    refine dA 15 Z<|eX .head (k:=3) Z Z Z Z kJ am ?_
    rw[mu am];refine dK [false,false] ak<|dj 16 Z (aS (z:=3) Z Z Z Z am) ?_
    refine dA 17 Z<|eX .head (k:=3) Z Z Z Z kJ am ?_
    rw[mu (by rw[List.length_set];omega),k3];refine dK [] ak<|dE<|al<|sT<|sG<|ch Z (bc (r:=((a+(k+1):Nat):Int)) Z Z dP)<|sA Z<|ao ?_
    exact aE (k+1) K4 am bV aT
   ·
    obtain rfl:k=A.length:=am;refine aL<|aA<|az<|ap<|sT<|an<|aC ?_
    exact cW [_] rfl ⟨rfl,_,hS,rfl⟩ (by rw[List.take_length,List.drop_length];simp only[List.nil_append,List.append_assoc,List.cons_append];exact aT)
 ·
  refine ae<|sT<|sQ<|bq Z<|ch Z (cV (r:=((b-m:Nat):Int)) Z Z dP)<|sP (aY Z Z Z)<|sN ?_
  refine aB Z (λLp=>?_) λLp=>?_
  ·
   obtain⟨x,rfl⟩:=Fp (l:=V) am;obtain rfl:b=m+1:=am;have hx:l[m]?=some x:=by obtain⟨y,e1,e2⟩:=I.right (cu m) am;simp at e2;subst e2;exact e1
   refine bq Z<|sB Z<|bq Z<|sB Z<|sQ<|ag ?_
   refine aO (X:=Nat×Nat) (λx=>(15,aw x.2)::(14,aw x.1)::qD g c n a m (m+1)) (λ_=>gA g c n l::fr) (λy=>FR.Put2 P U Q l x a m y.1 y.2) (λx=>x.2-x.1) (a,m) (FR.Put2.init am) bV aT ?_;rintro⟨i,j⟩ hI;replace hI:FR.Put2 P U Q l x a m i j:=hI;have i1:=hI.i1;have i2:=hI.i2;have i3:=hI.i3;refine eQ (ts':=(15,aw j)::(14,aw i)::qD g c n a m (m+1)) Z<|sQ<|bq Z<|ch Z (bz Z Z Z)<|sN ?_
   refine aB Z (λLq=>?_) λLq=>?_
   ·
    have Lu:i<j:=am;obtain⟨h,hh⟩:∃h,h=(i+j)/2:=⟨_,rfl⟩;obtain⟨y,J,_⟩:=I.left (i:=h) am am;refine ae<|sT<|ag<|bq Z<|ch Z (bc (r:=((i+j:Nat):Int)) Z Z dP)<|sP (dN Z Z Z Z) ?_
    refine sP (iS (r:=(h:Int)) Z Z am (by rw[hh];exact Cm i j am am)) ?_;refine sP (dN (r:=(h:Int)) Z Z Z (jf am))<|sB Z<|sQ<|sZ Z<|dT Z Z<|cv Z Z<|cv Z Z<|bC Z (aS (z:=3) Z Z Z Z am)<|bQ Z (bO (vs:=dB x) Z) (gX .head hx)<|cv Z Z<|cv Z Z<|bC Z (aS (z:=3) Z Z Z Z am)<|bQ Z (bO (vs:=dB y) Z) (gX .head J) ?_
    refine dA 9 Z<|jl Z Z Z Z hE (nz x y) aT ?_
    rintro v m ⟨rfl,rfl⟩;refine aZ<|dK [false,false] ak<|dj 10 Z (bz (r:=decide (x.due<y.due)) Z Z rr)<|bC Z (cD (r:=decide (¬x.due<y.due)) Z (decide_not).symm)<|dE<|sT ?_
    refine aB Z (λwf=>?_) λwf=>?_
    ·
     refine sG<|ch Z (bc (r:=((h+1:Nat):Int)) Z Z dP)<|sA Z<|ao<|al ?_
     exact aE (h+1,j) (hI.up I am am J wf) (by show j-(h+1)<j-i;omega) bV aT
    ·
     refine sG<|sM Z<|sA Z<|ao<|al ?_
     exact aE (i,h) (hI.down I am am J (Decidable.not_not.1 wf)) (by show h-i<j-i;omega) bV aT
   ·
    obtain rfl:i=j:=am;obtain⟨A,B,rfl,hA,hS⟩:=hI.fin I;rw[List.length_append] at Lt;obtain rfl:l=(P++A)++(B++x::Q):=by rw[I.is];simp
    refine aL<|aA<|az<|ap<|sT<|sQ<|bq Z<|sB Z<|ag ?_
    refine aO (X:=Nat) (λk=>(17,aw (i+k:Nat))::(14,aw i)::qD g c n a m (m+1)) (λk=>gA g c n ((P++A)++(B.take k++x::(B.drop k++Q)))::fr) (λk=>k<=B.length) (λk=>k) B.length (cu _) ⟨by rw[show i+B.length=m by omega];rfl,rfl,rfl,rfl,rfl,rfl,rfl,trivial⟩ (by rw[List.take_length,List.drop_length];exact aT) ?_;intro k hk;replace hk:k<=B.length:=hk;refine sQ<|bq Z<|ch Z (dY Z Z Z)<|sN ?_
    refine aB Z (λLh=>?_) λLh=>?_
    ·
     obtain⟨k,rfl⟩:∃k',k=k'+1:=⟨k-1,am⟩;have K4:k<B.length:=am;obtain⟨y,J⟩:∃y,B[k]?=some y:=⟨B[k],by simp[K4]⟩;obtain⟨k1,k2,k3⟩:=Ho (P:=P++A) (Q:=Q) (x:=x) (p:=i+k) (q:=i+(k+1)) J (by simp;omega) rfl;have Lv:((P++A)++(B.take (k+1)++x::(B.drop (k+1)++Q))).length=n:=by rw[<-hn];simp;omega
     refine ae<|sT<|sQ<|ag<|sZ Z<|dT Z Z<|cv Z Z<|cv Z Z<|cv Z Z<|bC Z (cV (r:=((i+k:Nat):Int)) Z Z dP)<|cv Z Z<|cv Z Z<|bC Z (cV (r:=((i+k:Nat):Int)) Z Z dP)<|bC Z (aS (z:=3) Z Z Z Z am)<|bQ Z (bO (vs:=dB y) Z) (gX .head k1)<|cv Z Z<|cv Z Z<|bC Z (aS (z:=3) Z Z Z Z am)<|bQ Z (bO (vs:=dB x) Z) (gX .head k2)<|bC Z (aS (z:=3) Z Z Z Z am) ?_
     refine dA 15 Z<|eX .head (k:=3) Z Z Z Z kJ am ?_
     rw[mu am];refine dK [false,false] ak<|dj 16 Z (aS (z:=3) Z Z Z Z am) ?_
     refine dA 17 Z<|eX .head (k:=3) Z Z Z Z kJ am ?_
     rw[mu (by rw[List.length_set];omega),k3];refine dK [] ak<|dE<|al<|sT<|sG<|ch Z (cV (r:=((i+k:Nat):Int)) Z Z dP)<|sA Z<|ao ?_
     exact aE k am am bV aT
    ·
     obtain rfl:k=0:=am;refine aL<|aA<|az<|ap<|sT<|an<|aC ?_
     exact cW [_] rfl ⟨rfl,_,hS,rfl⟩ (by simp only[List.take_zero,List.drop_zero,List.nil_append,List.append_assoc,List.cons_append];exact aT)
  ·
   refine ae<|sT<|sQ ?_
   obtain⟨kj,Ll⟩:∃kj,kj=(a+b)/2:=⟨_,rfl⟩;refine sG<|sM Z<|ch Z (bc (r:=((a+b:Nat):Int)) Z Z dP)<|sP (dN Z Z Z Z) ?_
   refine sP (iS (r:=(kj:Int)) Z Z am (by rw[Ll];exact Cm a b am am)) ?_;refine sP (dN (r:=(kj:Int)) Z Z Z (jf am))<|sB Z<|bq Z<|ch Z (bc (r:=((kj+m:Nat):Int)) Z Z dP)<|sB Z<|sS<|sA Z<|sB Z ?_
   refine sQ<|cw (X:=Nat×Nat) (λx=>(21,aw x.2)::(20,aw x.1)::(19,aw (kj+m:Nat))::(18,aw kj)::qD g c n a m b) (λ_=>gA g c n l::fr) (λx=>FR.Cut l a m b (kj+m) x.1 x.2) ?_ ?_
   ·
    refine bq Z<|ch Z (dY Z Z Z)<|sN ?_
    refine aB Z (λLi=>?_) λLi=>?_
    ·
     refine bq Z<|ch Z (cV (r:=((kj+m-b:Nat):Int)) Z Z dP)<|sB Z<|sG<|sM Z<|sA Z<|ao ?_
     exact aW (kj+m-b,kj) (FR.Cut.init am am am am am (.inr am) (.inr am)) bV aT
    ·
     refine bq Z<|sB Z<|sG<|sM Z<|sA Z<|ao ?_
     exact aW (a,m) (FR.Cut.init am am am am am (.inl Z) (.inl Z)) bV aT
   rintro⟨s0,r0⟩ Le;replace Le:FR.Cut l a m b (kj+m) s0 r0:=Le;refine eQ (ts':=(21,aw r0)::(20,aw s0)::(19,aw (kj+m:Nat))::(18,aw kj)::qD g c n a m b) Z<|bq Z<|sP (cV (r:=((kj+m-1:Nat):Int)) Z Z dP)<|sB Z<|sQ<|ag ?_
   refine aO (X:=Nat×Nat) (λx=>(22,aw (kj+m-1:Nat))::(21,aw x.2)::(20,aw x.1)::(19,aw (kj+m:Nat))::(18,aw kj)::qD g c n a m b) (λ_=>gA g c n l::fr) (λx=>FR.Cut l a m b (kj+m) x.1 x.2) (λx=>x.2-x.1) (s0,r0) Le bV aT ?_;rintro⟨s,r⟩ hC;replace hC:FR.Cut l a m b (kj+m) s r:=hC;refine eQ (ts':=(22,aw (kj+m-1:Nat))::(21,aw r)::(20,aw s)::(19,aw (kj+m:Nat))::(18,aw kj)::qD g c n a m b) Z ?_;have s1:=hC.s1;have s2:=hC.s2;have s3:=hC.s3;have s4:=hC.s4;have s5:=hC.s5;refine sQ<|bq Z<|ch Z (bz Z Z Z)<|sN ?_
   refine aB Z (λLj=>?_) λLj=>?_
   ·
    have LG:s<r:=am;obtain⟨h,hh⟩:∃h,h=(s+r)/2:=⟨_,rfl⟩;obtain⟨x,y,hx,J,_,_⟩:=hC.pair I (h:=h) am am;refine ae<|sT<|ag<|bq Z<|ch Z (bc (r:=((s+r:Nat):Int)) Z Z dP)<|sP (dN Z Z Z Z) ?_
    refine sP (iS (r:=(h:Int)) Z Z am (by rw[hh];exact Cm s r am am)) ?_;refine sP (dN (r:=(h:Int)) Z Z Z (jf am))<|sB Z<|sQ<|sZ Z<|dT Z Z<|cv Z Z<|cv Z Z<|cv Z Z<|bC Z (cV (r:=((kj+m-1-h:Nat):Int)) Z Z dP)<|bC Z (aS (z:=3) Z Z Z Z am)<|bQ Z (bO (vs:=dB y) Z) (gX .head J)<|cv Z Z<|cv Z Z<|bC Z (aS (z:=3) Z Z Z Z am)<|bQ Z (bO (vs:=dB x) Z) (gX .head hx) ?_
    refine dA 11 Z<|jl Z Z Z Z hE (nz y x) aT ?_
    rintro v m ⟨rfl,rfl⟩;refine aZ<|dK [false,false] ak<|dj 12 Z (bz (r:=decide (y.due<x.due)) Z Z rr)<|bC Z (cD (r:=decide (¬y.due<x.due)) Z (decide_not).symm)<|dE<|sT ?_
    refine aB Z (λBT=>?_) λBT=>?_
    ·
     refine sG<|ch Z (bc (r:=((h+1:Nat):Int)) Z Z dP)<|sA Z<|ao<|al ?_
     exact aE (h+1,r) (hC.up I am am hx J BT) (by show r-(h+1)<r-s;omega) bV aT
    ·
     refine sG<|sM Z<|sA Z<|ao<|al ?_
     exact aE (s,h) (hC.down I am am hx J (Decidable.not_not.1 BT)) (by show h-s<r-s;omega) bV aT
   ·
    obtain rfl:s=r:=am;obtain⟨e,he⟩:∃e,e=kj+m-s:=⟨_,rfl⟩;obtain⟨L1,L2,R1,R2,hH⟩:=hC.fin I;rw[<-he] at hH;obtain⟨eL,eR,l1,l2,l3,l4,hJ⟩:=hH;have el:l=P++(L1++(L2++(R1++(R2++Q)))):=by rw[I.is,eL,eR];simp
    have LH:a+L1.length+R1.length=kj:=am;have sL:=I.sL;have sR:=I.sR;have bf:=I.bf;rw[eL,List.pairwise_append] at sL;rw[eR,List.pairwise_append] at sR;obtain⟨l',mt⟩:∃l',l'=P++(L1++(R1++(L2++(R2++Q)))):=⟨_,rfl⟩;have Lc:l'.length=n:=by rw[<-hn,el,mt];simp only[List.length_append];omega
    have M1:FR.Mrg P L1 R1 (L2++(R2++Q)) l' a s kj:=⟨mt,Ls,l1,am,sL.1,sR.1,λx hx y J=>bf x (by rw[eL];exact List.mem_append_left _ hx) y (by rw[eR];exact List.mem_append_left _ J)⟩;refine aL<|aA<|az<|ap<|sT<|bq Z<|ch Z (cV (r:=(e:Int)) Z Z dP)<|sB Z ?_
    refine sQ<|cw (X:=Unit) (λ_=>(24,aw e)::(20,aw s)::(18,aw kj)::qD g c n a m b) (λ_=>gA g c n l'::fr) (λ_=>True) ?_ ?_
    ·
     refine bq Z<|sM Z (ck Z (bz Z Z Z) (λ_ _=>trivial) λFd K5=>(sM Z ?_))
     refine bN Fd (by rfl) ?_;refine cB Z Z (λ_=>rfl) (bd Z) (λ_ _=>trivial) ?_;refine bN Fd (by rfl) ?_;refine cB Z Z (λ_=>rfl) (bd Z) (λ_ _=>trivial) ?_;refine bN Fd (by rfl) ?_;refine cB Z Z (λ_=>rfl) (bz Z Z Z) (λ_ _=>trivial) ?_;refine ck Z (dJ Z Z Z) (λ_ _=>trivial) λLz K6=>sN ?_;refine ce Z (λK=>?_) λK=>?_
     ·
      rw[K6,K5] at K;have h1:s<m/\m<e:=by simpa using K
      refine sG<|sM Z<|sM Z<|sM Z<|sM Z<|sM Z ?_
      refine bW Z (yK (a:=s) (m:=m) (b:=e) (fin:=l') ⟨P++L1,L2,R1,R2++Q,by rw[el];simp,by simp;omega,am,am,by rw[mt];simp⟩ h1.1 h1.2 hn hb) aT ?_;exact aa<|ao<|aW () trivial bV aT
     ·
      rw[K6,K5] at K;have Lw:l=l':=by
       have h1:¬(s<m/\m<e):=by simpa using K
       rw[el,mt];rcases Nat.lt_or_ge s m with h|h
       · obtain rfl:R1=[]:=List.eq_nil_of_length_eq_zero am
         simp
       · obtain rfl:L2=[]:=List.eq_nil_of_length_eq_zero am
         simp
      refine ae ?_;exact aW () trivial bV (by rw[Lw];exact aT)
    intro _ _;refine sQ<|cw (X:=List FR.Tmd) (λ_=>(24,aw e)::(20,aw s)::(18,aw kj)::qD g c n a m b) (λY=>gA g c n (P++(Y++(L2++(R2++Q))))::fr) (λY=>FR.Srt (L1++R1) Y) ?_ ?_
    ·
     refine bq Z<|sM Z (ck Z (bz Z Z Z) (λ_ _=>trivial) λIn K7=>(sM Z ?_))
     refine bN In (by rfl) ?_;refine cB Z Z (λ_=>rfl) (bd Z) (λ_ _=>trivial) ?_;refine bN In (by rfl) ?_;refine cB Z Z (λ_=>rfl) (bd Z) (λ_ _=>trivial) ?_;refine bN In (by rfl) ?_;refine cB Z Z (λ_=>rfl) (bz Z Z Z) (λ_ _=>trivial) ?_;refine ck Z (dJ Z Z Z) (λ_ _=>trivial) λLA K8=>sN ?_;refine ce Z (λO=>?_) λO=>?_
     ·
      rw[K8,K7] at O;have h1:a<s/\s<kj:=by simpa using O
      refine sG<|sM Z<|sM Z<|sM Z<|sM Z<|sM Z ?_
      refine bU Z (ih am M1 h1.1 h1.2 Lc hb) aT ?_;rintro v m ⟨rfl,Y,hY,rfl⟩;exact aa<|ao<|aW Y hY bV aT
     ·
      rw[K8,K7] at O;have h1:¬(a<s/\s<kj):=by simpa using O
      refine ae ?_;refine aW (L1++R1) (FR.Srt.refl ?_) bV (by rw[mt];simp only[List.append_assoc];exact aT);rcases Nat.lt_or_ge a s with h|h
      · obtain rfl:R1=[]:=List.eq_nil_of_length_eq_zero am
        simpa using sL.1
      · obtain rfl:L1=[]:=List.eq_nil_of_length_eq_zero am
        simpa using sR.1
    intro Y1 Lg;have Lx:=Lg.len;rw[List.length_append] at Lx;have M2:FR.Mrg (P++Y1) L2 R2 Q (P++(Y1++(L2++(R2++Q)))) kj e b:=⟨by simp,by simp;omega,am,am,sL.2.1,sR.2.1,λx hx y J=>bf x (by rw[eL];exact List.mem_append_right _ hx) y (by rw[eR];exact List.mem_append_right _ J)⟩;have Ly:(P++(Y1++(L2++(R2++Q)))).length=n:=by rw[<-Lc,mt];simp only[List.length_append];omega
    refine bq Z<|sM Z (ck Z (bz Z Z Z) (λ_ _=>trivial) λK3 K9=>(sM Z ?_))
    refine bN K3 (by rfl) ?_;refine cB Z Z (λ_=>rfl) (bd Z) (λ_ _=>trivial) ?_;refine bN K3 (by rfl) ?_;refine cB Z Z (λ_=>rfl) (bd Z) (λ_ _=>trivial) ?_;refine bN K3 (by rfl) ?_;refine cB Z Z (λ_=>rfl) (bz Z Z Z) (λ_ _=>trivial) ?_;refine ck Z (dJ Z Z Z) (λ_ _=>trivial) λLB Lb=>sN ?_;refine ce Z (λT=>?_) λT=>?_
    ·
     rw[Lb,K9] at T;have h1:kj<e/\e<b:=by simpa using T
     refine sG<|sM Z<|sM Z<|sM Z<|sM Z<|sM Z ?_
     refine bU Z (ih am M2 h1.1 h1.2 Ly hb) aT ?_;rintro v m ⟨rfl,Y2,Lr,rfl⟩;refine aa<|ao ?_
     exact cW [_] rfl ⟨rfl,Y1++Y2,hJ Y1 Y2 Lg Lr,rfl⟩ (by simp only[List.append_assoc];exact aT)
    ·
     rw[Lb,K9] at T;have h1:¬(kj<e/\e<b):=by simpa using T
     refine ae ?_;refine cW [_] rfl ⟨rfl,Y1++(L2++R2),hJ Y1 (L2++R2) Lg (FR.Srt.refl ?_),rfl⟩ (by simp only[List.append_assoc];exact aT);rcases Nat.lt_or_ge kj e with h|h
     · obtain rfl:R2=[]:=List.eq_nil_of_length_eq_zero am
       simpa using sL.2.1
     · obtain rfl:L2=[]:=List.eq_nil_of_length_eq_zero am
       simpa using sR.2.1
theorem la:∀N,E7 G N
 | 0=>λh _ E I=>by omega
 | N+1=>FN (la N)
abbrev JO (g c n:Nat):List (Nat×Value):=[(0,sV g c n),(1,aw n),(2,lC)]
theorem yA {g:Nat} (hX:X.length=n) (hb:n<=100000) (hs:FR.Seqs X) :
 dx G 222 [sV g c n,aw n,lC] [gA g c n X] λv m=>v=.tuple #[]/\∃Y,FR.Srt X Y/\m=[gA g c n Y]:=by
 refine bA Tryz.func222 Z λE fr hE=>aa<|sS<|sB Z<|bq Z<|sA Z<|sB Z<|sQ<|ag ?_
 refine aO (X:=Nat×List FR.Tmd×List FR.Tmd) (λx=>(8,aw (x.1+20:Nat))::(7,aw x.1)::(6,aw 20)::JO g c n) (λx=>gA g c n x.2.1::fr) (λx=>x.2.1.length=n/\FR.BlkTo 20 X x.2.1 x.1 x.2.2 x.2.2) (λx=>n-x.1) (0,X,X) ⟨hX,FR.BlkTo.init 20 X X⟩ bV aT ?_;rintro⟨a,l,U⟩ ⟨J,T⟩;replace J:l.length=n:=J;replace T:FR.BlkTo 20 X l a U U:=T;have K7:=T.len;refine eQ (ts':=(8,aw (a+20:Nat))::(7,aw a)::(6,aw 20)::JO g c n) Z<|aq (l':=gA g c n l::fr) aT ?_
 refine sQ<|bq Z<|ch Z (nU Z Z Z)<|sN ?_
 refine aB Z (λBT=>?_) λBT=>?_
 ·
  have K8:a+20<=n:=am;obtain⟨P,I,Q,e1,e2,e3,e4,e5⟩:=T.ins hs am;subst e1;refine ae<|sT<|ag<|bq Z<|sM Z<|sM Z<|sM Z ?_
  refine bU Z (qk (a:=a) (b:=a+20) e2 e3 J hb e4) aT ?_;rintro v m ⟨rfl,Y,O,rfl⟩;refine aa ?_;have K:=O.len;refine sN<|bq Z<|sB Z<|sG<|sM Z<|ch Z (bc (r:=((a+20+20:Nat):Int)) Z Z dP)<|sA Z<|ao<|al ?_
  exact aE (a+20,P++(Y++Q),Q) ⟨by show(P++(Y++Q)).length=n;rw[<-J];simp[K],e5 Y O⟩ (by show n-(a+20)<n-a;omega) bV aT
 ·
  have K9:n<a+20:=am;obtain⟨P,I,e1,e2,e3,e4,e5⟩:=T.insLast hs am;subst e1;refine aL<|aA<|az<|ap<|sT<|bq Z<|sM Z<|sM Z<|sM Z ?_
  refine bU Z (qk (a:=a) (b:=n) e2 (e3.trans J) J hb e4) aT ?_;rintro v m ⟨rfl,Y,O,rfl⟩;refine aa ?_;have K:=O.len;refine sN<|ag ?_
  refine aO (X:=Nat×List FR.Tmd) (λx=>(6,aw x.1)::JO g c n) (λx=>gA g c n x.2::fr) (λx=>x.2.length=n/\20<=x.1/\x.1<=200000/\FR.Blk x.1 X x.2) (λx=>n-x.1) (20,P++(Y++[])) ⟨by rw[<-J];simp[K],cu _,am,e5 Y O⟩ bV aT ?_;rintro⟨z,l⟩ ⟨J,hz,wf,T⟩;replace J:l.length=n:=J;replace hz:20<=z:=hz;replace wf:z<=200000:=wf;replace T:FR.Blk z X l:=T;refine eQ (ts':=(6,aw z)::JO g c n) Z<|aq (l':=gA g c n l::fr) aT ?_
  refine sQ<|bq Z<|ch Z (bz Z Z Z)<|sN ?_
  refine aB Z (λFd=>?_) λFd=>?_
  ·
   have Lb:z<n:=am;refine ae<|sT<|ag<|bq Z<|sP (kZ (r:=((2*z:Nat):Int)) Z Z dP)<|sA Z<|sB Z<|sQ<|ag ?_
   refine aO (X:=Nat×List FR.Tmd×List FR.Tmd×List FR.Tmd) (λx=>(8,aw (x.1+2*z:Nat))::(7,aw x.1)::(6,aw z)::JO g c n) (λx=>gA g c n x.2.1::fr) (λx=>x.2.1.length=n/\FR.BlkTo (2*z) X x.2.1 x.1 x.2.2.1 x.2.2.2/\FR.Blk z x.2.2.1 x.2.2.2) (λx=>n-x.1) (0,l,X,l) ⟨J,FR.BlkTo.init _ X l,T⟩ ⟨by rw[Nat.zero_add];rfl,rfl,rfl,rfl,rfl,rfl,trivial⟩ aT ?_;rintro⟨a,l,U,V⟩ ⟨J,hT,hK⟩;replace J:l.length=n:=J;replace hT:FR.BlkTo (2*z) X l a U V:=hT;replace hK:FR.Blk z U V:=hK;have K7:=hT.len;refine eQ (ts':=(8,aw (a+2*z:Nat))::(7,aw a)::(6,aw z)::JO g c n) Z<|aq (l':=gA g c n l::fr) aT ?_
   refine sQ<|bq Z<|ch Z (nU Z Z Z)<|sN ?_
   refine aB Z (λIn=>?_) λIn=>?_
   ·
    have K8:a+2*z<=n:=am;obtain⟨P,Lf,R,Q,U',hM,K4,hN⟩:=hT.pair hK hs am;refine ae<|sT<|ag<|bq Z<|sM Z<|sM Z<|ch Z (bc (r:=((a+z:Nat):Int)) Z Z dP)<|sM Z<|sM Z ?_
    refine bU Z (la _ (cu _) hM am am J hb) aT ?_;rintro v m ⟨rfl,Y,O,rfl⟩;refine aa ?_;have K:=O.len;have mt:l.length=(P++((Lf++R)++Q)).length:=by rw[hM.is];simp
    refine sN<|bq Z<|sB Z<|sG<|sM Z<|ch Z (kZ (r:=((2*z:Nat):Int)) Z Z dP)<|sP (bc (r:=((a+2*z+2*z:Nat):Int)) Z Z dP)<|sA Z<|ao<|al ?_
    exact aE (a+2*z,P++(Y++Q),U',Q) ⟨by show(P++(Y++Q)).length=n;rw[<-J,mt];simp only[List.length_append] at K ⊢;omega,hN Y O,K4⟩ (by show n-(a+2*z)<n-a;omega) bV aT
   ·
    have K9:n<a+2*z:=am;refine aL<|aA<|az<|ap<|sT ?_
    refine sQ<|cw (X:=List FR.Tmd) (λ_=>(6,aw z)::JO g c n) (λY=>gA g c n Y::fr) (λY=>Y.length=n/\FR.Blk (2*z) X Y) ?_ ?_
    ·
     refine bq Z<|ch Z (bc (r:=((a+z:Nat):Int)) Z Z dP)<|sB Z<|bq Z<|ch Z (bz Z Z Z)<|sN ?_
     refine aB Z (λK3=>?_) λK3=>?_
     ·
      have h1:a+z<n:=am;obtain⟨P,Lf,R,hM,hN⟩:=hT.pairLast hK hs am am;rw[J] at hM;have mt:l.length=(P++((Lf++R)++[])).length:=by rw[hM.is];simp
      refine sG<|sM Z<|sM Z<|sM Z<|sM Z<|sM Z ?_
      refine bU Z (la _ (cu _) hM am am J hb) aT ?_;rintro v m ⟨rfl,Y,O,rfl⟩;refine aa ?_;have K:=O.len;refine ao ?_;exact aW (P++(Y++[])) ⟨by rw[<-J,mt];simp only[List.length_append] at K ⊢;omega,hN Y O⟩ bV aT
     ·
      have h1:n<=a+z:=am;refine ae ?_;exact aW l ⟨J,hT.rest hK am⟩ bV aT
    rintro Y ⟨K5,K6⟩;refine sG<|ch Z (kZ (r:=((2*z:Nat):Int)) Z Z dP)<|sA Z<|ao<|al ?_
    exact aE (2*z,Y) ⟨K5,am,am,K6⟩ (by show n-2*z<n-z;omega) bV aT
  ·
   have Lc:n<=z:=am;refine aL<|aA<|az<|ap ?_
   exact cW [_] rfl ⟨rfl,l,T.all am,rfl⟩ aT
theorem Dy {g:Nat} (I:X.length=n) (J:n<=100000) (K:FR.Seqs X) :
 dx G 190 [sV g c n,lC] [gA g c n X] λv m=>v=.tuple #[]/\∃Y,FR.Srt X Y/\m=[gA g c n Y]:=by
 refine bA Tryz.func190 Z λE fr T=>aa<|sG<|sM Z<|ch Z (bp Z Z)<|sM Z ?_
 refine bU Z (yA I J K) aT ?_;rintro v m ⟨rfl,Y,O,rfl⟩;exact aa<|ao<|cW [_] rfl ⟨rfl,Y,O,rfl⟩ aT
abbrev Ch (x:FK.KD):List Value:=[.int .u64 x.1.run,aw x.1.node,.int .u64 x.2]
abbrev d9:Value:=cx
def ul (b:Nat) (l:List FK.KD):HP:=HP.ex λv:Value=>HP.all [HP.pure (l=[]->v=d9),blk b 94 #[v],row 99 3 v l.length (l.flatMap Ch)]
theorem Jo {cap:Array Value} (T:S.tms.length<=100000) (Y:eB Tryz.prog F=true)
 (I:∀done k a,done.length<=100000->Does Tryz.prog G F (#[]++[iz k,.int .u64 (a:Nat)].toArray++cap) [U done] λv m=>v=.tuple #[]/\m=[U (done++[(k,a)])]) :
 dx G 183 [aX p.w,.func (.func F) #[] cap] [aN e p S,U []] λv m=>v=.tuple #[]/\m=[aN e p S,U S.tms]:=by
 refine Does.part (pre:=[dC p.w S.now S.sets S.tms,U []]) (R:=λv m=>v=.tuple #[]/\m=[dC p.w S.now S.sets S.tms,U S.tms]) (c:=[HP.pure (eC S),ee e (jw S p) S.KX,cP aQ p.rm (eM S p),fF p S.runs,cP aQ p.tm (dD S)]) ?_ ?_ ?_
 · intro E w fr hE hw
   obtain⟨F1,F2,h1,h2,hd,hp,hl⟩:=hw.star;obtain⟨W,O,hs⟩:=sH hp;have K:=congrArg List.length O.tms;rw[List.length_map] at K;refine(((Hn (w:=p.w) (cap:=cap) O.inv am Y I).mono (R':=λv m=>v=.tuple #[]/\m=[dC p.w S.now S.sets S.tms,U S.tms]) ?_)) E w fr hE ⟨hw.is,F1,F2,h1,h2,hd,hs,hl⟩;rintro v m ⟨rfl,rfl⟩;refine⟨_,⟨rfl,rfl⟩,?_⟩;rw[O.tms];exact(Ent.pure O).trans ((Ent.all (m:=[HP.pure (WOk S.now S.sets S.tms W),cy p.w W])).trans (Ent.ex (f:=λW:FK.WS=>HP.all [HP.pure (WOk S.now S.sets S.tms W),cy p.w W]) W))
 · exact(Ent.unall (m:=jV e p S)).trans (bo Ae Ae)
 · rintro v m ⟨rfl,rfl⟩
   refine⟨_,⟨rfl,rfl⟩,?_⟩;refine Ent.trans ?_<|Ent.all (m:=jV e p S)
   exact(cF de de de).trans (Ent.cons (Ent.cons (Ent.cons (bo de de))))
theorem Aq (l:List FK.KD) (k:FK.Pl) (a:Nat) (hl:l.length<=100000):Does Tryz.prog G 189 (#[]++[iz k,.int .u64 (a:Nat)].toArray++#[aX b]) [ul b l] λv m=>v=.tuple #[]/\m=[ul b (l++[(k,a)])]:=by
 show dx G 189 [iz k,.int .u64 (a:Nat),aX b] [ul b l] λv m=>v=.tuple #[]/\m=[ul b (l++[(k,a)])];refine bA Tryz.func189 Z λE fr hE=>aa ?_;refine dI .head λy=>bH ?_;refine fg .head λ_=>aq (l':=blk b 94 #[y]::row 99 3 y l.length (l.flatMap Ch)::fr) aT ?_;refine sS<|sO (cR Z Z λb3=>(sN (sG (bF (au (v:=y) Z) (ah Z) (bn 0 Z (bF (au (v:=.int .u64 k.run) Z) (ah Z) (bn 1 Z (bF (au (v:=aw k.node) Z) (ah Z) (sM Z (sP (bI (cs:=(Ch (k,a)).toArray) Z Z Z Z Z) ?_))))))))))
 refine sO (dh (m:=1) (z:=zTmr) (size:=3) (ps:=[(0,.tmp 11)]) (vs:=[.agg (Ch (k,a)).toArray]) (cs:=(Ch (k,a)).toArray) Z Z Z Z am am Z (xW _ _ Z) λY=>?_);refine dq rfl (bZ rfl rfl CT rfl am rfl rfl (HasVal.sel (v:=y)) (news:=Ch (k,a)) rfl (λh=>by cases h) (eO (λj u h=>by simpa using h)) er (by unfold maxLen;omega) am λO T=>?_);refine aK (HasVal.sel (v:=O)) ?_;rintro I K rfl - - - - -
 refine bR Z Z Z Z gN ?_;refine aG b #[.slice I (l.length+1) K] rfl<|ao<|cW [ul b (l++[(k,a)])] rfl ⟨rfl,rfl⟩ ?_
 refine Ent.trans ?_ ((Ent.pure (p:=l++[(k,a)]=[]->(.slice I (l.length+1) K:Value)=d9) (λh=>by simp at h)).trans ((Ent.all (m:=[HP.pure (l++[(k,a)]=[]->(.slice I (l.length+1) K:Value)=d9),blk b 94 #[.slice I (l.length+1) K],row 99 3 (.slice I (l.length+1) K) (l++[(k,a)]).length ((l++[(k,a)]).flatMap Ch)])).trans (Ent.ex (f:=λv:Value=>HP.all [HP.pure (l++[(k,a)]=[]->v=d9),blk b 94 #[v],row 99 3 v (l++[(k,a)]).length ((l++[(k,a)]).flatMap Ch)]) (.slice I (l.length+1) K))));rw[List.flatMap_append,List.length_append];show Ent _ (blk b 94 #[.slice I (l.length+1) K]::row 99 3 (.slice I (l.length+1) K) (l.length+1) (l.flatMap Ch++Ch (k,a))::fr);exact aJ
theorem wK:dx G 248 [d9,aw 0,aw 0,lC] [] λv m=>v=.tuple #[]/\m=[]:=by
 refine bA Tryz.func248 Z λE fr I=>aZ<|bq Z<|sP (bc (r:=1) Z Z Z)<|sB Z<|ag ?_
 refine aO (X:=Unit) (λ_=>[(8,aw 1),(2,aw 0)]) (λ_=>fr) (λ_=>True) (λ_=>0) () trivial bV aT ?_;intro _ _;exact sQ<|bq Z<|ch Z (bz Z Z Z)<|sN<|aj Z<|aL<|aA<|az<|ap<|cW [] rfl ⟨rfl,rfl⟩ aT
theorem wn:dx G 222 [d9,aw 0,lC] [] λv m=>v=.tuple #[]/\m=[]:=by
 refine bA Tryz.func222 Z λE fr I=>aZ<|sS<|sB Z<|bq Z<|sA Z<|sB Z<|sQ<|ag ?_
 refine aO (X:=Unit) (λ_=>[(8,aw 20),(7,aw 0),(6,aw 20),(0,d9),(1,aw 0),(2,lC)]) (λ_=>fr) (λ_=>True) (λ_=>0) () trivial bV aT ?_;intro _ _;refine sQ<|bq Z<|ch Z (nU Z Z Z)<|sN<|aj Z<|aL<|aA<|az<|ap<|sT<|bq Z<|sM Z<|sM Z<|sM Z ?_
 refine bW Z wK aT ?_;refine aZ<|sN<|ag ?_
 refine aO (X:=Unit) (λ_=>[(6,aw 20),(1,aw 0)]) (λ_=>fr) (λ_=>True) (λ_=>0) () trivial bV aT ?_;intro _ _;exact sQ<|bq Z<|ch Z (bz Z Z Z)<|sN<|aj Z<|aL<|aA<|az<|ap<|cW [] rfl ⟨rfl,rfl⟩ aT
theorem sort0_does:dx G 190 [d9,lC] [] λv m=>v=.tuple #[]/\m=[]:=by
 refine bA Tryz.func190 Z λE fr I=>aZ<|sG<|sM Z<|ch Z (bp Z Z)<|sM Z ?_
 refine bW Z wn aT ?_;exact aZ<|ao<|cW [] rfl ⟨rfl,rfl⟩ aT
theorem AN (T:X.length<=100000) (hs:FR.Seqs X) :
 dx G 190 [v,lC] [row 99 3 v X.length (X.flatMap dB)] λu m=>u=.tuple #[]/\∃Y,FR.Srt X Y/\m=[row 99 3 v Y.length (Y.flatMap dB)]:=by
 intro E w fr K hw;rcases(hw.row .head).2 with⟨h0,I⟩|⟨g,cap,mt,hv,_⟩
 · obtain rfl:X=[]:=List.eq_nil_of_length_eq_zero I
   subst h0;exact((sort0_does.frame [row 99 3 d9 0 []]).mono λu m ⟨m',⟨I,h2⟩,hm⟩=>⟨_,⟨I,[],FR.Srt.nil,rfl⟩,by rw[hm,h2];exact aT⟩) E w fr K hw
 · subst hv
   refine((Dy (g:=g) (c:=cap) Z T hs).mono ?_) E w fr K hw;rintro u m ⟨rfl,Y,O,rfl⟩;exact⟨_,⟨rfl,Y,O,rfl⟩,by rw[O.len];exact aT⟩
theorem yv (hτ:∀x,dB (τ x)=Ch x) (I:S.tms.length<=100000) (hs:FR.Seqs (S.tms.map τ)) :
 dx G 132 [aX e] [aN e p S] λv m=>∃Y,FR.Srt (S.tms.map τ) Y/\(S.tms=[]->v=d9)/\m=[aN e p S,row 99 3 v Y.length (Y.flatMap dB)]:=by
 have T:S.tms.flatMap Ch=(S.tms.map τ).flatMap dB:=by
  rw[List.flatMap_map];exact congrArg (λf=>S.tms.flatMap f) (funext λx=>(hτ x).symm)
 refine bA Tryz.func132 Z λE fr hE=>aa<|sS<|sB Z<|sS<|sO (cH (z:=cx) Z λO=>(sN (sS (sM Z (da Z (bn 6 Z ?_))))))
 refine bF (au (v:=aX p.w) Z) (bE λ_ _ _=>rfl) ?_;refine sP (gP Z Z) ?_;refine bW Z (Jo (U:=ul O) I Z λl k a hl=>Aq l k a hl) (Ent.trans gfE1 (Ent.cons ((Ent.row0 (e:=99) (size:=3)).trans (gfE1.trans ((Ent.pure (p:=([]:List FK.KD)=[]->d9=d9) λ_=>rfl).trans ((Ent.all (m:=[HP.pure (([]:List FK.KD)=[]->d9=d9),blk O 94 #[d9],row 99 3 d9 0 []])).trans (Ent.ex (f:=λv:Value=>HP.all [HP.pure (([]:List FK.KD)=[]->v=d9),blk O 94 #[v],row 99 3 v 0 []]) d9))))))) ?_;refine aD<|sN<|sQ ?_
 refine dI bJ λy=>bH (fg .head λK=>?_);rw[T];refine aq (l':=blk O 94 #[y]::row 99 3 y (S.tms.map τ).length ((S.tms.map τ).flatMap dB)::aN e p S::fr) (by rw[List.length_map];exact aT) ?_;refine sG<|bF (au (v:=y) Z) (ah Z) ?_
 refine bU Z (AN (v:=y) (by rw[List.length_map];exact I) hs) gfE1 ?_;rintro v m ⟨rfl,Y,hY,rfl⟩;refine aa<|sN<|sS<|bF (au (v:=y) Z) (ah Z)<|sB Z<|an ?_
 exact ar [aN e p S,row 99 3 y Y.length (Y.flatMap dB)] rfl Z ⟨Y,hY,K,rfl⟩ (by show Ent _ (_::_::fr);exact aJ)
section
variable {f:Nat}
theorem wO (O:∀x,dB (τ x)=Ch x) (K:S.tms.length<=100000) (T:FR.Seqs (S.tms.map τ)):dQ 82 [aX f] (bX f e j d p S J σ) λv m=>∃Y,FR.Srt (S.tms.map τ) Y/\(S.tms=[]->v=d9)/\m=row 99 3 v Y.length (Y.flatMap dB)::bX f e j d p S J σ:=by
 refine bA Tryz.func82 Z λE fr hE=>bS<|sS<|sB Z<|sS<|cG 0 Z Z<|aR Z Z Z Z ?_
 refine bU Z (yv O K T) gfE1 ?_;rintro v m ⟨Y,hY,I,rfl⟩;refine aD<|sB Z<|an<|ar (row 99 3 v Y.length (Y.flatMap dB)::bX f e j d p S J σ) Z Z ⟨Y,hY,I,rfl⟩ ?_
 show Ent _ (_::cU f e j::aN e p _::aP j d J::aI d σ::fr);exact aJ
theorem wL (O:∀x,dB (τ x)=Ch x) (K:S.tms.length<=100000) (T:FR.Seqs (S.tms.map τ)):dQ 36 [aX h] (cj h f e j d p S J σ) λv m=>∃Y,FR.Srt (S.tms.map τ) Y/\(S.tms=[]->v=d9)/\m=row 99 3 v Y.length (Y.flatMap dB)::cj h f e j d p S J σ:=by
 refine bA Tryz.func36 Z λE fr hE=>cX<|sS<|sB Z<|sQ<|sS<|cG 1 Z Z<|aR Z Z Z Z<|sP (dS Z Z Z)<|sN<|aj Z<|ae<|sT<|sQ ?_
 refine sG<|cG 1 Z Z<|aR Z Z Z Z ?_
 refine bU Z (wO O K T) (Ent.trans gfE1 (Ent.cons (cF bJ bJ bJ))) ?_;rintro v m ⟨Y,hY,I,rfl⟩;refine cX<|sB Z<|an<|ar (row 99 3 v Y.length (Y.flatMap dB)::cj h f e j d p S J σ) Z Z ⟨Y,hY,I,rfl⟩ ?_
 show Ent _ (_::bB h d f::cU f e j::aN e p S::aP j d J::aI d σ::fr);exact aJ
end
section
variable {f:α->List Value}
theorem GQ (hk:0<k) (I:∀x,(f x).length=k) {l:List α} {L:List Value} (hl:L.length=l.length*k) (h:∀(i:Nat) x (j:Nat) u,l[i]?=some x->(f x)[j]?=some u->L[i*k+j]?=some u):L=l.flatMap f:=by
 apply List.ext_getElem?;intro n
 by_cases Y:n<l.length*k
 · have h1:n/k<l.length:=Nat.div_lt_of_lt_mul (by rw[Nat.mul_comm];exact Y)
   have h2:n%k<k:=Nat.mod_lt _ hk;have J:l[n/k]?=some l[n/k]:=List.getElem?_eq_getElem h1;have h3:(f l[n/k])[n%k]?=some ((f l[n/k])[n%k]'(by rw[I];exact h2)):=List.getElem?_eq_getElem _;have O:=h (n/k) _ (n%k) _ J h3;have T:=eJ I (n%k) J h3;rw[Nat.mul_comm,Nat.div_add_mod] at O T;rw[O,T]
 · rw[List.getElem?_eq_none am,List.getElem?_eq_none (by rw[cM I];omega)]
theorem em (I:∀x,(f x).length=k) {l:List α} {x:α} (h:l[i]?=some x) (j:Nat) (u:Value) (J:(f x)[j]?=some u):(l.flatMap f)[0+i*k+j]?=some u:=by
 rw[Nat.zero_add];exact eJ I j h J
theorem uY (hk:0<k) (I:∀x,(f x).length=k) {l:List α} {s s':α} (hs:l[i]?=some s) (hj:j<k) (h:(f s).set j v=f s'):(l.flatMap f).set (0+i*k+j) v=(l.set i s').flatMap f:=by
 have hi:=(gfGet.1 hs).1;have wf:i*k+k<=l.length*k:=by rw[<-Nat.succ_mul];exact Nat.mul_le_mul_right _ hi
 refine GQ hk I (by rw[List.length_set,cM I,List.length_set]) λn x m u O J=>?_;have hm:m<k:=by have:=(gfGet.1 J).1;rwa [I] at this
 by_cases Y:n=i
 · subst Y
   rw[List.getElem?_set_self hi] at O;injection O with O;subst O;rw[<-h] at J
   by_cases T:m=j
   · subst T
     rw[List.getElem?_set_self (by rw[I];exact hm)] at J;rw[show 0+n*k+m=n*k+m by omega,List.getElem?_set_self (by rw[cM I];omega)];exact J
   · rw[List.getElem?_set_ne (Ne.symm T)] at J
     rw[List.getElem?_set_ne am];exact eJ I m hs J
 · rw[List.getElem?_set_ne (Ne.symm Y)] at O
   have mt:0+i*k+j≠n*k+m:=by
    rcases Nat.lt_or_gt_of_ne Y with h|h
    · have:=Nat.mul_le_mul_right k h
      rw[Nat.succ_mul] at this;omega
    · have:=Nat.mul_le_mul_right k h
      rw[Nat.succ_mul] at this;omega
   rw[List.getElem?_set_ne mt];exact eJ I m O J
end
abbrev qQ (s:FR.St):List Value:=[aw s.state,aw s.KU,.int .u64 s.token,.int .u64 s.fin,.int .u64 s.sign,aw s.finAt,aw s.signAt]
abbrev zV (l:List FR.St):List Value:=l.flatMap qQ
abbrev iN (p:Nat×Int):List Value:=[.int .u64 p.1,aw p.2]
structure ND where
 gn:Nat
 cn:Nat
 vs:List Value
 ns:List FK.Node
abbrev ND.nv (x:ND):Value:=.slice (some ⟨x.gn,0,none⟩) x.ns.length x.cn
abbrev ndL (x:ND):List HP:=[HP.pure (x.vs.length=x.ns.length),row 46 7 x.nv x.ns.length (cL x.ns x.vs),fh x.vs x.ns]
def JP (x:ND):HP:=HP.all (ndL x)
def bx (l:List ND):HP:=HP.all (l.map JP)
structure RP where
 nd:ND
 gs:Nat
 cs:Nat
structure RfA where
 rg:Option Nat
 rc:Nat
 qg:Option Nat
 qc:Nat
 ra:Nat->RP
abbrev zY (o:Option Nat):Option Addr:=o.map λg=>⟨g,0,none⟩
abbrev jg (p:RP) (r:FR.Rn):Value:=.slice (some ⟨p.gs,0,none⟩) r.KV.length p.cs
abbrev gT (p:RP) (r:FR.Rn):List Value:=[.int .u64 r.id,aw r.fl.deadline,p.nd.nv,aw r.state,.int .u64 r.till,aw r.tillAt,jg p r,aw r.ended]
abbrev gW (a:RfA) (l:List FR.Rn):List Value:=l.flatMap λr=>gT (a.ra r.id) r
abbrev iP (a:RfA) (M:FR.En):Value:=.slice (zY a.rg) M.runs.length a.rc
abbrev kS (a:RfA) (M:FR.En):Value:=.slice (zY a.qg) M.KX.length a.qc
abbrev pR (a:RfA) (M:FR.En):Array Value:=#[.int .u64 M.time,.int .u64 M.seed,iP a M,kS a M,.int .u64 M.KT,.int .u64 M.KS,aw M.timers,aw M.ends]
abbrev iB (a:RfA) (r:FR.Rn):HP:=row 194 7 (jg (a.ra r.id) r) r.KV.length (zV r.KV)
def ju (a:RfA) (l:List FR.Rn):HP:=HP.all (l.map (iB a))
abbrev jx (a:RfA) (l:List ND) (M:FR.En):Prop:=∀r∈M.runs,(a.ra r.id).nd∈l/\(a.ra r.id).nd.ns=r.fl.KW
abbrev jS (a:RfA) (M:FR.En):HP:=row 150 8 (iP a M) M.runs.length (gW a M.runs)
abbrev zW (a:RfA) (M:FR.En):HP:=row 197 2 (kS a M) M.KX.length (M.KX.flatMap iN)
abbrev o9 (e:Nat) (a:RfA) (l:List ND) (M:FR.En):List HP:=[HP.pure (jx a l M),blk e 74 (pR a M),jS a M,zW a M,ju a M.runs]
def aV (e:Nat) (a:RfA) (l:List ND) (M:FR.En):HP:=HP.all (o9 e a l M)
class HasRef (l:List HP) (e:outParam Nat) (a:outParam RfA) (ns:outParam (List ND)) (M:outParam FR.En) (r:outParam (List HP)):Prop where
 sel:Sel (aV e a ns M) l r
instance HasRef.head {e:Nat} {a:RfA} {ns:List ND} {M:FR.En} {l:List HP}:HasRef (aV e a ns M::l) e a ns M l:=⟨.head⟩
instance (priority:=low) HasRef.tail {e:Nat} {a:RfA} {ns:List ND} {M:FR.En} {l r:List HP} {x:HP} [h:HasRef l e a ns M r]:HasRef (x::l) e a ns M (x::r):=⟨.tail h.sel⟩
class HasPool (l:List HP) (ns:outParam (List ND)):Prop where
 sel:∃r,Sel (bx ns) l r
instance HasPool.head {ns:List ND} {l:List HP}:HasPool (bx ns::l) ns:=⟨⟨_,.head⟩⟩
instance (priority:=low) HasPool.tail {ns:List ND} {l:List HP} {x:HP} [h:HasPool l ns]:HasPool (x::l) ns:=⟨let⟨_,h⟩:=h.sel;⟨_,.tail h⟩⟩
theorem Star.nd {l:List ND} {F:Nat->Prop} {x:ND} (h:(bx l).sat w F) (I:x∈l):Star w (ndL x) F:=
 Star.mem (p:=JP x) (l:=l.map JP) h (List.mem_map_of_mem I)
section
variable {l:List HP} {a:RfA} {ns:List ND} [H:HasRef l e a ns M r]
section
include H
theorem jk (hw:Holds E w l):∃F,Star w (o9 e a ns M) F:=by
 obtain⟨F1,_,_,_,_,I,_⟩:=(hw.sel H.sel).star;exact⟨F1,I⟩
theorem l8 (hw:Holds E w l):jx a ns M:=by
 obtain⟨F,h⟩:=jk (H:=H) hw;exact Star.mem (p:=HP.pure (jx a ns M)) h cY
theorem cg (I:(pR a M)[i]?=some v):∀w,Holds E w l->cq ⟨e,i,none⟩ v w:=λw hw=>by
 obtain⟨F,h⟩:=jk (H:=H) hw;have J:(blk e 74 (pR a M)).sat w F:=Star.mem h cY;have:=J.2;simp only[cq,World.cell?,this];exact I
theorem rK (hw:Holds E w l):∃F,(jS a M).sat w F:=by
 obtain⟨F,h⟩:=jk (H:=H) hw;exact⟨F,Star.mem h cY⟩
theorem gY (hi:M.runs[i]?=some u) (hw:Holds E w l):∃g,a.rg=some g:=by
 obtain⟨F,h⟩:=rK (H:=H) hw;have T:=(gfGet.1 hi).1;cases hg:a.rg with
 | some g=>exact⟨g,rfl⟩
 | none=>
  rcases h.1.2 with⟨_,O⟩|⟨g,cap,J,I,_⟩
  · omega
  · unfold iP at I
    rw[hg] at I;injection I with I;cases I
theorem kX {g:Nat} (hi:M.runs[i]?=some u) (I:a.rg=some g):∀w,Holds E w l->gV g (0+i*8) (gT (a.ra u.id) u) w:=λw hw=>by
 obtain⟨F,h⟩:=rK (H:=H) hw;unfold jS iP at h;rw[I] at h;exact mw h λj v J=>em (k:=8) (λ_=>rfl) hi j v J
theorem cE {g:Nat} (hi:M.runs[i]?=some u) (I:a.rg=some g) (J:(gT (a.ra u.id) u)[j]?=some v):∀w,Holds E w l->cq ⟨g,0+i*8+j,none⟩ v w:=λw hw=>kX (H:=H) hi I w hw j v J
theorem qW (hi:M.runs[i]?=some u) (I:u.id=id) (J:u.KV[k]?=some s):∀w,Holds E w l->gV (a.ra id).gs (0+k*7) (qQ s) w:=λw hw=>by
 subst I;obtain⟨F,h⟩:=jk (H:=H) hw;have T:Star w (M.runs.map (iB a)) F:=Star.mem (p:=ju a M.runs) h cY;have Y:(iB a u).sat w F:=Star.mem T (List.mem_map_of_mem (bY hi));exact mw Y λj v O=>em (k:=7) (λ_=>rfl) J j v O
theorem dH (hi:M.runs[i]?=some u) (I:u.id=id) (J:u.KV[k]?=some s) (O:(qQ s)[j]?=some v):∀w,Holds E w l->cq ⟨(a.ra id).gs,0+k*7+j,none⟩ v w:=λw hw=>qW (H:=H) hi I J w hw j v O
theorem Ci {u:Nat×Int} (hi:M.KX[i]?=some u) (hw:Holds E w l):∃g,a.qg=some g:=by
 obtain⟨F,h⟩:=jk (H:=H) hw;have h:(zW a M).sat w F:=Star.mem h cY;have T:=(gfGet.1 hi).1;cases hg:a.qg with
 | some g=>exact⟨g,rfl⟩
 | none=>
  rcases h.1.2 with⟨_,O⟩|⟨g,cap,J,I,_⟩
  · omega
  · unfold kS at I
    rw[hg] at I;injection I with I;cases I
theorem HU {g:Nat} {u:Nat×Int} (hi:M.KX[i]?=some u) (I:a.qg=some g):∀w,Holds E w l->gV g (0+i*2) (iN u) w:=λw hw=>by
 obtain⟨F,h⟩:=jk (H:=H) hw;have h:(zW a M).sat w F:=Star.mem h cY;unfold zW kS at h;rw[I] at h;exact mw h λj v J=>em (k:=2) (λ_=>rfl) hi j v J
end
end
section
variable {l:List HP} {ns:List ND} [H:HasPool l ns]
include H
theorem qY (hw:Holds E w l) {x:ND} (I:x∈ns):∃F,Star w (ndL x) F:=by
 obtain⟨r,J⟩:=H.sel;obtain⟨F1,_,_,_,_,O,_⟩:=(hw.sel J).star;exact⟨F1,Star.nd O I⟩
theorem Jv (hw:Holds E w l) {x:ND} (I:x∈ns):x.vs.length=x.ns.length:=by
 obtain⟨F,h⟩:=qY (H:=H) hw I;exact Star.mem (p:=HP.pure (x.vs.length=x.ns.length)) h cY
theorem rL {x:ND} (J:x∈ns) {nd:FK.Node} {u:Value} (T:x.ns[k]?=some nd) (Y:x.vs[k]?=some u):∀w,Holds E w l->gV x.gn (0+k*7) (bk nd u) w:=λw hw=>by
 obtain⟨F,h⟩:=qY (H:=H) hw J;exact mw (Star.mem (p:=row 46 7 x.nv x.ns.length (cL x.ns x.vs)) h cY) (λj v O=>by
  have I:j<7:=by have:=(gfGet.1 O).1;simpa[bk] using this
  rw[Nat.zero_add,ly _ _ _ _ _ _ (Jv (H:=H) hw J) T Y I];exact O)
theorem qZ {x:ND} (I:x∈ns) {nd:FK.Node} {u:Value} (J:x.ns[k]?=some nd) (O:x.vs[k]?=some u) (T:(bk nd u)[j]?=some v):∀w,Holds E w l->cq ⟨x.gn,0+k*7+j,none⟩ v w:=λw hw=>rL (H:=H) I J O w hw j v T
theorem rM {x:ND} (I:x∈ns) {nd:FK.Node} (Y:x.ns[k]?=some nd) (hw:Holds E w l):∃A c,x.vs[k]?=some (.slice A nd.after.length c)/\(A=none->nd.after.length=0/\c=0)/\(∀O,A=some O->∃g,O=⟨g,0,none⟩)/\nd.after.length<=c/\c<=maxLen:=by
 have hv:=Jv (H:=H) hw I;have hk:=(gfGet.1 Y).1;obtain⟨u,T⟩:∃u,x.vs[k]?=some u:=⟨x.vs[k]'am,by simp[hv,hk]⟩;obtain⟨F,h⟩:=qY (H:=H) hw I;have h1:=Star.mem (p:=fh x.vs x.ns) h cY;have hz:(x.vs.zip x.ns)[k]?=some (u,nd):=by simp[List.getElem?_zip_eq_some,Y,T]
 have h2:(bG u nd.after).sat w F:=Star.mem (l:=dg x.vs x.ns) h1 (List.mem_map.2 ⟨(u,nd),bY hz,rfl⟩);obtain⟨mt,J⟩:=h2.1;rcases J with⟨rfl,h0⟩|⟨g,cap,wf,rfl,_,hg,hm,hc,hs,ht⟩
 · exact⟨none,0,by rw[T,h0],λ_=>⟨h0,rfl⟩,λ_ I=>(by cases I),am,Nat.zero_le _⟩
 · exact⟨_,cap,T,λI=>(by cases I),λO I=>(by injection I with I;exact⟨g,I.symm⟩),hm,hc⟩
theorem xC {x:ND} (I:x∈ns) {g:Nat} {nd:FK.Node} {y:Int} (J:x.ns[k]?=some nd) (O:x.vs[k]?=some (dp g nd.after.length c)) (T:nd.after[j]?=some y):∀w,Holds E w l->cq ⟨g,0+j*1,none⟩ (aw y) w:=λw hw=>by
 obtain⟨F,h⟩:=qY (H:=H) hw I;have Y:=Star.mem (p:=fh x.vs x.ns) h cY;have hz:(x.vs.zip x.ns)[k]?=some (dp g nd.after.length c,nd):=by simp[List.getElem?_zip_eq_some,J,O]
 have h2:(bG (dp g nd.after.length c) nd.after).sat w F:=Star.mem (l:=dg x.vs x.ns) Y (List.mem_map.2 ⟨_,bY hz,rfl⟩);have h3:=mw (o:=0) (vs:=eu nd.after) h2 (λj u hj=>by rwa [Nat.zero_add]);have h4:=h3 j (aw y) (by simp[eu,T])
 rwa [Nat.mul_one]
end
theorem dF {l:List HP} {a:RfA} {ns:List ND} [H:HasRef l e a ns M r] (J:a.rg=some i):∀w,Holds E w l->cq ⟨e,2,none⟩ (dp i M.runs.length a.rc) w:=
 cg (by show some (iP a M)=_;unfold iP;rw[J];rfl)
theorem um {l:List HP} {a:RfA} {ns:List ND} [H:HasRef l e a ns M r] (J:a.qg=some i):∀w,Holds E w l->cq ⟨e,3,none⟩ (dp i M.KX.length a.qc) w:=
 cg (by show some (kS a M)=_;unfold kS;rw[J];rfl)
abbrev Kg (I:Nat) (a:RfA) (M:FR.En):HP:=row 150 8 (dp I M.runs.length a.rc) M.runs.length (gW a M.runs)
theorem qX {a:RfA} (J:a.rg=some i):jS a M=Kg i a M:=by unfold jS iP;rw[J];rfl
theorem iK {l:List HP} {a:RfA} {ns:List ND} [H:HasRef l e a ns M r]:Ent l (blk e 74 (pR a M)::jS a M::zW a M::ju a M.runs::r):=
 ((Ent.sel H.sel).trans (Ent.unall (m:=o9 e a ns M))).trans Ent.drop
theorem jd {a:RfA} {ns:List ND} (h:jx a ns M):Ent (blk e 74 (pR a M)::jS a M::zW a M::ju a M.runs::r) (aV e a ns M::r):=
 (Ent.pure h).trans (Ent.all (m:=o9 e a ns M))
theorem nW {A:Option Addr} (h:∀I,A=some I->∃g,I=⟨g,0,none⟩):∃o,A=zY o:=by
 cases A with
 | none=>exact⟨none,rfl⟩
 | some I=>obtain⟨g,rfl⟩:=h I rfl;exact⟨some g,rfl⟩
theorem F8 {l:List FR.Rn} {u':FR.Rn} (hi:l[i]?=some u):∃I J,l=I++u::J/\l.set i u'=I++u'::J:=by
 have O:=(gfGet.1 hi).1;refine⟨l.take i,l.drop (i+1),?_,by rw[List.set_eq_take_append_cons_drop,if_pos O]⟩;have e:l[i]=u:=(gfGet.1 hi).2;rw[<-e,<-List.drop_eq_getElem_cons O,List.take_append_drop]
theorem Ent.rfOpen {a:RfA} {I J:List FR.Rn}:Ent (ju a (I++u::J)::r) (iB a u::ju a (I++J)::r):=by
 refine(Ent.unall (m:=(I++u::J).map (iB a))).trans ?_;have O:=(List.perm_middle (a:=u) (l₁:=I) (l₂:=J)).map (iB a);rw[List.map_cons] at O;exact(Ent.perm (O.append_right r)).trans (Ent.cons (Ent.all (m:=(I++J).map (iB a))))
theorem zT {a:RfA} {I J:List FR.Rn}:Ent (iB a u::ju a (I++J)::r) (ju a (I++u::J)::r):=by
 refine(Ent.cons (Ent.unall (m:=(I++J).map (iB a)))).trans ?_;have O:=((List.perm_middle (a:=u) (l₁:=I) (l₂:=J)).map (iB a)).symm;rw[List.map_cons] at O;exact(Ent.perm (O.append_right r)).trans (Ent.all (m:=(I++u::J).map (iB a)))
section
variable {l:List HP} {pos:String} {t:TypeId} {x y:Operand} {a:RfA} {ns:List ND} [H:HasRef l e a ns M r]
section
variable {u':FR.Rn} {s':FR.St}
theorem rH {M':FR.En} (J:df P t 1) (O:ev ts x=some (.pointer (some ⟨e,i,none⟩))) (T:ev ts y=some v) (hi:i<8) (Y:v.oneCell'=true) (I:(pR a M).setIfInBounds i v=pR a M') (hr:M'.runs=M.runs) (hq:M'.KX=M.KX)
 (hk:At E n D ts (aV e a ns M'::r) K):At E n D ts l (λac w=>(Oper.mk none (.store t x y) ty pos af g).wp P ac w K Q):=by
 refine aq (Ent.sel H.sel)<|bH ?_
 refine aq gfE1 ?_;refine co (b:=e) (cs:=pR a M) Z J O T Y (by simpa using hi) ?_;rw[I];refine aq ?_ hk;refine gfE1.trans ?_;refine Ent.trans ?_<|Ent.all (m:=o9 e a ns M')
 unfold o9 jx jS zW iP kS;rw[hr,hq];exact aT
theorem xw (h:jx a ns M) (hi:M.runs[i]?=some u) (I:u'.id=u.id) (J:u'.fl=u.fl):jx a ns (M.setR i u'):=λv T=>by
 rcases List.mem_or_eq_of_mem_set T with O|O
 · exact h v O
 · rw[O,I,J]
   exact h u<|bY hi
theorem CA (i:Nat) (u':FR.Rn):pR a (M.setR i u')=pR a M:=by
 unfold pR iP kS;have I:(M.setR i u').runs.length=M.runs.length:=by simp[FR.En.setR]
 rw[I]
 rfl
theorem uL (O:a.rg=some k) (i:Nat) (u':FR.Rn):jS a (M.setR i u')=row 150 8 (dp k M.runs.length a.rc) M.runs.length (gW a (M.setR i u').runs):=by
 unfold jS iP;have I:(M.setR i u').runs.length=M.runs.length:=by simp[FR.En.setR]
 rw[O,I]
 rfl
theorem Jw {o:Nat} (hi:M.runs[i]?=some u) (hg:a.rg=some d) (hz:df P t 1) (hx:ev ts x=some (.pointer (some ⟨d,o,none⟩))) (hy:ev ts y=some v) (ho:o=0+i*8+j) (hj:j<8) (hv:v.oneCell'=true) (I:u'.id=u.id) (Y:u'.KV=u.KV) (mt:u'.fl=u.fl) (J:(gT (a.ra u.id) u).set j v=gT (a.ra u.id) u')
 (hk:At E n D ts (aV e a ns (M.setR i u')::r) K):At E n D ts l (λac w=>(Oper.mk none (.store t x y) ty pos af g).wp P ac w K Q):=by
 have BT:=(gfGet.1 hi).1;refine bt (p:=jx a ns M) (λw hw=>l8 hw) λwf=>?_;refine aq (Ent.sel H.sel)<|bH ?_
 have O:jS a M=row 150 8 (dp d M.runs.length a.rc) M.runs.length (gW a M.runs):=by unfold jS iP;rw[hg];rfl
 unfold o9;rw[O];refine fD de hz hx hy hv am ?_;refine aq ?_ hk;subst ho;have h1:(gW a M.runs).set (0+i*8+j) v=gW a (M.setR i u').runs:=uY (k:=8) am (λ_=>rfl) hi hj (by rw[I];exact J);rw[h1];have hS:ju a (M.setR i u').runs=ju a M.runs:=by
  have:(M.setR i u').runs.map (iB a)=M.runs.map (iB a):=by
   unfold FR.En.setR;simp only[List.map_set];have e1:iB a u'=iB a u:=by unfold iB jg;rw[I,Y]
   rw[e1];refine List.ext_getElem? λm=>?_;rw[List.getElem?_set]
   split
   · rename_i hm
     subst hm;rw[if_pos (by simpa using BT),List.getElem?_map,hi]
     rfl
   · rfl
  unfold ju;rw[this]
 refine Ent.trans ?_<|Ent.all (m:=o9 e a ns (M.setR i u'))
 unfold o9;rw[uL hg,CA,hS];exact((bo de .head).trans (Ent.cons (Ent.cons Ent.drop))).trans (Ent.pure (xw wf hi I mt))
theorem Bc (T:jx a ns M) (hi:M.runs[i]?=some u) (hg:a.rg=some d) {J O:List FR.Rn} (h1:M.runs=J++u::O) (h2:M.runs.set i (u.setS k s')=J++u.setS k s'::O) {r:List HP}:Ent (row 194 7 (jg (a.ra u.id) u) u.KV.length (zV (u.KV.set k s'))::HP.pure (jx a ns M)::blk e 74 (pR a M)::jS a M::zW a M::ju a (J++O)::r) (aV e a ns (M.setR i (u.setS k s'))::r):=by
 refine Ent.trans ?_<|Ent.all (m:=o9 e a ns (M.setR i (u.setS k s')))
 unfold o9;have I:jS a M=row 150 8 (dp d M.runs.length a.rc) M.runs.length (gW a M.runs):=by unfold jS iP;rw[hg];rfl
 have hl:(u.setS k s').KV.length=u.KV.length:=by simp[FR.Rn.setS]
 have Y:gW a (M.setR i (u.setS k s')).runs=gW a M.runs:=by
  have e1:gT (a.ra (u.setS k s').id) (u.setS k s')=gT (a.ra u.id) u:=by unfold gT jg;rw[hl];rfl
  show(M.runs.set i (u.setS k s')).flatMap _=M.runs.flatMap _;rw[h2,h1,List.flatMap_append,List.flatMap_append,List.flatMap_cons,List.flatMap_cons,e1]
 rw[uL hg,Y,CA,I];have mt:iB a (u.setS k s')=row 194 7 (jg (a.ra u.id) u) u.KV.length (zV (u.KV.set k s')):=by unfold iB jg;rw[hl];rfl
 have wf:(M.setR i (u.setS k s')).runs=J++u.setS k s'::O:=h2;rw[wf];refine(gfE1.trans Ent.drop).trans ?_;refine Ent.trans ?_<|Ent.pure<|xw (u':=u.setS k s') T hi Z Z
 refine(cF bJ bJ bJ).trans (Ent.cons (Ent.cons (Ent.cons ?_)));rw[<-mt];exact zT
theorem iC {o:Nat} (hi:M.runs[i]?=some u) (J:u.id=id) (Y:u.KV[k]?=some s) (hz:df P t 1) (hx:ev ts x=some (.pointer (some ⟨(a.ra id).gs,o,none⟩))) (hy:ev ts y=some v) (ho:o=0+k*7+j) (hj:j<7) (hv:v.oneCell'=true) (I:(qQ s).set j v=qQ s')
 (hk:At E n D ts (aV e a ns (M.setR i (u.setS k s'))::r) K):At E n D ts l (λac w=>(Oper.mk none (.store t x y) ty pos af g).wp P ac w K Q):=by
 subst J;have mt:=(gfGet.1 Y).1;refine bt (p:=jx a ns M) (λw hw=>l8 hw) λO=>?_;refine bt (p:=∃g,a.rg=some g) (λw hw=>gY hi hw) λ⟨gr,hg⟩=>?_;obtain⟨l1,l2,h1,h2⟩:=F8 (u':=u.setS k s') hi;refine aq (Ent.sel H.sel)<|bH ?_
 have T:ju a M.runs=ju a (l1++u::l2):=by rw[h1]
 unfold o9;rw[T];refine aq (gfE4.trans Ent.rfOpen) ?_;refine fD .head hz hx hy hv am ?_;refine aq ?_ hk;subst ho;rw[uY (k:=7) am (λ_=>rfl) Y hj I];exact(Ent.cons ((cF bJ bJ bJ).trans (Ent.cons (Ent.cons (Ent.cons gfE1))))).trans (Bc O hi hg h1 h2)
end
end
end Go.Y
variable {ns:List Go.Y.ND} {a:Go.Y.RfA}
namespace Go.Y
open Go.Proofs Go.RowKit Go.SL
theorem jJ (now:Nat) (span:Int) (J:now<=4611686018427387904) (K:0<=span) (h3:span<=4611686018427387904):dx G 117 [.int .u64 (now:Int),aw span] [] λv m=>v=.int .u64 ((min (now+span.toNat) 4611686018427387904:Nat):Int)/\m=[]:=by
 refine bA Tryz.func117 Z λE fr O=>aZ<|sS<|sB Z<|bq Z<|ch Z (dN (r:=span) Z Z Z (by rw[km];omega))<|sP (bc (r:=((now+span.toNat:Nat):Int)) Z Z (by rw[km];omega))<|sB Z<|sQ<|bq Z<|sP (dY Z Z Z) ?_
 refine sN ?_;refine aB Z (λI=>?_) λI=>?_
 ·
  refine sG<|sB Z<|bq Z<|sB Z<|an ?_
  exact ar [] rfl Z ⟨by congr 1;omega,rfl⟩ aT
 ·
  refine ae<|sT<|bq Z<|sB Z<|an ?_
  exact ar [] rfl Z ⟨by congr 1;omega,rfl⟩ aT
theorem jI (h:M.timers<9223372036854775807):dx G 118 [aX e] [aV e a ns M] λv m=>v=aw ((M.timers+1:Nat):Int)/\m=[aV e a ns {M with timers:=M.timers+1}]:=by
 refine bA Tryz.func118 Z λE fr I=>aa<|sS<|sB Z<|sS<|cG 6 Z Z<|bF (au (v:=aw (M.timers:Int)) Z) (cg Z)<|sP (bc (r:=((M.timers+1:Nat):Int)) Z Z dP)<|da Z<|bn 6 Z ?_
 refine sO<|rH (a:=a) (M:=M) (M':={M with timers:=M.timers+1}) Z Z Z am Z Z Z Z ?_
 exact sN<|sS<|cG 6 Z Z<|bF (au (v:=aw ((M.timers+1:Nat):Int)) Z) (cg Z)<|sB Z<|an<|ar [aV e a ns {M with timers:=M.timers+1}] rfl Z ⟨rfl,rfl⟩ aT
theorem tg (id:Nat) (h:M.runs.length<=100):dx G 120 [aX e,aQ id] [aV e a ns M] λv m=>((∃(i:Nat) (u:FR.Rn),M.runs[i]?=some u/\u.id=id/\v=aw (i:Int))\/(∀u∈M.runs,u.id≠id)/\v=aw (-1))/\m=[aV e a ns M]:=by
 refine bA Tryz.func120 Z λE fr hE=>aa<|sS<|sB Z<|sQ<|sS<|sB Z<|ag ?_
 refine aO (X:=Nat) (λk=>[(5,aw k),(0,aX e),(1,aQ id)]) (λ_=>aV e a ns M::fr) (λk=>k<=M.runs.length/\∀(j:Nat) (u:FR.Rn),j<k->M.runs[j]?=some u->u.id≠id) (λk=>M.runs.length-k) 0 ⟨Nat.zero_le _,λj u h=>by omega⟩ bV aT ?_;rintro k ⟨hk,hno⟩;refine sQ<|bq Z<|cG 2 Z Z<|bF (au (v:=iP a M) Z) (cg Z)<|sP (bp Z Z)<|sP (bz Z Z Z)<|sN ?_
 refine aB Z (λI=>?_) λI=>?_
 ·
  have K:k<M.runs.length:=by have:(k:Int)<(M.runs.length:Int):=I;omega
  obtain⟨u,T⟩:∃u,M.runs[k]?=some u:=⟨M.runs[k],by simp[K]⟩;refine bt (p:=∃g,a.rg=some g) (λw hw=>gY T hw) λ⟨gr,hg⟩=>?_;refine ae<|sT<|sQ<|ag<|sS<|cG 2 Z Z<|bF (au (v:=dp gr M.runs.length a.rc) Z) (dF hg)<|ch Z (aS (z:=8) Z Z Z Z K)<|bn 0 Z<|bF (au (v:=aQ u.id) Z) (cE (j:=0) T hg Z)<|ch Z (aY Z Z Z)<|sN ?_
  refine aB Z (λJ=>?_) λJ=>?_
  ·
   refine bq Z<|sB Z<|an<|aH<|aC<|bP<|aH<|aC ?_
   exact ar [aV e a ns M] rfl Z ⟨.inl ⟨k,u,T,by have:(u.id:Int)=(id:Int):=J;omega,rfl⟩,rfl⟩ aT
  ·
   refine ae<|al<|sT<|sG<|ch Z (bc (r:=((k+1:Nat):Int)) Z Z dP)<|sA Z<|ao ?_
   exact aE (k+1) ⟨K,λj v O Y=>(by
    rcases Nat.lt_succ_iff_lt_or_eq.1 O with O|rfl
    · exact hno j v O Y
    · rw[T] at Y;injection Y with Y;subst Y;have:¬(u.id:Int)=(id:Int):=J;omega)⟩ am ⟨rfl,rfl,rfl,trivial⟩ aT
 ·
  have mt:k=M.runs.length:=by have:¬(k:Int)<(M.runs.length:Int):=I;omega
  refine aL<|aA<|az<|ap<|sT<|sS<|sB Z<|an ?_
  exact ar [aV e a ns M] rfl rfl ⟨.inr ⟨λu T=>(by obtain⟨j,O⟩:=List.getElem?_of_mem T;exact hno j u (by rw[mt];exact(gfGet.1 O).1) O),rfl⟩,rfl⟩ aT
theorem ri:fd Tryz.prog 197 (.agg #[.int .u64 0,aw 0]) 2 16:=by unfold fd;kernel_rfl
theorem xX (x:Operand) (p:Nat×Int):Instr.fill (λi=>some (i*2,2)) (Array.map (λx=>(Value.agg #[.int .u64 0,aw 0]).cells[x%(Value.agg #[.int .u64 0,aw 0]).cells.size]!) (Array.range (1*2))) ((List.map (λx=>x.fst) [((0:Nat),x)]).zip [.agg (iN p).toArray])=some (iN p).toArray:=by
 have e1:Array.range (1*2)=#[0,1]:=rfl;rw[e1];simp[Instr.fill,Value.cells]
abbrev RfA.q (a:RfA) (g:Option Nat) (c:Nat):RfA:={a with qg:=g,qc:=c}
theorem pY (hi:M.runs[i]?=some u) (hs:u.KV[k]?=some s) (hq:M.KX.length<=1000):dx G 126 [aX e,aw i,aw k] [aV e a ns M] λv m=>v=.tuple #[]/\∃g c,m=[aV e (a.q g c) ns (M.ready i k u s)]:=by
 have T:=(gfGet.1 hi).1;have K3:=(gfGet.1 hs).1;refine bA Tryz.func126 Z λE fr hE=>aa ?_;refine bt (p:=∃g,a.rg=some g) (λw hw=>gY hi hw) λ⟨gr,O⟩=>?_;refine sS<|cG 2 Z Z<|bF (au (v:=dp gr M.runs.length a.rc) Z) (dF O)<|ch Z (aS (z:=8) Z Z Z Z T)<|bn 6 Z<|bF (au (v:=jg (a.ra u.id) u) Z) (cE (j:=6) hi O Z)<|ch Z (aS (z:=7) Z Z Z Z K3)<|bn 0 Z ?_
 refine sO<|iC (j:=0) (s':={s with state:=2}) hi Z hs Z Z Z Z am Z Z ?_
 refine sN ?_;obtain⟨I,K⟩:∃I,I=M.setR i (u.setS k {s with state:=2}):=⟨_,rfl⟩;rw[<-K];obtain⟨J,wf⟩:∃J,J=u.setS k {s with state:=2}:=⟨_,rfl⟩;have Y:I.runs[i]?=some J:=by rw[K,wf];unfold FR.En.setR;simp[T]
 have K4:J.id=u.id:=by rw[wf];rfl
 have mt:I.runs.length=M.runs.length:=by rw[K];simp[FR.En.setR]
 have BT:I.KX=M.KX:=by rw[K];rfl
 refine sZ Z<|dT Z Z<|cv Z Z<|dt 3 Z Z Z<|bQ Z (au (v:=kS a I) Z) (cg Z)<|cv Z Z<|dt 2 Z Z Z<|bQ Z (au (v:=dp gr I.runs.length a.rc) Z) (dF O)<|cv Z Z ?_
 refine dj 10 Z (aS (z:=8) Z Z Z Z (by rw[mt];exact T)) ?_;refine dj 11 Z (bl 0 Z)<|bQ Z (au (v:=aQ J.id) Z) (cE (j:=0) Y O Z)<|cv Z Z<|bC Z (bI (cs:=(iN (J.id,(k:Int))).toArray) Z Z Z Z Z) ?_
 refine dA 15 Z (dh (m:=1) (z:=.agg #[.int .u64 0,aw 0]) (size:=2) (ps:=[(0,.tmp 31)]) (vs:=[.agg (iN (J.id,(k:Int))).toArray]) (cs:=(iN (J.id,(k:Int))).toArray) Z Z Z Z am am Z (xX _ _) λK6=>?_);refine dK [true,true,true] (ai (cE (j:=0) Y O Z) (ai (dF O) (ai (cg Z) ak))) ?_;refine bt (p:=jx a ns I) (λw hw=>l8 hw) λFd=>?_;refine aq (iK (a:=a) (M:=I)) ?_;rw[qX O];refine dR 16 rfl rfl (bZ rfl rfl ri rfl am rfl rfl de (news:=iN (J.id,(k:Int))) rfl (λh=>by cases h) (eO (λj u h=>by simpa using h)) er (by unfold maxLen;rw[BT];omega) (by rw[BT];omega) λK7 K5=>?_);refine dK [true,true,false] (ai (fX (em (k:=8) (f:=λr:FR.Rn=>gT (a.ra r.id) r) (λ_=>rfl) Y 0 _ Z)) (ai (ah (show some (iP a I)=_ by unfold iP;rw[O];rfl)) ak)) ?_;refine dj 17 Z (cI Z)<|bC Z (bl 3 Z) (aK .head λA c hA K8 In _ _ _=>?_)
 obtain⟨o,rfl⟩:=nW In;subst hA;refine dA 19 Z<|co (b:=e) (cs:=pR a I) Z Z Z Z Z cY ?_
 refine dK [false,false] ak<|dE<|bD [aV e (a.q o c) ns (M.ready i k u s)] rfl ⟨rfl,o,c,rfl⟩ ?_
 have hR:M.ready i k u s={I with KX:=I.KX++[(J.id,(k:Int))]}:=by rw[K,K4];rfl
 have hL:(I.KX++[(J.id,(k:Int))]).length=I.KX.length+1:=by simp
 rw[hR];refine Ent.trans ?_<|jd Fd
 unfold zW kS pR kS;simp only[hL,List.flatMap_append];rw[qX O];exact Ent.cons<|gfE1.trans<|Ent.cons<|Ent.cons<|Ent.cons Ent.drop
theorem Bg (id:Nat) (hq:M.KX.length<=1000):dx G 187 [aX e,aQ id] [aV e a ns M] λv m=>v=.tuple #[]/\∃g c,m=[aV e (a.q g c) ns (M.drop id)]:=by
 obtain⟨J,K⟩:∃J:Nat->List (Nat×Int),J=λk=>(M.KX.take k).filter λp=>p.1 !=id:=⟨_,rfl⟩;have mt:∀k,(J k).length<=1000:=λk=>by
  rw[K];have h1:=List.length_filter_le (λp:Nat×Int=>p.1 !=id) (M.KX.take k);have h2:(M.KX.take k).length<=M.KX.length:=by rw[List.length_take];omega
  simp only;omega
 refine bA Tryz.func187 Z λE fr hE=>aa<|sS<|sB Z<|sQ<|sS<|sB Z<|ag ?_
 refine aO (X:=Nat×Value) (λx=>[(5,aw x.1),(4,x.2),(0,aX e),(1,aQ id)]) (λx=>row 197 2 x.2 (J x.1).length ((J x.1).flatMap iN)::aV e a ns M::fr) (λx=>x.1<=M.KX.length) (λx=>M.KX.length-x.1) (0,cx) (Nat.zero_le _) bV (by rw[K];exact Ent.row0) ?_;rintro⟨k,v4⟩ hk;replace hk:k<=M.KX.length:=hk;refine aq (l':=row 197 2 v4 (J k).length ((J k).flatMap iN)::aV e a ns M::fr) aT ?_;refine sQ<|bq Z<|cG 3 Z Z<|bF (au (v:=kS a M) Z) (cg Z)<|sP (bp Z Z)<|sP (bz Z Z Z)<|sN ?_
 refine aB Z (λO=>?_) λO=>?_
 ·
  have I:k<M.KX.length:=by have:(k:Int)<(M.KX.length:Int):=O;omega
  obtain⟨u,hu⟩:∃u,M.KX[k]?=some u:=⟨M.KX[k],by simp[I]⟩;have hs:J (k+1)=J k++[u].filter λp=>p.1 !=id:=by rw[K];simp only;rw[List.take_add_one,hu,List.filter_append];rfl
  refine bt (p:=∃g,a.qg=some g) (λw hw=>Ci hu hw) λ⟨gr,hg⟩=>?_;refine ae<|sT<|sQ<|ag<|sS<|cG 3 Z Z<|bF (au (v:=dp gr M.KX.length a.qc) Z) (um hg)<|ch Z (aS (z:=2) Z Z Z Z I)<|bn 0 Z ?_
  refine bF (au (v:=aQ u.1) Z) (λw hw=>HU hu hg w hw 0 _ Z) ?_;refine ch Z (dc Z Z Z)<|sN ?_
  refine aB Z (λT=>?_) λT=>?_
  ·
   have Y:([u].filter λp=>p.1 !=id)=[u]:=by have h:(u.1:Int)≠(id:Int):=T;have h:u.1≠id:=am;simp[h]
   rw[Y] at hs;refine sG<|sM Z<|cG 3 Z Z<|bF (au (v:=dp gr M.KX.length a.qc) Z) (um hg)<|ch Z (aS (z:=2) Z Z Z Z I)<|bF (bO (vs:=iN u) Z) (HU hu hg) ?_
   refine sO (dh (m:=1) (z:=.agg #[.int .u64 0,aw 0]) (size:=2) (ps:=[(0,.tmp 32)]) (vs:=[.agg (iN u).toArray]) (cs:=(iN u).toArray) Z Z Z Z am am Z (xX _ _) λK4=>?_);refine dq rfl (bZ rfl rfl ri rfl am rfl rfl (HasVal.sel (v:=v4)) (news:=iN u) rfl (λh=>by cases h) (eO (λj u h=>by simpa using h)) er (by have:=mt k;unfold maxLen;omega) (by have:=mt k;omega) λwf K3=>?_);refine sA Z<|ao<|al<|sT<|sG<|ch Z (bc (r:=((k+1:Nat):Int)) Z Z dP)<|sA Z<|ao ?_
   exact aE (k+1,wf) I (by show M.KX.length-(k+1)<M.KX.length-k;omega) bV (by
    simp only[hs,List.flatMap_append,List.length_append];exact Ent.cons (gfE1.trans (Ent.cons Ent.drop)))
  ·
   have Y:([u].filter λp=>p.1 !=id)=[]:=by have h:¬(u.1:Int)≠(id:Int):=T;have h:u.1=id:=am;simp[h]
   rw[Y,List.append_nil] at hs;refine ae<|al<|sT<|sG<|ch Z (bc (r:=((k+1:Nat):Int)) Z Z dP)<|sA Z<|ao ?_
   exact aE (k+1,v4) I (by show M.KX.length-(k+1)<M.KX.length-k;omega) bV (by
    simp only[hs];exact aT)
 ·
  have In:k=M.KX.length:=by have:¬(k:Int)<(M.KX.length:Int):=O;omega
  have hD:J k=(M.drop id).KX:=by rw[K,In];simp only[List.take_length];rfl
  rw[hD];refine aL<|aA<|az<|ap<|sT<|sG<|sM Z<|cG 3 Z Z ?_
  refine bt (p:=jx a ns M) (λw hw=>l8 hw) λBT=>?_;refine aq (iK (a:=a) (M:=M)) ?_;refine aK kT λA c hA K5 Fd _ _ _=>?_;obtain⟨o,rfl⟩:=nW Fd;subst hA;refine sO<|co (b:=e) (cs:=pR a M) Z Z Z Z Z cY ?_
  refine ao<|bD [aV e (a.q o c) ns (M.drop id)] rfl ⟨rfl,o,c,rfl⟩ ?_
  refine Ent.trans ?_<|jd BT
  exact Ent.cons<|Ent.cons<|Ent.drop.trans gfE1
end Go.Y
namespace FR
theorem wakeK_on {r:Rn} (hi:M.runs[i]?=some r) (k:Nat):∃r',(En.wakeK i M k).runs[i]?=some r'/\r'.id=r.id/\r'.fl=r.fl/\r'.KV.length=r.KV.length/\(En.wakeK i M k).KX.length<=M.KX.length+1:=by
 unfold En.wakeK;rw[hi];simp only
 split
 · split
   · refine⟨_,xz hi,rfl,rfl,by simp[Rn.setS],?_⟩
     unfold En.ready;simp
   · exact⟨r,hi,rfl,rfl,rfl,Nat.le_succ _⟩
 · exact⟨r,hi,rfl,rfl,rfl,Nat.le_succ _⟩
theorem wakeN_on {M:En} {i:Nat} {r:Rn} (hi:M.runs[i]?=some r):∀n,∃r',(M.wakeN i n).runs[i]?=some r'/\r'.id=r.id/\r'.fl=r.fl/\r'.KV.length=r.KV.length/\(M.wakeN i n).KX.length<=M.KX.length+n
 | 0=>⟨r,hi,rfl,rfl,rfl,cu _⟩
 | n+1=>by
  obtain⟨r1,E,I,h3,J,h5⟩:=wakeN_on hi n;obtain⟨K,O,T,Y,k4,k5⟩:=wakeK_on E n;rw[wakeN_succ];exact⟨K,O,T.trans I,Y.trans h3,k4.trans J,am⟩
end FR
namespace Go.Y
open Go.Proofs
open Go Go.RowKit Go.SL
theorem s9 (hi:M.runs[i]?=some u) (T:u.KV.length=u.fl.KW.length) (K8:tU u.fl) (hn:u.fl.KW.length<=12) (hq:M.KX.length<=500):dx G 119 [aX e,aw i] [aV e a ns M,bx ns] λv m=>v=.tuple #[]/\∃g c,m=[aV e (a.q g c) ns (M.wakeN i u.KV.length),bx ns]:=by
 have Ln:=(gfGet.1 hi).1;refine bA Tryz.func119 Z λE fr hE=>aD ?_;refine bt (p:=∃g,a.rg=some g) (λw hw=>gY hi hw) λ⟨gr,hg⟩=>?_;refine bt (p:=jx a ns M) (λw hw=>l8 hw) λLh=>?_;obtain⟨J,K5⟩:=Lh u (bY hi);refine sS<|cG 2 Z Z<|bF (au (v:=dp gr M.runs.length a.rc) Z) (dF hg)<|ch Z (aS (z:=8) Z Z Z Z Ln)<|bF (bO (vs:=gT (a.ra u.id) u) Z) (kX hi hg)<|sO (cH (z:=.agg #[.int .u64 0,aw 0,cx,aw 0,.int .u64 0,aw 0,cx,aw 0]) Z λb4=>?_)
 refine sO<|bh (vs:=gT (a.ra u.id) u) Z (m:=8) Z Z Z Z er (by show 0+8<=8;omega) ?_
 refine aG b4 (gT (a.ra u.id) u).toArray Z<|sN<|sS<|sB Z<|ag ?_
 refine aO (X:=Nat×Option Nat×Nat) (λx=>[(5,aw x.1),(4,aX b4),(0,aX e),(1,aw i)]) (λx=>blk b4 150 (gT (a.ra u.id) u).toArray::aV e (a.q x.2.1 x.2.2) ns (M.wakeN i x.1)::bx ns::fr) (λx=>x.1<=u.KV.length) (λx=>u.KV.length-x.1) (0,a.qg,a.qc) (Nat.zero_le _) bV aT ?_;rintro⟨k,qg,qc⟩ hk;replace hk:k<=u.KV.length:=hk;refine sQ<|bq Z<|bn 6 Z<|bF (au (v:=jg (a.ra u.id) u) Z) (ah Z)<|sP (bp Z Z)<|sP (bz Z Z Z)<|sN ?_
 refine aB Z (λFd=>?_) λFd=>?_
 ·
  have I:k<u.KV.length:=by have:(k:Int)<(u.KV.length:Int):=Fd;omega
  obtain⟨K,mt,K9,Li,Lj,Ls⟩:=FR.wakeN_on hi k;obtain⟨s,hs⟩:∃s,K.KV[k]?=some s:=⟨K.KV[k]'am,by simp[Lj,I]⟩;obtain⟨nd,hnd⟩:∃nd,u.fl.KW[k]?=some nd:=⟨u.fl.KW[k]'am,by simp[<-T,I]⟩;have Ld:K.ab.fl.KW[k]?=some nd:=by show K.fl.KW[k]?=_;rw[Li];exact hnd
  have O:(a.ra u.id).nd.ns[k]?=some nd:=by rw[K5];exact hnd
  have Y:=FK.nr (FR.fI hs) Ld;have K7:M.wakeN i (k+1)=if FK.jO K.ab k then(M.wakeN i k).ready i k K s else M.wakeN i k:=by
   rw[FR.wakeN_succ];unfold FR.En.wakeK;rw[mt];simp only[hs]
  refine ae<|sT<|sQ<|ag<|sQ<|sS<|bn 6 Z<|bF (au (v:=jg (a.ra u.id) u) Z) (ah Z)<|ch Z (aS (z:=7) Z Z Z Z I)<|bn 0 Z<|bF (au (v:=aw s.state) Z) (dH (a:=a.q qg qc) (j:=0) mt K9 hs Z)<|sP (dc Z Z Z)<|sN ?_
  refine aB Z (λIn=>?_) λIn=>?_
  ·
   have Lo:s.state≠1:=In;refine aL<|aA<|ap<|sT<|sG<|ch Z (bc (r:=((k+1:Nat):Int)) Z Z dP)<|sA Z<|ao ?_
   exact aE (k+1,qg,qc) I (by show u.KV.length-(k+1)<u.KV.length-k;omega) bV (by
    have h0:(s.ab.state==1)=false:=by simpa[FR.St.ab] using Lo
    have h1:FK.jO K.ab k=false:=by rw[Y,h0];rfl
    show Ent _ (_::aV e (a.q qg qc) ns (M.wakeN i (k+1))::_);rw[K7,if_neg (by rw[h1];decide)];exact aT)
  ·
   have hs1:s.state=1:=by have h:¬s.state≠1:=In;omega
   refine bt (λw hw=>rM J O hw) λhA=>?_;obtain⟨A,c,K6,Ll,Lm,Lt,Lb⟩:=hA;replace Lb:c<=9223372036854775807:=Lb;refine ae<|sT<|sS<|sB Z<|sQ<|sS<|sB Z<|ag ?_
   refine aO (X:=Nat×Bool) (λx=>[(7,aw x.1),(6,.bool x.2),(5,aw k),(4,aX b4),(0,aX e),(1,aw i)]) (λ_=>blk b4 150 (gT (a.ra u.id) u).toArray::aV e (a.q qg qc) ns (M.wakeN i k)::bx ns::fr) (λx=>x.1<=nd.after.length/\x.2=(nd.after.take x.1).all λy=>FK.cO K.ab.KV y.toNat 5) (λx=>nd.after.length-x.1) (0,true) ⟨Nat.zero_le _,rfl⟩ bV aT ?_;rintro⟨j,b⟩ ⟨hj,wf⟩;replace hj:j<=nd.after.length:=hj;replace wf:b=(nd.after.take j).all λy=>FK.cO K.ab.KV y.toNat 5:=wf;refine sQ<|bq Z<|bn 1 Z<|bn 1 Z<|bF (au (v:=(a.ra u.id).nd.nv) Z) (ah Z)<|sM Z ?_
   refine sP (aS (z:=7) Z Z Z Z (show k<(a.ra u.id).nd.ns.length by rw[K5,<-T];exact I)) ?_;refine bn 6 Z<|bF (au (v:=.slice A nd.after.length c) Z) (qZ (j:=6) J O K6 Z)<|sP (bp Z Z)<|sP (bz Z Z Z)<|sN ?_
   refine aB Z (λK3=>?_) λK3=>?_
   ·
    have BT:j<nd.after.length:=by have:(j:Int)<(nd.after.length:Int):=K3;omega
    obtain⟨g,rfl⟩:∃g,A=some ⟨g,0,none⟩:=by
     cases A with
     | none=>have:=(Ll rfl).1;omega
     | some ad=>obtain⟨g,rfl⟩:=Lm ad rfl;exact⟨g,rfl⟩
    obtain⟨x,hx⟩:∃x,nd.after[j]?=some x:=⟨nd.after[j],by simp[BT]⟩;obtain⟨Lu,Lv⟩:=K8 nd (bY hnd) x (bY hx);obtain⟨y,rfl⟩:∃y:Nat,x=(y:Int):=⟨x.toNat,am⟩;obtain⟨s2,Lc⟩:∃s2,K.KV[y]?=some s2:=⟨K.KV[y]'am,by simp⟩;have Lp:y<u.KV.length:=am;have Le:((nd.after.take (j+1)).all λy=>FK.cO K.ab.KV y.toNat 5)=(b&&decide (s2.state=5)):=by
     rw[List.take_add_one,hx,List.all_append,<-wf];have:FK.cO K.ab.KV y 5=decide (s2.state=5):=by rw[FK.fk (FR.fI Lc)];rfl
     simp[this]
    refine ae<|sT<|sQ<|ag ?_
    by_cases hb:b=true
    ·
     subst hb;refine sZ Z<|dT Z Z<|cv Z Z<|dv 2 Z (bl 6 Z)<|mg 3 Z (au (v:=jg (a.ra u.id) u) Z) (ah Z)<|dv 4 Z (bl 1 Z)<|dv 5 Z (bl 1 Z)<|mg 6 Z (au (v:=(a.ra u.id).nd.nv) Z) (ah Z)<|dv 7 Z (bd Z) ?_
     refine dv 8 Z (aS (z:=7) Z Z Z Z (show k<(a.ra u.id).nd.ns.length by rw[K5,<-T];exact I)) ?_;refine dv 9 Z (bl 6 Z)<|mg 10 Z (au (v:=dp g nd.after.length c) Z) (qZ (j:=6) J O K6 Z)<|dv 11 Z (bd Z)<|dv 12 Z (aS (z:=1) Z Z Z Z BT)<|mg 13 Z (au (v:=aw (y:Int)) Z) (xC J O K6 hx)<|dv 14 Z (aS (z:=7) Z Z Z Z Lp)<|dv 15 Z (bl 0 Z)<|mg 16 Z (au (v:=aw s2.state) Z) (dH (a:=a.q qg qc) (j:=0) mt K9 Lc Z)<|dv 17 Z (aY (r:=decide (s2.state=5)) Z Z Z)<|bC Z (aF Z Z Z)<|bC Z (aU Z)<|dE<|al<|sT<|sG<|ch Z (bc (r:=((j+1:Nat):Int)) Z Z dP)<|sA Z<|ao ?_
     exact aE (j+1,_) ⟨BT,Le.symm⟩ (by show nd.after.length-(j+1)<nd.after.length-j;omega) bV aT
    ·
     have hb:b=false:=by simpa using hb
     subst hb;refine sZ Z<|dT Z Z<|cv Z Z<|dy 2 Z Z<|dy 3 Z Z<|dy 4 Z Z<|dy 5 Z Z<|dy 6 Z Z<|dy 7 Z Z<|dy 8 Z Z<|dy 9 Z Z<|dy 10 Z Z<|dy 11 Z Z<|dy 12 Z Z<|dy 13 Z Z<|dy 14 Z Z<|dy 15 Z Z<|dy 16 Z Z<|dy 17 Z Z<|bC Z (aF Z Z Z) ?_
     refine dj 19 Z (aU Z)<|dE<|al<|sT<|sG<|ch Z (bc (r:=((j+1:Nat):Int)) Z Z dP)<|sA Z<|ao ?_
     exact aE (j+1,_) ⟨BT,Le.symm⟩ (by show nd.after.length-(j+1)<nd.after.length-j;omega) bV aT
   ·
    have Lq:j=nd.after.length:=by have:¬(j:Int)<(nd.after.length:Int):=K3;omega
    have Lg:FK.jO K.ab k=b:=by
     rw[Y,wf,Lq,List.take_length];have:(s.ab.state==1)=true:=by simpa[FR.St.ab] using hs1
     rw[this,Bool.true_and]
    refine aL<|aA<|az<|ap<|sT<|bq Z<|sN ?_
    refine ce Z (λK4=>?_) λK4=>?_
    ·
     refine sG<|sM Z<|sM Z<|sM Z ?_
     refine bU Z (pY mt hs am) gfE1 ?_;rintro v m ⟨rfl,g1,c1,rfl⟩;refine aa<|ao<|al<|sT<|sG<|ch Z (bc (r:=((k+1:Nat):Int)) Z Z dP)<|sA Z<|ao ?_
     exact aE (k+1,g1,c1) I (by show u.KV.length-(k+1)<u.KV.length-k;omega) bV (by
      show Ent _ (_::aV e (a.q g1 c1) ns (M.wakeN i (k+1))::_);rw[K7,if_pos (by rw[Lg];exact K4)];exact gfE1)
    ·
     refine ae<|al<|sT<|sG<|ch Z (bc (r:=((k+1:Nat):Int)) Z Z dP)<|sA Z<|ao ?_
     exact aE (k+1,qg,qc) I (by show u.KV.length-(k+1)<u.KV.length-k;omega) bV (by
      show Ent _ (_::aV e (a.q qg qc) ns (M.wakeN i (k+1))::_);rw[K7,if_neg (by rw[Lg];simpa using K4)];exact aT)
 ·
  have Lr:k=u.KV.length:=by have:¬(k:Int)<(u.KV.length:Int):=Fd;omega
  refine aL<|aA<|az<|ap ?_
  exact bD [aV e (a.q qg qc) ns (M.wakeN i u.KV.length),bx ns] rfl ⟨rfl,qg,qc,rfl⟩ (by rw[<-Lr];exact Ent.drop)
end Go.Y
namespace FR
def Rn.finK (r:Rn) (st:Int) (e k:Nat):Rn:={r with state:=st,ended:=e,KV:=(r.KV.take k).map endS++r.KV.drop k}
theorem GS (r:Rn) (st:Int) (e k:Nat):(r.finK st e k).KV.length=r.KV.length:=by
 unfold Rn.finK;simp only[List.length_append,List.length_map,List.length_take,List.length_drop];omega
theorem IX {r:Rn} {st:Int} (E:r.KV[k]?=some s):(r.finK st e k).KV[k]?=some s/\r.finK st e (k+1)=(r.finK st e k).setS k (endS s):=by
 have hk:=(gfGet.1 E).1;have I:((r.KV.take k).map endS).length=k:=by simp;omega
 have J:r.KV.drop k=s::r.KV.drop (k+1):=by
  rw[List.drop_eq_getElem_cons hk]
  congr 1
  exact(gfGet.1 E).2
 refine⟨?_,?_⟩
 · unfold Rn.finK
   show((r.KV.take k).map endS++r.KV.drop k)[k]?=_;rw[List.getElem?_append_right am,I,Nat.sub_self,J]
   rfl
 · unfold Rn.finK Rn.setS
   simp only
   congr 1
   rw[List.set_append_right _ _ am,I,Nat.sub_self,J,List.set_cons_zero,List.take_add_one,E,List.map_append,List.append_assoc]
   rfl
theorem pE (r:Rn) (st:Int) (e:Nat):r.finK st e 0={r with state:=st,ended:=e}:=by
 unfold Rn.finK;simp
theorem GT (r:Rn) (st:Int) (e:Nat):r.finK st e r.KV.length=r.fin st e:=by
 unfold Rn.finK Rn.fin;simp
theorem setR_setR (M:En) (i:Nat) (a b:Rn):(M.setR i a).setR i b=M.setR i b:=by
 unfold En.setR;simp
theorem ic {r:Rn} (hi:M.runs[i]?=some r) (r':Rn):(M.setR i r').runs[i]?=some r':=by
 have:=(gfGet.1 hi).1;unfold En.setR;simp[this]
theorem rZ (M:En) (i:Nat) (r:Rn):(M.setR i r).runs.length=M.runs.length:=by
 unfold En.setR;simp
end FR
namespace Go.Y
open Go.Proofs
open Go Go.RowKit Go.SL
theorem nl (st:Int) (hi:M.runs[i]?=some u) (he:M.ends<9223372036854775807) (hl:u.KV.length<=100) (hq:M.KX.length<=1000):dx G 124 [aX e,aw i,aw st] [aV e a ns M] λv m=>v=.tuple #[]/\∃g c,m=[aV e (a.q g c) ns (M.endr i u st)]:=by
 have T:=(gfGet.1 hi).1;refine bA Tryz.func124 Z λE fr hE=>aa ?_;refine bt (p:=∃g,a.rg=some g) (λw hw=>gY hi hw) λ⟨gr,hg⟩=>?_;refine sS<|cG 2 Z Z<|bF (au (v:=dp gr M.runs.length a.rc) Z) (dF hg)<|sM Z<|ch Z (aS (z:=8) Z Z Z Z T)<|bn 3 Z ?_
 refine sO<|Jw (j:=3) (u':={u with state:=st}) hi hg Z Z Z Z am Z Z Z Z Z ?_
 refine sN<|sQ ?_
 obtain⟨M1,K⟩:∃M1,M1=M.setR i {u with state:=st}:=⟨_,rfl⟩;rw[<-K];have Lb:M1.ends=M.ends:=by rw[K];rfl
 have Lc:M1.runs.length=M.runs.length:=by rw[K];exact FR.rZ _ _ _
 have Ld:M1.runs[i]?=some {u with state:=st}:=by rw[K];exact FR.ic hi _
 refine sG<|cG 7 Z Z<|bF (au (v:=aw (M1.ends:Int)) Z) (cg Z)<|sP (bc (r:=((M.ends+1:Nat):Int)) Z Z (by rw[Lb,jf am];omega))<|da Z<|bn 7 Z ?_
 refine sO<|rH (a:=a) (M:=M1) (M':={M1 with ends:=M.ends+1}) Z Z Z am Z Z Z Z ?_
 refine sN<|sQ ?_
 obtain⟨M2,O⟩:∃M2,M2={M1 with ends:=M.ends+1}:=⟨_,rfl⟩;rw[<-O];have Le:M2.ends=M.ends+1:=by rw[O]
 have K7:M2.runs.length=M.runs.length:=by rw[O];exact Lc
 have K8:M2.runs[i]?=some {u with state:=st}:=by rw[O];exact Ld
 refine sZ Z<|dT Z Z<|dt 2 Z Z Z<|bQ Z (au (v:=dp gr M2.runs.length a.rc) Z) (dF hg)<|cv Z Z<|cv Z Z<|dt 7 Z Z Z<|bQ Z (au (v:=aw (M2.ends:Int)) Z) (cg Z) ?_
 refine dj 9 Z (aS (z:=8) Z Z Z Z (by rw[K7];exact T)) ?_;refine dj 10 Z (bl 7 Z) ?_;refine dA 11 Z<|Jw (j:=7) (u':=u.finK st (M.ends+1) 0) K8 hg Z Z Z Z am Z Z (by rw[FR.pE]) (by rw[FR.pE]) (by rw[FR.pE,Le];rfl) ?_
 refine dK [false,false] ak<|dE<|sT<|sQ<|sS<|sB Z<|ag ?_
 refine aO (X:=Nat) (λk=>[(6,aw k),(0,aX e),(1,aw i)]) (λk=>aV e a ns (M2.setR i (u.finK st (M.ends+1) k))::fr) (λk=>k<=u.KV.length) (λk=>u.KV.length-k) 0 (Nat.zero_le _) bV aT ?_;intro k hk;obtain⟨I,mt⟩:∃I,I=u.finK st (M.ends+1) k:=⟨_,rfl⟩;obtain⟨M3,J⟩:∃M3,M3=M2.setR i I:=⟨_,rfl⟩;rw[<-mt,<-J];have Y:M3.runs[i]?=some I:=by rw[J];exact FR.ic K8 _
 have Fd:M3.runs.length=M.runs.length:=by rw[J,FR.rZ];exact K7
 have Lg:I.id=u.id:=by rw[mt];rfl
 have K9:I.KV.length=u.KV.length:=by rw[mt];exact FR.GS _ _ _ _
 refine sQ<|bq Z<|cG 2 Z Z<|bF (au (v:=dp gr M3.runs.length a.rc) Z) (dF hg)<|sM Z ?_
 refine sP (aS (z:=8) Z Z Z Z (by rw[Fd];exact T)) ?_;refine bn 6 Z<|bF (au (v:=jg (a.ra I.id) I) Z) (cE (j:=6) Y hg Z)<|sP (bp Z Z)<|sP (bz Z Z Z)<|sN ?_
 refine aB Z (λIn=>?_) λIn=>?_
 ·
  have wf:k<u.KV.length:=by have:(k:Int)<(I.KV.length:Int):=In;omega
  obtain⟨s,hs⟩:∃s,u.KV[k]?=some s:=⟨u.KV[k],by simp[wf]⟩;obtain⟨BT,K3⟩:=FR.IX (st:=st) (e:=M.ends+1) hs;rw[<-mt] at BT K3;refine ae<|sT<|sQ<|ag<|sS<|cG 2 Z Z<|bF (au (v:=dp gr M3.runs.length a.rc) Z) (dF hg)<|sM Z ?_
  refine sP (aS (z:=8) Z Z Z Z (by rw[Fd];exact T)) ?_;refine bn 6 Z<|bF (au (v:=jg (a.ra I.id) I) Z) (cE (j:=6) Y hg Z)<|sM Z ?_
  refine sP (aS (z:=7) Z Z Z Z (by rw[K9];exact wf)) ?_;refine bn 0 Z<|bF (au (v:=aw s.state) Z) (dH (j:=0) Y Z BT Z)<|sB Z<|sS<|sM Z (ck Z (dc Z Z Z) (λ_ _=>trivial) λK5 Li=>(sM Z ?_))
  refine bN K5 (by rfl) ?_;refine cB Z Z (λ_=>rfl) (bd Z) (λ_ _=>trivial) ?_;refine bN K5 (by rfl) ?_;refine cB Z Z (λ_=>rfl) (dc Z Z Z) (λ_ _=>trivial) ?_;refine ck Z (dJ Z Z Z) (λ_ _=>trivial) λK6 Lj=>sN ?_;refine ce Z (λK6=>?_) λK6=>?_
  ·
   have K4:¬(s.state=5\/s.state=6):=by first|(simp_all;done)|(simp_all;omega)
   refine sG<|cG 2 Z Z<|bF (au (v:=dp gr M3.runs.length a.rc) Z) (dF hg)<|sM Z ?_
   refine sP (aS (z:=8) Z Z Z Z (by rw[Fd];exact T)) ?_;refine bn 6 Z<|bF (au (v:=jg (a.ra I.id) I) Z) (cE (j:=6) Y hg Z)<|sM Z ?_
   refine sP (aS (z:=7) Z Z Z Z (by rw[K9];exact wf)) ?_;refine bn 0 Z ?_;refine sO<|iC (j:=0) (s':={s with state:=7}) Y Z BT Z Z Z Z am Z Z ?_
   refine ao<|al<|sT<|sG<|ch Z (bc (r:=((k+1:Nat):Int)) Z Z dP)<|sA Z<|ao ?_
   exact aE (k+1) wf am bV (by
    rw[K3,J,FR.setR_setR];have:FR.endS s={s with state:=7}:=if_neg K4;rw[this];exact aT)
  ·
   have K4:s.state=5\/s.state=6:=by first|(simp_all;done)|(simp_all;omega)
   refine ae<|al<|sT<|sG<|ch Z (bc (r:=((k+1:Nat):Int)) Z Z dP)<|sA Z<|ao ?_
   exact aE (k+1) wf am bV (by
    have h0:FR.endS s=s:=if_pos K4;have h1:I.setS k (FR.endS s)=I:=by
     rw[h0];unfold FR.Rn.setS;have h2:=gfGet.1 BT;obtain⟨h2,h3⟩:=h2;rw[<-h3,List.set_getElem_self]
    rw[K3,h1,J];exact aT)
 ·
  have Lh:k=u.KV.length:=by have:¬(k:Int)<(I.KV.length:Int):=In;omega
  refine aL<|aA<|az<|ap<|sT<|sG<|sM Z<|cG 2 Z Z<|bF (au (v:=dp gr M3.runs.length a.rc) Z) (dF hg)<|sM Z ?_
  refine sP (aS (z:=8) Z Z Z Z (by rw[Fd];exact T)) ?_;refine bn 0 Z<|bF (au (v:=aQ I.id) Z) (cE (j:=0) Y hg Z) ?_
  refine bU Z (Bg (M:=M3) I.id (show M3.KX.length<=1000 by rw[J,O,K];exact hq)) aT ?_;rintro v m ⟨rfl,g1,c1,rfl⟩;refine aa<|ao<|bD [aV e (a.q g1 c1) ns (M.endr i u st)] rfl ⟨rfl,g1,c1,rfl⟩ ?_
  have:M.endr i u st=M3.drop I.id:=by
   rw[Lg,J,mt,Lh,FR.GT,O,K];unfold FR.En.endr FR.En.setR;simp
  rw[this];exact aT
theorem oO (hi:M.runs[i]?=some u) (he:M.ends<9223372036854775807) (hl:u.KV.length<=100) (hq:M.KX.length<=1000):dx G 122 [aX e,aw i] [aV e a ns M] λv m=>v=.tuple #[]/\∃g c,m=[aV e (a.q g c) ns (M.settle i)]:=by
 have In:=(gfGet.1 hi).1;have K3:∀s:FR.St,FK.over s.ab=(decide (s.state=5)||decide (s.state=6)||decide (s.state=7)):=λs=>rfl;refine bA Tryz.func122 Z λE fr hE=>aa ?_;refine bt (p:=∃g,a.rg=some g) (λw hw=>gY hi hw) λ⟨gr,hg⟩=>?_;refine sS<|sB Z<|sQ<|sS<|sB Z<|ag ?_
 refine aO (X:=Nat×Bool) (λx=>[(5,aw x.1),(4,.bool x.2),(0,aX e),(1,aw i)]) (λ_=>aV e a ns M::fr) (λx=>x.1<=u.KV.length/\((u.KV.take x.1).all λs=>FK.over s.ab)=true/\x.2=!((u.KV.take x.1).all λs=>s.state==5)) (λx=>u.KV.length-x.1) (0,false) ⟨Nat.zero_le _,rfl,rfl⟩ bV aT ?_;rintro⟨k,b⟩ ⟨hk,I,hb⟩;replace hk:k<=u.KV.length:=hk;replace hb:b=!((u.KV.take k).all λs=>s.state==5):=hb;replace I:((u.KV.take k).all λs=>FK.over s.ab)=true:=I;refine sQ<|bq Z<|cG 2 Z Z<|bF (au (v:=dp gr M.runs.length a.rc) Z) (dF hg)<|ch Z (aS (z:=8) Z Z Z Z In)<|bn 6 Z<|bF (au (v:=jg (a.ra u.id) u) Z) (cE (j:=6) hi hg Z)<|sP (bp Z Z)<|sP (bz Z Z Z)<|sN ?_
 refine aB Z (λK=>?_) λK=>?_
 ·
  have T:k<u.KV.length:=by have:(k:Int)<(u.KV.length:Int):=K;omega
  obtain⟨s,hs⟩:∃s,u.KV[k]?=some s:=⟨u.KV[k],by simp[T]⟩;have K4:u.KV.take (k+1)=u.KV.take k++[s]:=by rw[List.take_add_one,hs];rfl
  refine ae<|sT<|sQ<|ag<|sS<|cG 2 Z Z<|bF (au (v:=dp gr M.runs.length a.rc) Z) (dF hg)<|ch Z (aS (z:=8) Z Z Z Z In)<|bn 6 Z<|bF (au (v:=jg (a.ra u.id) u) Z) (cE (j:=6) hi hg Z)<|ch Z (aS (z:=7) Z Z Z Z T)<|bn 0 Z<|bF (au (v:=aw s.state) Z) (dH (j:=0) hi Z hs Z)<|sA Z<|ao ?_
  refine sT<|sQ<|sS<|sM Z (ck Z (dc Z Z Z) (λ_ _=>trivial) λmt K8=>(sM Z ?_))
  refine bN mt (by rfl) ?_;refine cB Z Z (λ_=>rfl) (bd Z) (λ_ _=>trivial) ?_;refine bN mt (by rfl) ?_;refine cB Z Z (λ_=>rfl) (dc Z Z Z) (λ_ _=>trivial) ?_;refine ck Z (dJ Z Z Z) (λ_ _=>trivial) λwf K9=>sM Z ?_;refine bN wf (by rfl) ?_;refine cB Z Z (λ_=>rfl) (bd Z) (λ_ _=>trivial) ?_;refine bN wf (by rfl) ?_;refine cB Z Z (λ_=>rfl) (dc Z Z Z) (λ_ _=>trivial) ?_;refine ck Z (dJ Z Z Z) (λ_ _=>trivial) λBT Lb=>sN ?_;refine ce Z (λBT=>?_) λBT=>?_
  ·
   have hno:FK.over s.ab=false:=by rw[K3];simp_all
   refine an<|aC<|aH<|aC<|bP<|aH<|aC<|bD [aV e a ns (M.settle i)] rfl ⟨rfl,a.qg,a.qc,rfl⟩ ?_
   have h1:u.ab.KV.all FK.over=false:=by
    rw[List.all_eq_false];exact⟨s.ab,bY (FR.fI hs),by rw[hno];decide⟩
   have:M.settle i=M:=by
    unfold FR.En.settle;rw[hi];simp only[h1]
    rfl
   rw[this];exact aT
  ·
   have K5:FK.over s.ab=true:=by rw[K3];simp_all;omega
   refine ae<|sT<|sG<|sM Z (ck Z (bd Z) (λ_ _=>trivial) λFd Lc=>?_)
   refine bN Fd (by rfl) ?_;refine cB Z Z (λ_=>rfl) (bd Z) (λ_ _=>trivial) ?_;refine bN Fd (by rfl) ?_;refine cB Z Z (λ_=>rfl) (dc Z Z Z) (λ_ _=>trivial) ?_;refine ck Z (ve Z Z Z) (λ_ _=>trivial) λK6 Ld=>sA Z<|ao<|al<|sT<|sG<|ch Z (bc (r:=((k+1:Nat):Int)) Z Z dP)<|sA Z<|ao ?_
   exact aE (k+1,_) ⟨T,by rw[K4,List.all_append,I];simp[K5],by show K6=_;rw[K4,List.all_append];simp_all;rfl⟩ (by show u.KV.length-(k+1)<u.KV.length-k;omega) bV aT
 ·
  have K7:k=u.KV.length:=by have:¬(k:Int)<(u.KV.length:Int):=K;omega
  rw[K7,List.take_length] at I hb;have h1:u.ab.KV.all FK.over=true:=by
   show(u.KV.map FR.St.ab).all _=true;rw[List.all_map];exact I
  have h5:(u.ab.KV.all λs=>s.state==5)=!b:=by
   show(u.KV.map FR.St.ab).all _=_;rw[List.all_map,hb,Bool.not_not]
   rfl
  have J:M.settle i=M.endr i u (if (!b)=true then 2 else 3):=by
   unfold FR.En.settle;rw[hi];simp only[h1,h5,if_true]
  refine aL<|aA<|az<|ap<|sT<|bq Z<|sN ?_
  refine ce Z (λO=>?_) λO=>?_
  ·
   refine sG<|sM Z<|sM Z ?_
   refine bU Z (nl 3 hi he hl hq) aT ?_;rintro v m ⟨rfl,g1,c1,rfl⟩;refine aa<|ao ?_
   exact bD [aV e (a.q g1 c1) ns (M.settle i)] rfl ⟨rfl,g1,c1,rfl⟩ (by
    have Y:b=true:=O;rw[J,Y];exact aT)
  ·
   refine sG<|sM Z<|sM Z ?_
   refine bU Z (nl 2 hi he hl hq) aT ?_;rintro v m ⟨rfl,g1,c1,rfl⟩;refine aa<|ao ?_
   exact bD [aV e (a.q g1 c1) ns (M.settle i)] rfl ⟨rfl,g1,c1,rfl⟩ (by
    have Y:b=false:=O;rw[J,Y];exact aT)
end Go.Y
