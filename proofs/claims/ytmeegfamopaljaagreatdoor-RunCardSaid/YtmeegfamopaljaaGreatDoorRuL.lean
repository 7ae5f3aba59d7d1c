/- The walk of the document's Decode. -/
import Derived.Test.YtmeegfamopaljaaGreatDoorRuK
import Derived.Test.YtmeegfamopaljaaGreatDoorRuF
import Derived.Test.YtmeegfamopaljaaGreatDoorRuB
import Derived.Test.YtmeegfamopaljaaGreatDoorRuI
import Derived.Test.YtmeegfamopaljaaGreatDoorRuJ
import Derived.Test.YtmeegfamopaljaaGreatDoorRuC
import Derived.Test.YtmeegfamopaljaaGreatDoorRuG
set_option maxHeartbeats 4000000
set_option maxRecDepth 20000
variable {bs:List UInt8} {M V:FR.En} {ns:List Go.Y.ND} {σ:FK.Dsk} {S U:FK.En} {G:Go.SL.Env->Prop} {a:Go.Y.RfA} {A:Option Go.Addr} {N c d e j n:Nat} {J:FK.Jn} {l:List Go.SL.HP} {K dl x:Int} {v:Go.Value} {p:Go.Y.EA} {E:Go.SL.Env}
namespace FK
def me {β:Type} (s:Except Nat Nat) (K:Nat->Except Nat β):Except Nat β:=match s with
 | .error e=>.error e
 | .ok q=>K q
theorem oV {α β:Type} (r:Rd α) (m:Nat) (l:List α) (q:Nat) (K:List α->Rd β):andThen (kF r (m+1) l q) K=andThen (r q) λx q=>andThen (kF r m (l++[x]) q) K:=by
 simp only[kF];cases h:r q with
 | error e=>rfl
 | ok x=>rfl
theorem nP {α β γ:Type} (a:Except Nat (α×Nat)) (f:α->Rd β) (g:β->Rd γ):andThen (andThen a f) g=andThen a λx q=>andThen (f x q) g:=by
 cases a<;>rfl
theorem B8 (h:iF bs 0=.error e):nF bs=.error (1,(e:Int)):=by
 unfold nF;rw[h]
end FK
namespace Go.Y
open Go.Proofs
open Go Go.RowKit Go.SL
section
variable {s:Except Nat Nat} {β:Type} {ns:List FK.Node} {k:Int} {vs:List Value} {fr:List HP} {p:HP}
theorem pt (hk:NextIs bs s k) (K:Int->FK.Rd β):FK.me s (λq=>FK.andThen (FK.fH bs q) K)=FK.me (ct bs s) (λq=>K k q):=by
 cases s with
 | error e=>rfl
 | ok q=>
  simp only[FK.me,ct,FK.fH];cases h:FK.rd bs q with
  | error e=>rfl
  | ok x=>obtain⟨n,q'⟩:=x;simp only[FK.andThen];rw[hk q n q' rfl h]
theorem uH {α:Type} (hk:NextIs bs s k) (r:FK.Rd α) (K:List α->FK.Rd β):FK.me s (λq=>FK.andThen (FK.fK bs r q) K)=FK.me (ct bs s) (λq=>FK.andThen (FK.kF r k.toNat [] q) K):=by
 cases s with
 | error e=>rfl
 | ok q=>
  simp only[FK.me,ct,FK.fK];cases h:FK.rd bs q with
  | error e=>rfl
  | ok x=>obtain⟨n,q'⟩:=x;simp only;rw[hk q n q' rfl h,Int.toNat_natCast]
theorem j6 (hk:NextIs bs s k) (j:Nat) (l:List Int) (K:FK.Node->FK.Rd β):FK.me s (λq=>FK.andThen (FK.gu bs (j+1) l q) K)=FK.me (ct bs s) (λq=>FK.andThen (FK.gu bs j (l++[k]) q) K):=by
 rw[<-pt hk (λx q=>FK.andThen (FK.gu bs j (l++[x]) q) K)]
 congr 1
 funext q
 simp only[FK.gu,FK.nP]
theorem AW (hk:NextIs bs s k) (l:List Int) (K:FK.Node->FK.Rd β):FK.me s (λq=>FK.andThen (FK.gu bs 0 l q) K)=FK.me (ct bs s) (λq=>FK.andThen (FK.kF (FK.fH bs) k.toNat [] q) λafter q=>K (FK.gZ l after) q):=by
 rw[<-uH hk (FK.fH bs) λafter q=>K (FK.gZ l after) q]
 congr 1
 funext q
 simp only[FK.gu,FK.nP]
 rfl
theorem Hf {v':Value} {u:Value} {nd:FK.Node} {J E K I O:HP} (h:vs.length=ns.length) :
 Ent (J::row 46 7 v' (ns.length+1) (cL ns vs++bk nd u)::E::K::p::bG u nd.after::I::O::(dg vs ns++fr)) (K::p::J::row 46 7 v' (ns++[nd]).length (cL (ns++[nd]) (vs++[u]))::O::(dg (vs++[u]) (ns++[nd])++fr)):=by
 rw[qx h,mQ ns vs nd u h,show(ns++[nd]).length=ns.length+1 by simp];refine(cF gt gt .head).trans (Ent.cons (Ent.cons (Ent.cons (Ent.cons (Ent.drop.trans ((bo de .head).trans (Ent.cons ?_)))))));refine(Ent.cons Ent.drop).trans (Ent.perm ?_);have T:(bG u nd.after::(dg vs ns++fr)).Perm (dg vs ns++bG u nd.after::fr):=List.perm_middle.symm;simpa using T
theorem EB {E I J:HP} (h:vs.length=ns.length) :
 Ent (E::p::I::row 46 7 v ns.length (cL ns vs)::J::(dg vs ns++fr)) (nodesOwn v ns::E::p::I::J::fr):=by
 refine(Ent.perm ?_).trans (nodesOwn.ent h);have K:(([E,p,I]++[row 46 7 v ns.length (cL ns vs)])++(J::(dg vs ns++fr))).Perm (([row 46 7 v ns.length (cL ns vs)]++[E,p,I])++(J::(dg vs ns++fr))):=List.perm_append_comm.append_right _;refine K.trans<|List.Perm.cons _ ?_
 have O:(([E,p,I,J]++dg vs ns)++fr).Perm ((dg vs ns++[E,p,I,J])++fr):=List.perm_append_comm.append_right _;simpa using O
theorem DH {J O T Y k6:Int} (h0:NextIs bs s x) (h1:NextIs bs (ct bs s) dl) (h2:NextIs bs (ct bs (ct bs s)) J) (h3:NextIs bs (ct bs (ct bs (ct bs s))) O) (h4:NextIs bs (ct bs (ct bs (ct bs (ct bs s)))) T)
 (h5:NextIs bs (ct bs (ct bs (ct bs (ct bs (ct bs s))))) Y) (h6:NextIs bs (ct bs (ct bs (ct bs (ct bs (ct bs (ct bs s)))))) k6) (K:FK.Node->FK.Rd β) :
 FK.me (ct bs (ct bs (ct bs (ct bs (ct bs (ct bs (ct bs s))))))) (λq=>FK.andThen (FK.kF (FK.fH bs) k6.toNat [] q) λafter q=>K (FK.gZ [x,dl,J,O,T,Y] after) q)=FK.me s (λq=>FK.andThen (FK.gC bs q) K):=
 (AW h6 [x,dl,J,O,T,Y] K).symm.trans ((j6 h5 0 [x,dl,J,O,T] K).symm.trans ((j6 h4 1 [x,dl,J,O] K).symm.trans ((j6 h3 2 [x,dl,J] K).symm.trans ((j6 h2 3 [x,dl] K).symm.trans ((j6 h1 4 [x] K).symm.trans (j6 h0 5 [] K).symm)))))
theorem Bu {J O T:Int} {q:Nat} (h0:NextIs bs s x) (h1:NextIs bs (ct bs s) dl) (h2:NextIs bs (ct bs (ct bs s)) J) (h3:NextIs bs (ct bs (ct bs (ct bs s))) K) (h4:NextIs bs (ct bs (ct bs (ct bs (ct bs s)))) O)
 (h5:NextIs bs (ct bs (ct bs (ct bs (ct bs (ct bs s))))) T) (h:ct bs (ct bs (ct bs (ct bs (ct bs (ct bs (ct bs s))))))=.ok q):∀y∈[x,dl,J,K,O,T],0<=y/\y<2097152:=by
 obtain⟨_,_,Y,_⟩:=kv h;obtain⟨_,_,e5,_⟩:=kv Y;obtain⟨_,_,e4,_⟩:=kv e5;obtain⟨_,_,e3,_⟩:=kv e4;obtain⟨_,_,e2,_⟩:=kv e3;obtain⟨_,_,e1,_⟩:=kv e2;simp only[List.mem_cons,List.not_mem_nil,or_false,forall_eq_or_imp,forall_eq];exact⟨h0.small e1,h1.small e2,h2.small e3,h3.small e4,h4.small e5,h5.small Y⟩
theorem J7 {E xs:List Int} (h:∀y∈E,0<=y/\y<2097152) (J:∀y∈xs,0<=y/\y<2097152):Small (FK.gZ E xs):=
 ⟨λx I=>by simp only[rE,FK.gZ,List.mem_cons,List.not_mem_nil,or_false] at I;rcases I with rfl|rfl|rfl|rfl|rfl|rfl<;>exact tz h _,J⟩
theorem FE:ij (Value.agg #[aw 0,aw 0,aw 0,aw 0,aw 0,aw 0,cx]).cells 0 [aw 0,aw 0,aw 0,aw 0,aw 0,aw 0,cx]=#[aw 0,aw 0,aw 0,aw 0,aw 0,aw 0,cx]:=rfl
theorem AV (K:NextIs bs (.ok 0) x) (O:NextIs bs (ct bs (.ok 0)) dl):FK.me (ct bs (ct bs (.ok 0))) (λq=>FK.andThen (FK.kF (FK.gC bs) dl.toNat [] q) λI q=>.ok ((⟨x,I⟩:FK.Flow),q))=FK.iF bs 0:=
 (uH O (FK.gC bs) λI q=>.ok ((⟨x,I⟩:FK.Flow),q)).symm.trans (pt K λx q=>FK.andThen (FK.fK bs (FK.gC bs) q) λI q=>.ok ((⟨x,I⟩:FK.Flow),q)).symm
def Cj (bs:List UInt8) (m:Nat) (E:Int) (ns:List FK.Node):FK.Node->FK.Rd FK.Flow:=λnd q=>FK.andThen (FK.kF (FK.gC bs) m (ns++[nd]) q) λI q=>.ok (⟨E,I⟩,q)
theorem CM (h:xh s=false):∃q,s=.ok q:=by
 cases s with
 | error e=>cases h
 | ok q=>exact⟨q,rfl⟩
def Fine (s:Except Nat Nat) (bs:List UInt8) (P:Prop):Prop:=∀q,s=.ok q->q<=bs.length/\P
theorem th (hp:Reads p A bs) (hl:bs.length<=1099511627776):dQ 116 [.slice A bs.length c] [p] (DecPost bs p):=by
 refine bA Tryz.func116 Z λE fr hE=>aa<|sS<|sO (cH (z:=.agg #[aw 0,cx]) Z λb2=>(sA Z (sB Z (sS (sM Z (sP (bI (ps:=[(0,.tmp 16)]) (vs:=[.slice A bs.length c]) (cs:=#[.slice A bs.length c,aw 0,.bool false]) Z Z Z Z Z) (sO (cR Z Z λJ=>(sB Z (sS (sP (bI (ps:=[]) (vs:=[]) (cs:=#[aw 0,cx]) Z Z Z Z Z) (sO (cH (z:=.agg #[aw 0,cx]) Z λb6=>?_)))))))))))))
 refine sO<|bh Z (m:=2) (vs:=[aw 0,cx]) Z Z Z Z er (by simp[Value.cells]) ?_
 refine sN<|sS<|sO (cH (z:=aw 0) Z λb7=>?_)
 refine bR Z Z Z Z gN ?_;refine aq ((bo de .head).trans uK) ?_;refine sN<|bq Z ?_
 refine bU Z (hZ (c:=c) hp hl J b7 (.ok 0) (λq h=>by injection h with h;omega)) (bo .head de) ?_;rintro v m ⟨dl,rfl,Ls,Lt,rfl⟩;refine aD<|bn 0 Z ?_
 refine bR Z Z Z Z gN ?_;refine sN<|bq Z ?_
 refine bU Z (hZ (c:=c) hp hl J b7 _ Lt) (bo bJ bJ) ?_;rintro v m ⟨O,rfl,Ll,Lu,rfl⟩;refine aD<|sB Z<|sQ<|sS<|sB Z<|ag ?_
 refine aO (X:=Except Nat Nat×Nat×List FK.Node×List Value×Value) (λx=>[(9,aw x.2.1),(8,aw O),(5,.pointer (some ⟨J,0,none⟩)),(6,.pointer (some ⟨b6,0,none⟩)),(7,.pointer (some ⟨b7,0,none⟩)),(2,.pointer (some ⟨b2,0,none⟩)),(0,.slice A bs.length c)]) (λx=>rmem J b7 A c bs x.1::p::blk b6 29 #[aw dl,x.2.2.2.2]::row 46 7 x.2.2.2.2 x.2.2.1.length (cL x.2.2.1 x.2.2.2.1)::blk b2 29 #[aw 0,cx]::(dg x.2.2.2.1 x.2.2.1++fr)) (λx=>FK.me x.1 (λq=>FK.andThen (FK.kF (FK.gC bs) (O.toNat-x.2.1) x.2.2.1 q) λKW q=>.ok (⟨dl,KW⟩,q))=FK.iF bs 0/\x.2.1<=O.toNat/\x.2.2.1.length=x.2.1/\x.2.2.2.1.length=x.2.2.1.length/\Fine x.1 bs ((0<=O/\O<2097152)/\∀y∈x.2.2.1,Small y)) (λx=>O.toNat-x.2.1) (ct bs (ct bs (.ok 0)),0,[],[],cx) ⟨AV Ls Ll,by simp,rfl,rfl,λq h=>⟨Lu q h,Ll.small h,by simp⟩⟩ bV ((cF .head .head .head).trans (Ent.cons (Ent.cons (Ent.cons Ent.row0)))) ?_;rintro⟨s,i,ns,vs,v6⟩ ⟨hT,hi,Lm,K4,mt⟩;simp only at hT hi Lm K4 mt ⊢;refine sQ<|bq Z<|sM Z (ck Z (bz Z Z Z) (λ_ _=>trivial) λBT Lb=>(sM Z ?_))
 refine bN BT (by rfl) ?_;refine cB Z Z (λ_=>rfl) (bd Z) (λ_ _=>trivial) ?_;refine bN BT (by rfl) ?_;refine cB Z Z (λ_=>rfl) (cI Z) (λ_ _=>trivial) ?_;refine bN BT (by rfl) ?_;refine cB Z Z (λ_=>rfl) (bl 2 Z) (λ_ _=>trivial) ?_;refine bN BT (by rfl) ?_;refine cB Z Z (λ_=>rfl) (au Z) (rmem.bad .head) ?_;refine bN BT (by rfl) ?_;refine cB Z Z (λ_=>rfl) (cD Z Z) (λ_ _=>trivial) ?_;refine ck Z (dJ Z Z Z) (λ_ _=>trivial) λT Lc=>sN ?_;refine ce Z (λT=>?_) λT=>?_
 ·
  rw[Lc,Lb] at T;simp only[Bool.and_eq_true,decide_eq_true_eq,Bool.not_eq_true'] at T;obtain⟨LA,Lh⟩:=T;obtain⟨q,rfl⟩:=CM Lh;obtain⟨hq,⟨K6,K7⟩,K3⟩:=mt q rfl;have K9:O.toNat-i=(O.toNat-i-1)+1:=am;rw[K9] at hT;simp only[FK.me] at hT;rw[FK.oV] at hT;refine ae<|sT<|sQ<|ag<|sS<|sP (bI (ps:=[]) (vs:=[]) (cs:=#[aw 0,aw 0,aw 0,aw 0,aw 0,aw 0,cx]) Z Z Z Z Z)<|sO (cH (z:=.agg #[aw 0,aw 0,aw 0,aw 0,aw 0,aw 0,cx]) Z λLd=>?_)
  refine sO<|bh Z (m:=7) (vs:=[aw 0,aw 0,aw 0,aw 0,aw 0,aw 0,cx]) Z Z Z Z er (by simp[Value.cells]) ?_
  rw[FE];refine sN<|bq Z ?_
  refine bU Z (hZ (c:=c) hp hl J b7 (.ok q) (λq h=>by injection h with h;omega)) (bo bJ bJ) ?_;rintro v m ⟨k0,rfl,h0,g0,rfl⟩;refine aD<|bn 0 Z ?_
  refine bR Z Z Z Z gN ?_;refine sN<|bq Z ?_
  refine bU Z (hZ (c:=c) hp hl J b7 _ g0) (bo bJ bJ) ?_;rintro v m ⟨k1,rfl,h1,g1,rfl⟩;refine aD<|bn 1 Z ?_
  refine bR Z Z Z Z gN ?_;refine sN<|bq Z ?_
  refine bU Z (hZ (c:=c) hp hl J b7 _ g1) (bo bJ bJ) ?_;rintro v m ⟨k2,rfl,h2,g2,rfl⟩;refine aD<|bn 2 Z ?_
  refine bR Z Z Z Z gN ?_;refine sN<|bq Z ?_
  refine bU Z (hZ (c:=c) hp hl J b7 _ g2) (bo bJ bJ) ?_;rintro v m ⟨k3,rfl,h3,g3,rfl⟩;refine aD<|bn 3 Z ?_
  refine bR Z Z Z Z gN ?_;refine sN<|bq Z ?_
  refine bU Z (hZ (c:=c) hp hl J b7 _ g3) (bo bJ bJ) ?_;rintro v m ⟨k4,rfl,h4,g4,rfl⟩;refine aD<|bn 4 Z ?_
  refine bR Z Z Z Z gN ?_;refine sN<|bq Z ?_
  refine bU Z (hZ (c:=c) hp hl J b7 _ g4) (bo bJ bJ) ?_;rintro v m ⟨k5,rfl,h5,g5,rfl⟩;refine aD<|bn 5 Z ?_
  refine bR Z Z Z Z gN ?_;refine sN<|bq Z ?_
  refine bU Z (hZ (c:=c) hp hl J b7 _ g5) (bo bJ bJ) ?_;rintro v m ⟨k6,rfl,h6,g6,rfl⟩;refine aD<|sB Z<|sQ<|sS<|sB Z<|ag ?_
  refine aO (X:=Except Nat Nat×Nat×List Int×Value) (λx=>[(12,aw x.2.1),(11,aw k6),(10,.pointer (some ⟨Ld,0,none⟩)),(9,aw i),(8,aw O),(5,.pointer (some ⟨J,0,none⟩)),(6,.pointer (some ⟨b6,0,none⟩)),(7,.pointer (some ⟨b7,0,none⟩)),(2,.pointer (some ⟨b2,0,none⟩)),(0,.slice A bs.length c)]) (λx=>rmem J b7 A c bs x.1::p::bG x.2.2.2 x.2.2.1::blk Ld 46 #[aw k0,aw k1,aw k2,aw k3,aw k4,aw k5,x.2.2.2]::blk b6 29 #[aw dl,v6]::row 46 7 v6 ns.length (cL ns vs)::blk b2 29 #[aw 0,cx]::(dg vs ns++fr)) (λx=>FK.me x.1 (λq=>FK.andThen (FK.kF (FK.fH bs) (k6.toNat-x.2.1) x.2.2.1 q) λafter q=>Cj bs (O.toNat-i-1) dl ns (FK.gZ [k0,k1,k2,k3,k4,k5] after) q)=FK.iF bs 0/\x.2.1<=k6.toNat/\x.2.2.1.length=x.2.1/\Fine x.1 bs ((0<=k6/\k6<2097152)/\(∀y∈[k0,k1,k2,k3,k4,k5],0<=y/\y<2097152)/\∀y∈x.2.2.1,0<=y/\y<2097152)) (λx=>k6.toNat-x.2.1) (_,0,[],cx) ⟨(DH h0 h1 h2 h3 h4 h5 h6 (Cj bs (O.toNat-i-1) dl ns)).trans hT,by simp,rfl,λq h=>⟨g6 q h,h6.small h,Bu h0 h1 h2 h3 h4 h5 h,by simp⟩⟩ bV (Ent.cons (Ent.cons Ent.row0)) ?_;rintro⟨s2,kk,xs,v⟩ ⟨K,Lv,Ln,I⟩;simp only at K Lv Ln I ⊢;refine sQ<|bq Z<|sM Z (ck Z (bz Z Z Z) (λ_ _=>trivial) λFd Le=>(sM Z ?_))
  refine bN Fd (by rfl) ?_;refine cB Z Z (λ_=>rfl) (bd Z) (λ_ _=>trivial) ?_;refine bN Fd (by rfl) ?_;refine cB Z Z (λ_=>rfl) (cI Z) (λ_ _=>trivial) ?_;refine bN Fd (by rfl) ?_;refine cB Z Z (λ_=>rfl) (bl 2 Z) (λ_ _=>trivial) ?_;refine bN Fd (by rfl) ?_;refine cB Z Z (λ_=>rfl) (au Z) (rmem.bad .head) ?_;refine bN Fd (by rfl) ?_;refine cB Z Z (λ_=>rfl) (cD Z Z) (λ_ _=>trivial) ?_;refine ck Z (dJ Z Z Z) (λ_ _=>trivial) λY Lg=>sN ?_;refine ce Z (λY=>?_) λY=>?_
  ·
   rw[Lg,Le] at Y;simp only[Bool.and_eq_true,decide_eq_true_eq,Bool.not_eq_true'] at Y;obtain⟨Lx,K8⟩:=Y;obtain⟨q2,rfl⟩:=CM K8;obtain⟨LB,⟨Li,Lj⟩,Lq,Lr⟩:=I q2 rfl;have K5:k6.toNat-kk=(k6.toNat-kk-1)+1:=am;rw[K5] at K;simp only[FK.me] at K;rw[FK.oV] at K;refine ae<|sT<|sQ<|ag<|bq Z ?_
   refine bU Z (hZ (c:=c) hp hl J b7 (.ok q2) (λq h=>by injection h with h;omega)) aT ?_;rintro v m ⟨d,rfl,hd,gd,rfl⟩;refine aD<|sB Z<|sG<|bn 6 Z<|aR Z Z Z Z<|sM Z<|sO (eI (z:=aw 0) Z Z Z Z Z Z λLy=>?_)
   refine dq rfl (bZ rfl rfl jp rfl am rfl rfl gt (news:=[aw d]) rfl (λh=>by cases h) (eO (λj u h=>by simpa using h)) er (by unfold maxLen;omega) am λv' Lo=>?_);refine aK .head ?_;rintro A7 c7 rfl _ _ _ _ _;refine bn 6 Z ?_;refine bR Z Z Z Z gN ?_;refine ao<|al<|sT<|sG<|ch Z (bc Z Z (jf am))<|sA Z<|ao ?_
   exact aE (ct bs (.ok q2),kk+1,xs++[d],.slice A7 (xs.length+1) c7) ⟨by rw[show k6.toNat-(kk+1)=k6.toNat-kk-1 by omega,<-pt hd λx q=>FK.andThen (FK.kF (FK.fH bs) (k6.toNat-kk-1) (xs++[x]) q) λafter q=>Cj bs (O.toNat-i-1) dl ns (FK.gZ [k0,k1,k2,k3,k4,k5] after) q];exact K,by simp only;omega,by simp[Ln],λq h=>⟨gd q h,⟨Li,Lj⟩,Lq,λz hz=>(by rcases List.mem_append.1 hz with h'|h';exact Lr z h';simp at h';rw[h'];exact hd.small h)⟩⟩ (by simp only;omega) bV (by rw[qj];exact(cF gt gt bJ).trans (Ent.cons (Ent.cons (Ent.cons (Ent.cons Ent.drop)))))
  ·
   have Lw:FK.me s2 (λq=>Cj bs (O.toNat-i-1) dl ns (FK.gZ [k0,k1,k2,k3,k4,k5] xs) q)=FK.iF bs 0:=by
    cases s2 with
    | error e=>exact K
    | ok q3=>
     have h6:=(I q3 rfl).2.1;have hk:k6.toNat-kk=0:=by
      rw[Lg,Le] at Y;simp[xh] at Y;omega
     rw[hk] at K;exact K
   refine aK de ?_;rintro A8 c8 rfl _ _ _ _ _;refine aL<|aA<|az<|ap<|sT<|sG<|bn 1 Z<|aR Z Z Z Z<|bF (bO (vs:=bk (FK.gZ [k0,k1,k2,k3,k4,k5] xs) (.slice A8 xs.length c8)) Z) (bm Z) ?_
   refine sO (dh (m:=1) (z:=.agg #[aw 0,aw 0,aw 0,aw 0,aw 0,aw 0,cx]) (size:=7) (ps:=[(0,.tmp 80)]) (vs:=[.agg (bk (FK.gZ [k0,k1,k2,k3,k4,k5] xs) (.slice A8 xs.length c8)).toArray]) (cs:=(bk (FK.gZ [k0,k1,k2,k3,k4,k5] xs) (.slice A8 xs.length c8)).toArray) Z Z Z Z am am Z (vd _ _) λLz=>?_);refine dq rfl (bZ rfl rfl xP rfl am rfl rfl nH (news:=bk (FK.gZ [k0,k1,k2,k3,k4,k5] xs) (.slice A8 xs.length c8)) rfl (λh=>by cases h) (eO (λj u h=>by simpa using h)) (by simp[bk,Value.oneCell']) (by unfold maxLen;omega) am λv' Lo=>?_);refine aK .head ?_;rintro A9 c9 rfl _ _ _ _ _;refine bn 1 Z ?_;refine bR Z Z Z Z gN ?_;refine ao<|al<|sT<|sG<|ch Z (bc Z Z (jf am))<|sA Z<|ao ?_
   exact aE (s2,i+1,ns++[FK.gZ [k0,k1,k2,k3,k4,k5] xs],vs++[.slice A8 xs.length c8],.slice A9 (ns.length+1) c9) ⟨by rw[show O.toNat-(i+1)=O.toNat-i-1 by omega];exact Lw,by simp only;omega,by simp[Lm],by simp[K4],λq h=>⟨(I q h).1,⟨K6,K7⟩,λz hz=>(by rcases List.mem_append.1 hz with h'|h';exact K3 z h';simp at h';rw[h'];exact J7 (I q h).2.2.1 (I q h).2.2.2)⟩⟩ (by simp only;omega) bV<|Hf K4
 ·
  refine aK gt ?_;rintro A9 c9 rfl _ _ _ _ _;refine aL<|aA<|az<|ap<|sT<|sQ<|sQ ?_
  by_cases hs:∃e,s=.error e
  ·
   obtain⟨e,rfl⟩:=hs;refine sG<|cG 2 Z Z<|bF (au Z) (rmem.bad .head)<|sN<|aM Z<|sQ<|sZ Z<|dj 0 Z (bI (ps:=[]) (vs:=[]) (cs:=#[aw 0,cx]) Z Z Z Z Z)<|bQ Z (au Z) (rmem.start .head) ?_
   refine dA 2 Z<|bh Z (m:=2) (vs:=[aw 0,cx]) Z Z Z Z er cY ?_
   refine dK [true] (ai (rmem.start bJ) ak)<|dj 3 Z (aU Z)<|bC Z (aU Z)<|dE<|sT<|an<|aC ?_
   exact eP [_] rfl (bM (vs:=[aw 0,cx]) Z Z Z Z (bm Z)) (bL Z) (bL Z) (.inr ⟨1,e,FK.B8 hT.symm,am,rfl,rfl⟩)<|Ent.drop.trans<|Ent.drop.trans<|Ent.cons<|Ent.drop.trans<|Ent.drop.trans<|rq _
  ·
   obtain⟨q,rfl⟩:∃q,s=.ok q:=by
    cases s with
    | error e=>exact absurd ⟨e,rfl⟩ hs
    | ok q=>exact⟨q,rfl⟩
   obtain⟨hq,⟨K6,K7⟩,K3⟩:=mt q rfl;have wf:FK.iF bs 0=.ok (⟨dl,ns⟩,q):=by
    have hk:O.toNat-i=0:=by
     rw[Lc,Lb] at T;simp[xh] at T;omega
    rw[hk] at hT;exact hT.symm
   refine sG<|cG 2 Z Z<|bF (au Z) (rmem.bad .head)<|sN<|aj Z<|ae<|sT<|sQ<|sS<|cG 1 Z Z<|bF (au Z) (rmem.place .head)<|ch Z (bp Z Z)<|sP (bz Z Z Z) ?_
   refine sN ?_;refine aB Z (λLp=>?_) λLp=>?_
   ·
    refine sQ<|sZ Z<|dj 0 Z (bI (ps:=[]) (vs:=[]) (cs:=#[aw 0,cx]) Z Z Z Z Z)<|cv Z Z<|dt 1 Z Z Z<|bQ Z (au Z) (rmem.place .head) ?_
    refine dA 5 Z<|bh Z (m:=2) (vs:=[aw 0,cx]) Z Z Z Z er cY ?_
    refine dK [true] (ai (rmem.place bJ) ak)<|dj 6 Z (aU Z)<|bC Z (aU Z)<|dE<|sT<|an<|aC ?_
    exact eP [_] rfl (bM (vs:=[aw 0,cx]) Z Z Z Z (bm Z)) (bL Z) (bL Z) (.inr ⟨1,q,yg wf am,am,rfl,rfl⟩)<|Ent.drop.trans<|Ent.drop.trans<|Ent.cons<|Ent.drop.trans<|Ent.drop.trans<|rq _
   ·
    refine ae<|sT<|sQ<|aq (EB K4)<|sG<|bF (bO (vs:=[aw dl,.slice A9 ns.length c9]) Z) (bm Z) ?_
    refine sO<|mz Z Z Z hE (mY ⟨dl,ns⟩ A9 c9) (nodesOwn.at .head λnd hnd=>(K3 nd hnd).i64) ?_
    rintro v m ⟨rfl,rfl⟩;refine aZ<|sM Z<|bT Z Z<|bT Z Z<|sA Z<|sB Z<|sQ<|bq Z<|sP (dc Z Z Z)<|sN ?_
    refine aB Z (λIn=>?_) λIn=>?_
    ·
     refine sS<|sP (bI (ps:=[]) (vs:=[]) (cs:=#[aw 0,cx]) Z Z Z Z Z)<|sM Z<|sM Z ?_
     refine sO<|bh Z (m:=2) (vs:=[aw 0,cx]) Z Z Z Z er cY ?_
     refine sA Z<|sB Z<|an<|aC ?_
     exact eP [_] rfl (bM (vs:=[aw 0,cx]) Z Z Z Z (bm Z)) (bL Z) (bL Z) (.inr ⟨_,_,C8 wf am In,In,rfl,rfl⟩)<|Ent.drop.trans<|Ent.drop.trans<|Ent.drop.trans<|Ent.cons Ent.drop
    ·
     refine ae<|sT<|sS<|bF (bO (vs:=[aw dl,.slice A9 ns.length c9]) Z) (bm Z) ?_
     refine sO<|bh Z (m:=2) (vs:=[aw dl,.slice A9 ns.length c9]) Z Z Z Z er cY ?_
     refine sA Z<|sB Z<|an ?_
     exact eP [_,_] rfl (bM (vs:=[aw dl,.slice A9 ns.length c9]) Z Z Z Z (bm Z)) (bL Z) (bL Z) (.inl ⟨⟨dl,ns⟩,A9,c9,yh wf am am,K3,rfl,rfl⟩)<|Ent.drop.trans<|Ent.cons<|Ent.drop.trans<|Ent.cons Ent.drop
end
end Go.Y
namespace FR
structure CutOk (M M0:En):Prop where
 lr:M0.KT=M.KT
 time:M0.time=M.time
 timers:M0.timers=M.timers
 KX:M0.KX=M.KX
 runs:M0.runs.Sublist M.runs
theorem Cutd.ok (h:Cutd M V):CutOk M V:=by
 rcases h with⟨_,rfl⟩|⟨_,j,_,rfl⟩
 · exact⟨rfl,rfl,rfl,rfl,List.Sublist.refl _⟩
 · exact⟨rfl,rfl,rfl,rfl,List.eraseIdx_sublist _ _⟩
def JS:Option Nat->Int
 | none=>-1
 | some j=>j
end FR
namespace Go.Y
open Go.Proofs
open Go Go.RowKit Go.SL
section
variable {r:List HP} [H:HasRef l e a ns M r]
include H
theorem Cz {w:World} (hw:Holds E w l):M.runs.length<=a.rc:=by
 obtain⟨F,h⟩:=rK (H:=H) hw;rcases h.1.2 with⟨K,I⟩|⟨g,cap,J,I,_,_,O,_⟩
 · omega
 · injection I with _ _ I
   omega
theorem Iu (O:a.rg=some N):∀w,Holds E w l->mr (some ⟨N,0,none⟩) (gW a (M.runs.take j)) w:=λw hw T I i v K=>by
 obtain⟨F,h⟩:=rK (H:=H) hw;rw[qX O] at h;injection I with I;subst I;refine h.1.cells (g:=N) Z i v ?_;have e1:gW a M.runs=gW a (M.runs.take j)++gW a (M.runs.drop j):=by
  show M.runs.flatMap _=_;rw[<-List.flatMap_append,List.take_append_drop]
 rw[e1,List.getElem?_append_left (gfGet.1 K).1];exact K
theorem Ix (hg:a.rg=some N) (hj:j<=M.runs.length):∀w,Holds E w l->mr (if a.rc=j then some ⟨N,0,none⟩ else(some ⟨N,0,none⟩:Option Addr).map (·.add (j*8))) (gW a (M.runs.drop j)) w:=λw hw ad I i v T=>by
 have Y:=Cz (H:=H) hw;obtain⟨F,h⟩:=rK (H:=H) hw;rw[qX hg] at h;have hi:=(gfGet.1 T).1;have K:(gW a (M.runs.drop j)).length=(M.runs.length-j)*8:=by rw[cM (k:=8) λ_=>rfl,List.length_drop]
 rw[K] at hi;rw[if_neg am] at I;injection I with I;subst I;have e1:gW a M.runs=gW a (M.runs.take j)++gW a (M.runs.drop j):=by
  show M.runs.flatMap _=_;rw[<-List.flatMap_append,List.take_append_drop]
 have O:(gW a (M.runs.take j)).length=j*8:=by rw[cM (k:=8) λ_=>rfl,List.length_take];omega
 have:=h.1.cells (g:=N) rfl (j*8+i) v (by
  rw[e1,List.getElem?_append_right am,O,Nat.add_sub_cancel_left];exact T)
 rw[add_plain] at this;show w.cell? (((⟨N,0,none⟩:Addr).add (j*8)).add i)=some v;rw[add_plain,add_plain];simpa[Nat.add_assoc] using this
end
theorem xG {l:List FR.Rn}:∀u∈gW a l,u.oneCell'=true:=λv J=>by
 obtain⟨x,_,I⟩:=List.mem_flatMap.1 J;simp only[List.mem_cons,List.not_mem_nil,or_false] at I;rcases I with rfl|rfl|rfl|rfl|rfl|rfl|rfl|rfl<;>rfl
theorem cut8 {g:Nat}:Value.slice (if c=0 then some (⟨g,0,none⟩:Addr) else(some (⟨g,0,none⟩:Addr)).map (·.add (0*8))) (n-0) (c-0)=dp g n c:=by
 rw[Option.map_some,add_plain];simp
abbrev Dg:FR.St:=⟨1,0,0,0,0,0,0⟩
abbrev vy (id J I:Nat) (K:Int) (nv v:Value):List Value:=[aQ id,aw K,nv,aw 1,aQ J,aw I,v,aw 0]
theorem IY (x:Operand) (vs:List Value) (h:vs.length=7):Instr.fill (λi=>some (i*7,7)) (Array.map (λx=>(Value.agg #[aw 0,aw 0,.int .u64 0,.int .u64 0,.int .u64 0,aw 0,aw 0]).cells[x%(Value.agg #[aw 0,aw 0,.int .u64 0,.int .u64 0,.int .u64 0,aw 0,aw 0]).cells.size]!) (Array.range (1*7))) ((List.map (λx=>x.fst) [((0:Nat),x)]).zip [.agg vs.toArray])=some vs.toArray:=by
 have e1:Array.range (1*7)=#[0,1,2,3,4,5,6]:=rfl;rw[e1]
 match vs,h with
 | [v0,v1,v2,v3,v4,v5,v6],_=>simp[Instr.fill,Value.cells]
def Jp (e:Nat) (a:RfA) (ns:List ND) (M:FR.En) (bs:List UInt8) (p:HP) (v:Value) (m:List HP):Prop:=
 (∃x y,FK.nF bs=.error (x,y)/\v=.tuple #[aQ 0,aw x,aw y]/\m=[aV e a ns M,bx ns,p])\/
 (∃f,FK.nF bs=.ok f/\M.runs.length=6/\FR.Old M none/\v=.tuple #[aQ 0,aw 5,aw (-1)]/\m=[aV e a ns M,bx ns,p])\/
 (∃f I J nd,FK.nF bs=.ok f/\FR.Cutd M I/\v=.tuple #[aQ (M.KT+1),aw 0,aw (-1)]/\m=[aV e J (nd::ns) (I.submit f),bx (nd::ns),p])
theorem dec_fit {f:FK.Flow} (h:FK.nF bs=.ok f):FK.Fit f:=by
 unfold FK.nF at h
 split at h
 · cases h
 · split at h
   · cases h
   · split at h
     · rename_i hc
       injection h with h;subst h;exact FK.oJ hc
     · cases h
theorem wy {p:HP} (hp:Reads p A bs) (hl:bs.length<=1099511627776) (hF:FR.Fine M) (_:(M.runs.map (·.id)).Nodup) (Lp:∀u∈M.runs,u.id<=M.KT) (Mb:M.KT<9223372036854775807) (h6:M.runs.length<=6) (hq:M.KX.length<=400):dQ 66 [aX e,.slice A bs.length c] [aV e a ns M,bx ns,p] (Jp e a ns M bs p):=by
 refine bA Tryz.func66 Z λE fr hE=>cJ<|sS<|sA Z<|sA Z<|sB Z<|sQ ?_
 by_cases hd:∃f,FK.nF bs=.ok f
 ·
  obtain⟨f,hd⟩:=hd;have Fd:=dec_fit hd;have Mf:=Fd.head.2.1;have LQ:=Fd.head.2.2;refine sG<|sM Z ?_
  refine bU Z (th hp hl) gfE2 ?_;rintro v m hv;obtain⟨I,J,Md,rfl,rfl⟩:=hv.ok hd;refine aD<|sM Z<|bT Z Z<|bT Z Z<|bT Z Z<|sO (cH (z:=.agg #[aw 0,cx]) Z λb7=>?_)
  refine sO<|bh (vs:=[aw f.deadline,.slice I f.KW.length J]) Z (m:=2) Z Z Z Z er (by show 0+2<=2;omega) ?_
  refine aG b7 #[aw f.deadline,.slice I f.KW.length J] rfl<|sA Z<|sB Z<|sQ<|bq Z<|sP (dc (r:=false) Z Z Z)<|sN<|aj Z<|ae<|sT ?_
  refine sQ<|cw (X:=RfA×FR.En) (λ_=>[(7,aX b7),(0,aX e)]) (λx=>blk b7 29 #[aw f.deadline,.slice I f.KW.length J]::aV e x.1 ns x.2::nodesOwn (.slice I f.KW.length J) f.KW::p::bx ns::fr) (λx=>FR.Cutd M x.2) ?_ ?_
  ·
   refine sS<|cG 2 Z Z<|bF (au (v:=iP a M) Z) (cg Z)<|sP (bp Z Z)<|sP (aY Z Z Z)<|sN ?_
   refine aB Z (λLg=>?_) λLg=>?_
   ·
    have K7:M.runs.length=6:=by have:(M.runs.length:Int)=6:=Lg;omega
    refine sS<|sB Z<|sQ<|sS<|sB Z<|ag ?_
    refine aO (X:=Nat×Option Nat) (λx=>[(11,aw x.1),(10,aw (FR.JS x.2)),(7,aX b7),(0,aX e)]) (λ_=>blk b7 29 #[aw f.deadline,.slice I f.KW.length J]::nodesOwn (.slice I f.KW.length J) f.KW::p::aV e a ns M::bx ns::fr) (λx=>x.1<=M.runs.length/\FR.OldTo M x.1 x.2) (λx=>M.runs.length-x.1) (0,none) ⟨Nat.zero_le _,⟨λj h=>(by cases h),λ_ k u h=>am⟩⟩ bV aT ?_;rintro⟨i,o⟩ ⟨hi,ho⟩;replace hi:i<=M.runs.length:=hi;replace ho:FR.OldTo M i o:=ho;refine sQ<|bq Z<|cG 2 Z Z<|bF (au (v:=iP a M) Z) (cg Z)<|sP (bp Z Z)<|sP (bz Z Z Z)<|sN ?_
    refine aB Z (λLh=>?_) λLh=>?_
    ·
     have mt:i<M.runs.length:=by have:(i:Int)<(M.runs.length:Int):=Lh;omega
     obtain⟨u,K⟩:∃u,M.runs[i]?=some u:=⟨M.runs[i],by simp[mt]⟩;refine bt (p:=∃g,a.rg=some g) (λw hw=>gY K hw) λ⟨gr,O⟩=>?_;refine ae<|sT ?_
     refine sQ<|cw (X:=Nat×Option Nat) (λx=>[(11,aw i),(10,aw (FR.JS x.2)),(7,aX b7),(0,aX e)]) (λ_=>blk b7 29 #[aw f.deadline,.slice I f.KW.length J]::nodesOwn (.slice I f.KW.length J) f.KW::p::aV e a ns M::bx ns::fr) (λx=>FR.OldTo M (i+1) x.2) ?_ ?_
     ·
      refine ag<|sQ ?_
      by_cases hE:0<u.ended
      ·
       by_cases hN:o=none
       ·
        subst hN;refine sZ Z<|dT Z Z<|dt 2 Z Z Z<|bQ Z (au (v:=dp gr M.runs.length a.rc) Z) (dF O)<|cv Z Z<|bC Z (aS (z:=8) Z Z Z Z mt)<|bC Z (bl 7 Z)<|bQ Z (au (v:=aw (u.ended:Int)) Z) (cE (j:=7) K O Z)<|bC Z (ig Z Z am)<|cv Z Z<|dv 10 Z (bd Z)<|dv 11 Z (bz (r:=true) Z Z Z)<|dv 12 Z (bd Z)<|dy 13 Z Z<|dy 14 Z Z<|dy 15 Z Z<|dy 16 Z Z<|dy 17 Z Z<|dy 18 Z Z ?_
        refine dy 19 Z Z<|dy 20 Z Z<|dy 21 Z Z<|dy 22 Z Z<|dy 23 Z Z<|dy 24 Z Z<|dy 25 Z Z<|dy 26 Z Z<|dy 27 Z Z<|dy 28 Z Z<|dy 29 Z Z<|dv 30 Z (aF Z Z Z)<|bC Z (aF Z Z Z)<|dE<|sT<|aM Z<|sG<|sM Z<|sA Z<|ao ?_
        exact al<|aW (i,some i) (ho.take K hE (.inl Z)) bV aT
       ·
        obtain⟨j,rfl⟩:∃j,o=some j:=Option.ne_none_iff_exists'.1 hN;obtain⟨Me,ru,hj,LL,LM⟩:=ho.yes j rfl;have K8:=(gfGet.1 hj).1
        by_cases hL:u.ended<ru.ended
        ·
         refine sZ Z<|dT Z Z<|dt 2 Z Z Z<|bQ Z (au (v:=dp gr M.runs.length a.rc) Z) (dF O)<|cv Z Z<|bC Z (aS (z:=8) Z Z Z Z mt)<|bC Z (bl 7 Z)<|bQ Z (au (v:=aw (u.ended:Int)) Z) (cE (j:=7) K O Z)<|bC Z (ig Z Z am)<|cv Z Z<|dv 10 Z (bd Z)<|dv 11 Z (cS Z Z (by show ¬((j:Nat):Int)<0;omega))<|dv 12 Z (bd Z)<|dv 13 Z (bd Z)<|dv 14 Z (cI Z)<|dv 15 Z (bl 2 Z)<|mg 16 Z (au (v:=dp gr M.runs.length a.rc) Z) (dF O)<|dv 17 Z (bd Z)<|dv 18 Z (aS (z:=8) Z Z Z Z mt) ?_
         refine dv 19 Z (bl 7 Z)<|mg 20 Z (au (v:=aw (u.ended:Int)) Z) (cE (j:=7) K O Z)<|dv 21 Z (bd Z)<|dv 22 Z (cI Z)<|dv 23 Z (bl 2 Z)<|mg 24 Z (au (v:=dp gr M.runs.length a.rc) Z) (dF O)<|dv 25 Z (bd Z)<|dv 26 Z (aS (z:=8) (i:=j) Z Z Z Z K8)<|dv 27 Z (bl 7 Z)<|mg 28 Z (au (v:=aw (ru.ended:Int)) Z) (cE (j:=7) hj O Z)<|dv 29 Z (ie Z Z am)<|dv 30 Z (aF Z Z Z)<|bC Z (aF Z Z Z)<|dE<|sT<|aM Z<|sG<|sM Z<|sA Z<|ao ?_
         exact al<|aW (i,some i) (ho.take K hE (.inr ⟨j,ru,rfl,hj,hL⟩)) bV aT
        ·
         refine sZ Z<|dT Z Z<|dt 2 Z Z Z<|bQ Z (au (v:=dp gr M.runs.length a.rc) Z) (dF O)<|cv Z Z<|bC Z (aS (z:=8) Z Z Z Z mt)<|bC Z (bl 7 Z)<|bQ Z (au (v:=aw (u.ended:Int)) Z) (cE (j:=7) K O Z)<|bC Z (ig Z Z am)<|cv Z Z<|dv 10 Z (bd Z)<|dv 11 Z (cS Z Z (by show ¬((j:Nat):Int)<0;omega))<|dv 12 Z (bd Z)<|dv 13 Z (bd Z)<|dv 14 Z (cI Z)<|dv 15 Z (bl 2 Z)<|mg 16 Z (au (v:=dp gr M.runs.length a.rc) Z) (dF O)<|dv 17 Z (bd Z)<|dv 18 Z (aS (z:=8) Z Z Z Z mt) ?_
         refine dv 19 Z (bl 7 Z)<|mg 20 Z (au (v:=aw (u.ended:Int)) Z) (cE (j:=7) K O Z)<|dv 21 Z (bd Z)<|dv 22 Z (cI Z)<|dv 23 Z (bl 2 Z)<|mg 24 Z (au (v:=dp gr M.runs.length a.rc) Z) (dF O)<|dv 25 Z (bd Z)<|dv 26 Z (aS (z:=8) (i:=j) Z Z Z Z K8)<|dv 27 Z (bl 7 Z)<|mg 28 Z (au (v:=aw (ru.ended:Int)) Z) (cE (j:=7) hj O Z)<|dv 29 Z (cS Z Z am)<|dv 30 Z (aF Z Z Z)<|bC Z (aF Z Z Z)<|dE<|sT<|aj Z<|ae<|al ?_
         exact aW (i,some j) (ho.skip K (.inr ⟨j,ru,rfl,hj,am⟩)) bV aT
      ·
       refine sZ Z<|dT Z Z<|dt 2 Z Z Z<|bQ Z (au (v:=dp gr M.runs.length a.rc) Z) (dF O)<|cv Z Z<|bC Z (aS (z:=8) Z Z Z Z mt)<|bC Z (bl 7 Z)<|bQ Z (au (v:=aw (u.ended:Int)) Z) (cE (j:=7) K O Z)<|bC Z (lF Z Z am)<|cv Z Z<|dy 10 Z Z<|dy 11 Z Z<|dy 12 Z Z<|dy 13 Z Z<|dy 14 Z Z<|dy 15 Z Z<|dy 16 Z Z<|dy 17 Z Z<|dy 18 Z Z ?_
       refine dy 19 Z Z<|dy 20 Z Z<|dy 21 Z Z<|dy 22 Z Z<|dy 23 Z Z<|dy 24 Z Z<|dy 25 Z Z<|dy 26 Z Z<|dy 27 Z Z<|dy 28 Z Z<|dy 29 Z Z<|dy 30 Z Z<|bC Z (aF Z Z Z)<|dE<|sT<|aj Z<|ae<|al ?_
       exact aW (i,o) (ho.skip K (.inl am)) bV aT
     rintro⟨_,o2⟩ Lm;replace Lm:FR.OldTo M (i+1) o2:=Lm;refine sG<|ch Z (bc (r:=((i+1:Nat):Int)) Z Z dP)<|sA Z<|ao ?_
     exact aE (i+1,o2) ⟨mt,Lm⟩ (by show M.runs.length-(i+1)<M.runs.length-i;omega) bV aT
    ·
     have LR:i=M.runs.length:=by have:¬(i:Int)<(M.runs.length:Int):=Lh;omega
     rw[LR] at ho;have K6:=ho.old;refine aL<|aA<|az<|ap<|sT<|sQ<|sQ ?_
     by_cases hN:o=none
     ·
      subst hN;exact sG<|ch Z (bz (r:=true) Z Z Z)<|sN<|aM Z<|sS<|sA Z<|sA Z<|sB Z<|an<|aC<|nN<|gH [aV e a ns M,bx ns,p] rfl Z Z Z (.inr (.inl ⟨f,hd,K7,K6,rfl,rfl⟩))<|Ent.drop.trans<|Ent.drop.trans ((bo bJ bJ))
     ·
      obtain⟨j,rfl⟩:∃j,o=some j:=Option.ne_none_iff_exists'.1 hN;obtain⟨ru,hj,LL,LM⟩:=K6.some j rfl;have K8:=(gfGet.1 hj).1;refine bt (p:=∃g,a.rg=some g) (λw hw=>gY hj hw) λ⟨gr,O⟩=>?_;refine bt (p:=M.runs.length<=a.rc) (λw hw=>Cz hw) λLy=>?_;refine sG<|ch Z (cS Z Z (by show ¬((j:Nat):Int)<0;omega))<|sN<|aj Z<|ae<|sT<|sS<|cG 2 Z Z<|bF (au (v:=dp gr M.runs.length a.rc) Z) (dF O)<|ch Z (H5 (v':=dp gr j a.rc) (fx (z:=8) (a:=0) (b:=j) Z Z Z Z ⟨_,rfl⟩ (Nat.zero_le _) am) cut8) ?_
      refine aq (Ent.row0 (e:=150) (size:=8)) ?_;refine dq rfl (bZ (k:=0) (xs:=[]) rfl rfl vK rfl am rfl rfl .head (news:=gW a (M.runs.take j)) (by rw[cM (k:=8) λ_=>rfl,List.length_take];omega) (λh=>by cases h) (Iu O) xG (by unfold maxLen;omega) am λLz L5=>?_);refine sB Z<|sG<|sM Z<|sM Z<|cG 2 Z Z<|bF (au (v:=dp gr M.runs.length a.rc) Z) (dF O)<|sM Z ?_
      refine sP (bc (r:=((j+1:Nat):Int)) Z Z (by rw[show(FR.JS (some j))=(j:Int) from Z,jf am];omega)) ?_;refine sP (fx (z:=8) (a:=j+1) (b:=M.runs.length) Z Z Z ⟨_,rfl⟩ rfl am Ly) ?_;refine dq rfl (bZ rfl rfl vK rfl am rfl rfl (HasVal.sel (v:=Lz)) (news:=gW a (M.runs.drop (j+1))) (by rw[cM (k:=8) λ_=>rfl,List.length_drop]) (λh=>by split at h<;>cases h) (Ix O am) xG (by unfold maxLen;omega) am λMc L6=>?_);refine da Z<|bn 2 Z ?_
      have LS:([]++gW a (M.runs.take j))++gW a (M.runs.drop (j+1))=gW a (M.runs.eraseIdx j):=by
       rw[List.nil_append,List.eraseIdx_eq_take_drop_succ];show _=(M.runs.take j++M.runs.drop (j+1)).flatMap _;rw[List.flatMap_append]
      rw[LS];refine sO (IH hj (by rw[List.length_eraseIdx_of_lt K8];omega) .head Z Z Z gt λo3 c3=>?_);exact ao<|aW (a.rn o3 c3,M.cut j) (.inr ⟨K7,j,K6,rfl⟩) bV gfE1
   ·
    have K7:M.runs.length≠6:=by have:¬(M.runs.length:Int)=6:=Lg;omega
    exact ae<|aW (a,M) (.inl ⟨K7,rfl⟩) bV<|Ent.cons gfE2
  rintro⟨a0,T⟩ hC;replace hC:FR.Cutd M T:=hC;refine aq (l':=blk b7 29 #[aw f.deadline,.slice I f.KW.length J]::aV e a0 ns T::nodesOwn (.slice I f.KW.length J) f.KW::p::bx ns::fr) aT ?_;have hO:=hC.ok;refine sQ ?_;have Lb:T.KT=M.KT:=hO.lr;have Ln:∀v∈T.runs,v.id<=M.KT:=λv hv=>Lp v (hO.runs.subset hv);have LT:T.runs.length<=M.runs.length:=hO.runs.length_le;have LU:T.KX=M.KX:=hO.KX;have Lc:T.time=M.time:=hO.time;have Ld:T.timers=M.timers:=hO.timers;have Lo:=hF.time;have Lq:=hF.timers;have LV:=Fd.head.1;unfold FK.span at LV;refine sG<|cG 4 Z Z<|bF (au (v:=aQ T.KT) Z) (cg Z)<|sP (bc (r:=((M.KT+1:Nat):Int)) Z Z (by rw[Lb,km];omega))<|da Z<|bn 4 Z ?_
  refine sO<|rH (a:=a0) (M:=T) (M':={T with KT:=M.KT+1}) Z Z Z am Z Z Z Z ?_
  refine sN<|sQ ?_
  obtain⟨M1,Y⟩:∃M1:FR.En,M1={T with KT:=M.KT+1}:=⟨_,rfl⟩;rw[<-Y];refine sZ Z<|dT Z Z<|dt 4 Z Z Z<|bQ Z (au (v:=aQ (M.KT+1)) Z) (cg (a:=a0) (M:=M1) (show some (aQ M1.KT)=_ by rw[Y]))<|bQ Z (bO (vs:=[aw f.deadline,.slice I f.KW.length J]) Z) (bm Z)<|bC Z (bI (cs:=(vy (M.KT+1) 0 0 f.deadline (.slice I f.KW.length J) cx).toArray) Z Z Z Z Z)<|vw Z (cH (z:=.agg #[.int .u64 0,aw 0,cx,aw 0,.int .u64 0,aw 0,cx,aw 0]) Z λwf=>(dK [true,true] (ai (bm Z) (ai (cg (a:=a0) (M:=M1) (show some (aQ M1.KT)=_ by rw[Y])) ak)) ?_))
  refine dA 7 Z<|bh (vs:=vy (M.KT+1) 0 0 f.deadline (.slice I f.KW.length J) cx) Z (m:=8) Z Z Z Z er (by show 0+8<=8;omega) ?_
  refine dK [false,false] ak<|dE<|sT<|sQ<|aG wf (vy (M.KT+1) 0 0 f.deadline (.slice I f.KW.length J) cx).toArray Z ?_
  have Lr:M1.time=M.time:=by rw[Y];exact Lc
  have Le:M1.timers=M.timers:=by rw[Y];exact Ld
  refine sZ Z<|dT Z Z<|dt 0 Z Z Z<|bQ Z (au (v:=aQ M.time) Z) (cg (a:=a0) (M:=M1) (show some (aQ M1.time)=_ by rw[Lr]))<|bC Z (bl 0 Z)<|bQ Z (au (v:=aw f.deadline) Z) (ah Z) ?_
  refine dA 6 Z<|ed Z (jJ M.time f.deadline Lo am am) aT ?_
  rintro v m ⟨rfl,rfl⟩;refine aZ<|dK [false,false] ak<|dj 7 Z (bl 4 Z) ?_
  refine dA 8 Z<|co Z Z Z Z Z gN ?_
  refine dK [] ak<|dE<|sT<|sQ<|aG wf (vy (M.KT+1) (M.later f.deadline.toNat) 0 f.deadline (.slice I f.KW.length J) cx).toArray Z<|sG<|sM Z ?_
  refine bW Z (jI (M:=M1) (by rw[Le];omega)) gfE1 ?_;refine aa ?_;obtain⟨M2,K3⟩:∃M2:FR.En,M2={M1 with timers:=M1.timers+1}:=⟨_,rfl⟩;rw[<-K3,Le];refine bn 5 Z ?_;refine bR Z Z Z Z gN ?_;refine sN<|sQ<|sQ<|aG wf (vy (M.KT+1) (M.later f.deadline.toNat) (M.timers+1) f.deadline (.slice I f.KW.length J) cx).toArray Z<|sG<|sB Z<|ag ?_
  refine aO (X:=Nat×Value) (λx=>[(14,aw x.1),(13,aX wf),(7,aX b7),(0,aX e)]) (λx=>blk wf 150 (vy (M.KT+1) (M.later f.deadline.toNat) (M.timers+1) f.deadline (.slice I f.KW.length J) x.2).toArray::row 194 7 x.2 x.1 (zV (List.replicate x.1 Dg))::aV e a0 ns M2::blk b7 29 #[aw f.deadline,.slice I f.KW.length J]::nodesOwn (.slice I f.KW.length J) f.KW::p::bx ns::fr) (λx=>x.1<=f.KW.length) (λx=>f.KW.length-x.1) (0,cx) (Nat.zero_le _) bV (Ent.cons Ent.row0) ?_;rintro⟨k,v⟩ hk;replace hk:k<=f.KW.length:=hk;refine aq (l':=blk wf 150 (vy (M.KT+1) (M.later f.deadline.toNat) (M.timers+1) f.deadline (.slice I f.KW.length J) v).toArray::row 194 7 v k (zV (List.replicate k Dg))::aV e a0 ns M2::blk b7 29 #[aw f.deadline,.slice I f.KW.length J]::nodesOwn (.slice I f.KW.length J) f.KW::p::bx ns::fr) aT ?_;refine sQ<|bq Z<|bn 1 Z<|bF (au (v:=.slice I f.KW.length J) Z) (ah Z)<|sP (bp Z Z)<|sP (bz Z Z Z)<|sN ?_
  refine aB Z (λIn=>?_) λIn=>?_
  ·
   have LW:k<f.KW.length:=by have:(k:Int)<(f.KW.length:Int):=In;omega
   refine ae<|sT<|sQ<|ag<|sG<|bn 6 Z<|bF (au (v:=v) Z) (ah Z)<|sP (bI (cs:=(qQ Dg).toArray) Z Z Z Z Z) ?_
   refine sO (dh (m:=1) (z:=.agg #[aw 0,aw 0,.int .u64 0,.int .u64 0,.int .u64 0,aw 0,aw 0]) (size:=7) (ps:=[(0,.tmp 127)]) (vs:=[.agg (qQ Dg).toArray]) (cs:=(qQ Dg).toArray) Z Z Z Z am am Z (IY _ _ Z) λL7=>?_);refine dq rfl (bZ rfl rfl Fw rfl am rfl rfl (HasVal.sel (v:=v)) (news:=qQ Dg) rfl (λh=>by cases h) (eO (λj u h=>by simpa using h)) er (by unfold maxLen;omega) am λL8 LA=>?_);refine aK .head λA9 c9 Li _ _ _ _ _=>?_;subst Li;refine bn 6 Z ?_;refine bR Z Z Z Z gN ?_;refine ao<|al<|sT<|aG wf (vy (M.KT+1) (M.later f.deadline.toNat) (M.timers+1) f.deadline (.slice I f.KW.length J) (.slice A9 (k+1) c9)).toArray Z<|sG<|ch Z (bc (r:=((k+1:Nat):Int)) Z Z dP)<|sA Z<|ao ?_
   have Ls:zV (List.replicate k Dg)++qQ Dg=zV (List.replicate (k+1) Dg):=by rw[List.replicate_succ'];show _=(List.replicate k Dg++[Dg]).flatMap qQ;rw[List.flatMap_append];simp
   exact aE (k+1,.slice A9 (k+1) c9) LW (by show f.KW.length-(k+1)<f.KW.length-k;omega) bV (by rw[Ls];exact aJ)
  ·
   have LX:k=f.KW.length:=by have:¬(k:Int)<(f.KW.length:Int):=In;omega
   rw[LX];refine aK bJ λA9 c9 Li LB LC _ _ _=>?_;obtain⟨g9,rfl⟩:∃g,A9=some ⟨g,0,none⟩:=by
    cases A9 with
    | none=>have:=(LB rfl).1;omega
    | some ad=>obtain⟨g,rfl⟩:=LC ad rfl;exact⟨g,rfl⟩
   subst Li;refine mc kT λvs LD=>(aK .head λA1 c1 Lj LE LF _ _ _=>?_);injection Lj with Lj _ LP;subst Lj;subst LP;obtain⟨gn,rfl⟩:∃g,I=some ⟨g,0,none⟩:=by
    cases I with
    | none=>have:=(LE rfl).1;omega
    | some ad=>obtain⟨g,rfl⟩:=LF ad rfl;exact⟨g,rfl⟩
   refine aq (Hr LD) ?_;obtain⟨nd,K4⟩:∃nd:ND,nd=⟨gn,J,vs,f.KW⟩:=⟨_,rfl⟩;obtain⟨pr,Ll⟩:∃pr:RP,pr=⟨nd,g9,c9⟩:=⟨_,rfl⟩;obtain⟨u,K⟩:∃u:FR.Rn,u=⟨M.KT+1,f,1,M.later f.deadline.toNat,M.timers+1,List.replicate f.KW.length Dg,0⟩:=⟨_,rfl⟩;have K9:u.KV.length=f.KW.length:=by rw[K];simp
   have LY:vy (M.KT+1) (M.later f.deadline.toNat) (M.timers+1) f.deadline (dp gn f.KW.length J) (dp g9 f.KW.length c9)=gT pr u:=by
    rw[Ll,K4];show _=[Value.int .u64 u.id,aw u.fl.deadline,_,aw u.state,.int .u64 u.till,aw u.tillAt,dp g9 u.KV.length c9,aw u.ended];rw[K9,K]
    rfl
   have Lt:row 194 7 (dp g9 f.KW.length c9) f.KW.length (zV (List.replicate f.KW.length Dg))=row 194 7 (jg pr u) u.KV.length (zV u.KV):=by
    rw[Ll];show _=row _ 7 (dp g9 u.KV.length c9) _ _;rw[K9,K]
   rw[LY,Lt,<-K4];have Lu:∀v∈M2.runs,v.id≠u.id:=λv hv=>by
    have h1:v∈T.runs:=by rw[K3,Y] at hv;exact hv
    have:=Ln v h1;rw[K];show v.id≠M.KT+1;omega
   refine aL<|aA<|az<|ap<|sT<|sQ<|sZ Z<|dT Z Z<|cv Z Z<|dt 2 Z Z Z<|bQ Z (au (v:=iP a0 M2) Z) (cg Z)<|bQ Z (bO (vs:=gT pr u) Z) (bm Z) ?_
   refine dA 6 Z (dh (m:=1) (z:=zRun) (size:=8) (ps:=[(0,.tmp 136)]) (vs:=[.agg (gT pr u).toArray]) (cs:=(gT pr u).toArray) Z Z Z Z am am Z (CZ _ _ Z) λL9=>?_);refine dK [false,true] (ai (cg Z) ak) ?_;refine bt (p:=jx a0 ns M2) (λw hw=>l8 hw) λLG=>?_;refine aq (iK (a:=a0) (M:=M2)) ?_;have Lv:M2.runs.length=T.runs.length:=by rw[K3,Y]
   refine dR 7 rfl rfl (bZ rfl rfl vK rfl am rfl rfl bJ (news:=gT pr u) rfl (λh=>by cases h) (eO (λj u h=>by simpa using h)) er (by unfold maxLen;omega) am λMa LH=>?_);refine dK [false] ak (aK .head λA8 c8 LJ _ LK _ _ _=>?_);obtain⟨o8,rfl⟩:=nW LK;subst LJ;refine dj 8 Z (cI Z)<|bC Z (bl 2 Z) ?_
   refine dA 10 Z<|co (b:=e) (cs:=pR a0 M2) Z Z Z Z Z cY ?_
   refine dK [] ak<|dE<|sT<|sQ ?_
   have Lw:pr.nd=nd:=by rw[Ll]
   have BT:=λr=>Cf (e:=e) (c:=c8) (o:=o8) (p:=pr) (r:=r) LG (by rw[Lw,K4,K]) Lu;rw[Lw] at BT;obtain⟨a2,LN⟩:∃a2:RfA,a2=⟨o8,c8,a0.qg,a0.qc,λid=>if id=u.id then pr else a0.ra id⟩:=⟨_,rfl⟩;obtain⟨M3,K5⟩:∃M3:FR.En,M3={M2 with runs:=M2.runs++[u]}:=⟨_,rfl⟩;rw[<-LN,<-K5] at BT;have Lx:M3=T.begin f:=by
    rw[K5,K3,Y,K];unfold FR.En.begin FR.En.later;simp only[Lb,Lc,Ld]
   have LZ:M3.runs.length=T.runs.length+1:=by rw[K5,<-Lv];simp
   have L3:M3.runs[T.runs.length]?=some u:=by rw[K5,<-Lv];simp
   have L4:M3.KX=M.KX:=by rw[K5,K3,Y];exact LU
   refine aq ((Ent.cons (Ent.cons (Ent.cons (Ent.cons gfE3)))).trans (BT _)) ?_;refine aq (Ent.cons (Ent.drop.trans ((Ent.cons gfE3).trans w9))) ?_;refine sG<|sM Z<|cG 2 Z Z<|bF (au (v:=iP a2 M3) Z) (cg Z)<|sP (bp Z Z)<|sP (cV (r:=(T.runs.length:Int)) Z Z (by rw[LZ,jf am];omega)) ?_
   refine bU Z (s9 L3 (by rw[K9,K]) (by rw[K];exact wa Fd) (by rw[K];exact LQ) (by rw[L4];omega)) aT ?_;rintro v m ⟨rfl,g5,c5,rfl⟩;refine aD<|sN<|sS<|bn 0 Z<|bF (au (v:=aQ (M.KT+1)) Z) (ah (show some (aQ u.id)=_ by rw[K]))<|sA Z<|sA Z<|sB Z<|an ?_
   exact gH [aV e (a2.q g5 c5) (nd::ns) (M3.wakeN T.runs.length u.KV.length),bx (nd::ns),p] rfl Z Z Z (.inr (.inr ⟨f,T,_,nd,hd,hC,rfl,by rw[K9,Lx];rfl⟩))<|Ent.cons<|Ent.cons<|Ent.drop.trans Ent.drop
 ·
  obtain⟨ex,ey,hd⟩:∃x y,FK.nF bs=.error (x,y):=by
   cases h:FK.nF bs with
   | ok f=>exact absurd ⟨f,h⟩ hd
   | error x=>exact⟨x.1,x.2,rfl⟩
  refine sG<|sM Z ?_
  refine bU Z (th hp hl) gfE2 ?_;rintro v m hv;obtain⟨LO,rfl,rfl⟩:=hv.bad hd;refine aa<|sM Z<|bT Z Z<|bT Z Z<|bT Z Z<|sO (cH (z:=.agg #[aw 0,cx]) Z λb7=>?_)
  refine sO<|bh (vs:=[aw 0,cx]) Z (m:=2) Z Z Z Z er (by show 0+2<=2;omega) ?_
  refine sA Z<|sB Z<|sQ<|bq Z<|sP (vZ Z Z LO)<|sN<|aM Z<|bq Z<|sM Z<|sA Z<|sA Z<|sA Z<|ao ?_
  exact sT<|an<|aC<|gH [aV e a ns M,bx ns,p] rfl Z Z Z (.inl ⟨ex,ey,hd,rfl,rfl⟩)<|Ent.drop.trans ((bo bJ bJ))
abbrev ec (t:FR.Tmd):List Value:=[.int .u64 t.run,aw t.node,.int .u64 t.due,aw t.seq]
abbrev zTmd:Value:=.agg #[.int .u64 0,aw 0,.int .u64 0,aw 0]
theorem m9:fd Tryz.prog 208 zTmd 4 32:=by unfold fd;kernel_rfl
theorem oH (x:Operand) (vs:List Value) (h:vs.length=4):Instr.fill (λi=>some (i*4,4)) (Array.map (λx=>zTmd.cells[x%zTmd.cells.size]!) (Array.range (1*4))) ((List.map (λx=>x.fst) [((0:Nat),x)]).zip [.agg vs.toArray])=some vs.toArray:=by
 have e1:Array.range (1*4)=#[0,1,2,3]:=rfl;rw[e1]
 match vs,h with
 | [v0,v1,v2,v3],_=>simp[Instr.fill,Value.cells]
abbrev nQ (v:Value) (l:List FR.Tmd):HP:=row 208 4 v l.length (l.flatMap ec)
section
variable {l:List FR.Tmd} {r:List HP} {b g:Nat} {t:FR.Tmd} {e:TypeId}
theorem tRow_snoc:Ent (row 208 4 v (l.length+1) (l.flatMap ec++ec t)::r) (nQ v (l++[t])::r):=by
 have e1:(l++[t]).length=l.length+1:=by simp
 have e2:(l++[t]).flatMap ec=l.flatMap ec++ec t:=by rw[List.flatMap_append];simp
 unfold nQ;rw[e1,e2];exact aT
theorem cut4:Value.slice (if c=0 then some (⟨g,0,none⟩:Addr) else(some (⟨g,0,none⟩:Addr)).map (·.add (0*4))) (n-0) (c-0)=dp g n c:=by
 rw[Option.map_some,add_plain];simp
theorem srcRow {l:List HP} {o:Nat} {size m:Nat} {xs news:List Value} [s:HasRow g l e size m m c xs r] (h:∀j u,news[j]?=some u->xs[o+j]?=some u):∀w,Holds E w l->mr (some ⟨g,o,none⟩) news w:=λw hw K I j v J=>by
 injection I with I;subst I;have:=EX (g:=g) (o:=o) h w hw j v J;rw[add_plain];exact this
theorem CG:∀u∈l.flatMap ec,u.oneCell'=true:=λv I=>by
 obtain⟨x,_,E⟩:=List.mem_flatMap.1 I;simp only[List.mem_cons,List.not_mem_nil,or_false] at E;rcases E with rfl|rfl|rfl|rfl<;>rfl
theorem FJ:∀(j:Nat) (u:Value),((l.take b).flatMap ec)[j]?=some u->(l.flatMap ec)[0+j]?=some u:=λj u h=>by
 have e1:l.flatMap ec=(l.take b).flatMap ec++(l.drop b).flatMap ec:=by rw[<-List.flatMap_append,List.take_append_drop]
 rw[Nat.zero_add,e1,List.getElem?_append_left (gfGet.1 h).1];exact h
theorem FL (I:b<=l.length):∀(j:Nat) (u:Value),((l.drop b).flatMap ec)[j]?=some u->(l.flatMap ec)[b*4+j]?=some u:=λj u h=>by
 have e1:l.flatMap ec=(l.take b).flatMap ec++(l.drop b).flatMap ec:=by rw[<-List.flatMap_append,List.take_append_drop]
 have E:((l.take b).flatMap ec).length=b*4:=by rw[cM (k:=4) λ_=>rfl,List.length_take];omega
 rw[e1,List.getElem?_append_right am,E,Nat.add_sub_cancel_left];exact h
theorem Ik {l:List HP} {lt:List FR.Tmd} [s:HasRow g l e 4 lt.length lt.length c (lt.flatMap ec) r] (K:b<=lt.length) (hc:lt.length<=c):∀w,Holds E w l->mr (if c=b then some ⟨g,0,none⟩ else(some ⟨g,0,none⟩:Option Addr).map (·.add (b*4))) ((lt.drop b).flatMap ec) w:=λw hw O I j v J=>by
 have hi:=(gfGet.1 J).1;rw[cM (k:=4) λ_=>rfl,List.length_drop] at hi;rw[if_neg am] at I;injection I with I;subst I;have:=EX (g:=g) (o:=b*4) (FL K) w hw j v J;show w.cell? (((⟨g,0,none⟩:Addr).add (b*4)).add j)=some v;rw[add_plain,add_plain];simpa using this
theorem If:∀(j:Nat) (u:Value),(dB t)[j]?=some u->(ec t)[j]?=some u:=λj u h=>by
 rcases j with _|_|_|j
 · exact h
 · exact h
 · exact h
 · cases h
theorem wx {e:Nat} (h:FR.Fine M):dx G 76 [aX e] [aV e a ns M] λv m=>m=[aV e a ns M,row 99 3 v M.tms.length (M.tms.flatMap dB)]:=by
 have LJ:=eS h;have LW:=h.runs;refine bA Tryz.func76 Z λE fr hE=>aa<|sS<|sB Z<|sS<|sB Z ?_
 refine sQ<|cw (X:=Value) (λv=>[(3,v),(0,aX e)]) (λv=>nQ v M.tml::aV e a ns M::fr) (λ_=>M.tml.length<=30000) ?_ ?_
 ·
  refine sS<|sB Z<|ag ?_
  refine aO (X:=Nat×Value) (λx=>[(4,aw x.1),(3,x.2),(0,aX e)]) (λx=>nQ x.2 (M.tmlN x.1)::aV e a ns M::fr) (λx=>x.1<=M.runs.length/\(M.tmlN x.1).length<=x.1*300) (λx=>M.runs.length-x.1) (0,cx) ⟨Nat.zero_le _,cu _⟩ bV Ent.row0 ?_;rintro⟨i,v3⟩ ⟨hi,I⟩;replace hi:i<=M.runs.length:=hi;replace I:(M.tmlN i).length<=i*300:=I;refine aq (l':=nQ v3 (M.tmlN i)::aV e a ns M::fr) aT ?_;refine sQ<|bq Z<|cG 2 Z Z<|bF (au (v:=iP a M) Z) (cg Z)<|sP (bp Z Z)<|sP (bz Z Z Z)<|sN ?_
  refine aB Z (λK8=>?_) λK8=>?_
  ·
   have In:i<M.runs.length:=by have:(i:Int)<(M.runs.length:Int):=K8;omega
   obtain⟨u,hu⟩:∃u,M.runs[i]?=some u:=⟨M.runs[i],by simp[In]⟩;have LX:=LJ u (bY hu);have Lh:=FR.Du hu;refine bt (p:=∃g,a.rg=some g) (λw hw=>gY hu hw) λ⟨gr,hg⟩=>?_;refine ae<|sT<|sQ<|ag<|sS<|cG 2 Z Z<|bF (au (v:=dp gr M.runs.length a.rc) Z) (dF hg)<|ch Z (aS (z:=8) Z Z Z Z In)<|bF (bO (vs:=gT (a.ra u.id) u) Z) (kX hu hg)<|sO (cH (z:=.agg #[.int .u64 0,aw 0,cx,aw 0,.int .u64 0,aw 0,cx,aw 0]) Z λb5=>?_)
   refine sO<|bh (vs:=gT (a.ra u.id) u) Z (m:=8) Z Z Z Z er (by show 0+8<=8;omega) ?_
   refine aG b5 (gT (a.ra u.id) u).toArray Z<|sN<|sQ<|sS<|bn 3 Z<|bF (au (v:=aw u.state) Z) (ah Z)<|sP (dc Z Z Z)<|sN ?_
   refine aB Z (λK9=>?_) λK9=>?_
   ·
    have Fd:u.state≠1:=K9;refine aL<|aA<|ap<|sT<|sG<|ch Z (bc (r:=((i+1:Nat):Int)) Z Z dP)<|sA Z<|ao ?_
    have Lt:u.acts i=[]:=if_neg Fd;have e1:M.tmlN (i+1)=M.tmlN i:=by rw[Lh,Lt];simp
    exact aE (i+1,v3) ⟨In,by show(M.tmlN (i+1)).length<=_;rw[e1];omega⟩ (by show M.runs.length-(i+1)<M.runs.length-i;omega) bV (by show Ent _ (nQ v3 (M.tmlN (i+1))::_);rw[e1];exact Ent.drop)
   ·
    have Fd:u.state=1:=Decidable.not_not.1 K9;obtain⟨hd,Lp⟩:∃hd:FR.Ac,hd=⟨i,-1,false,u.till,u.tillAt⟩:=⟨_,rfl⟩;obtain⟨La,LG⟩:∃La,La=M.tmlN i:=⟨_,rfl⟩;rw[<-LG] at I Lh ⊢;obtain⟨C,hC⟩:∃C:Nat->List FR.Tmd,C=λk=>La++(hd::FR.kp i u.KV k).map (FR.Ac.tmd u.id):=⟨_,rfl⟩;have Lu:C 0=La++[hd.tmd u.id]:=by rw[hC];rfl
    refine ae<|sT<|bq Z<|bn 0 Z<|bF (au (v:=aQ u.id) Z) (ah Z)<|bn 4 Z<|bF (au (v:=aQ u.till) Z) (ah Z)<|sP (bI (cs:=#[aQ u.id,aw (-1),aQ u.till]) Z Z Z Z Z)<|bn 5 Z<|bF (au (v:=aw (u.tillAt:Int)) Z) (ah Z)<|sP (bI (cs:=(ec (hd.tmd u.id)).toArray) Z Z Z Z (by rw[Lp];rfl)) ?_
    refine sO (dh (m:=1) (z:=zTmd) (size:=4) (ps:=[(0,.tmp 39)]) (vs:=[.agg (ec (hd.tmd u.id)).toArray]) (cs:=(ec (hd.tmd u.id)).toArray) Z Z Z Z am am Z (oH _ _ Z) λLU=>?_);refine dq rfl (bZ rfl rfl m9 rfl am rfl rfl (HasVal.sel (v:=v3)) (news:=ec (hd.tmd u.id)) rfl (λh=>by cases h) (eO (λj u h=>by simpa using h)) er (by unfold maxLen;omega) am λLx LQ=>?_);refine sB Z<|sQ<|aq tRow_snoc ?_
    rw[<-Lu];refine sG<|sB Z<|ag ?_
    refine aO (X:=Nat×Value) (λx=>[(6,aw x.1),(5,aX b5),(4,aw i),(3,x.2),(0,aX e)]) (λx=>nQ x.2 (C x.1)::blk b5 150 (gT (a.ra u.id) u).toArray::aV e a ns M::fr) (λx=>x.1<=u.KV.length/\(C x.1).length<=La.length+1+2*x.1) (λx=>u.KV.length-x.1) (0,Lx) ⟨Nat.zero_le _,by rw[Lu];simp⟩ bV aJ ?_;rintro⟨k,v⟩ ⟨hk,Lr⟩;replace hk:k<=u.KV.length:=hk;replace Lr:(C k).length<=La.length+1+2*k:=Lr;refine aq (l':=nQ v (C k)::blk b5 150 (gT (a.ra u.id) u).toArray::aV e a ns M::fr) aT ?_;refine sQ<|bq Z<|bn 6 Z<|bF (au (v:=jg (a.ra u.id) u) Z) (ah Z)<|sP (bp Z Z)<|sP (bz Z Z Z)<|sN ?_
    refine aB Z (λLb=>?_) λLb=>?_
    ·
     have Li:k<u.KV.length:=by have:(k:Int)<(u.KV.length:Int):=Lb;omega
     obtain⟨s,hs⟩:∃s,u.KV[k]?=some s:=⟨u.KV[k],by simp[Li]⟩;obtain⟨Y,Le⟩:∃Y:FR.Ac,Y=⟨i,(k:Int),false,s.fin,s.finAt⟩:=⟨_,rfl⟩;obtain⟨a2,Lq⟩:∃a2:FR.Ac,a2=⟨i,(k:Int),true,s.sign,s.signAt⟩:=⟨_,rfl⟩;have LK:s.acts i k=(if s.state=3\/s.state=4 then[Y] else[])++if s.state=3/\0<s.sign then[a2] else[]:=by rw[Le,Lq];rfl
     obtain⟨D1,BT⟩:∃D1,D1=C k++if s.state=3\/s.state=4 then[Y.tmd u.id] else[]:=⟨_,rfl⟩
     have T:C (k+1)=D1++if s.state=3/\0<s.sign then[a2.tmd u.id] else[]:=by
      rw[BT,hC];simp only[FR.tI hs,LK,List.map_append,List.map_cons,List.append_assoc,List.cons_append]
      congr 3
      congr 1
      · split<;>rfl
      · split<;>rfl
     have LT:D1.length<=(C k).length+1:=by rw[BT,List.length_append];split<;>simp
     have Lv:(C (k+1)).length<=La.length+1+2*(k+1):=by rw[T,List.length_append];have:(if s.state=3/\0<s.sign then[a2.tmd u.id] else[]).length<=1:=(by split<;>simp);omega
     refine ae<|sT ?_
     refine sQ<|cw (X:=Value) (λv=>[(6,aw k),(5,aX b5),(4,aw i),(3,v),(0,aX e)]) (λv=>nQ v (C (k+1))::blk b5 150 (gT (a.ra u.id) u).toArray::aV e a ns M::fr) (λ_=>True) ?_ ?_
     ·
      refine ag<|sS<|bn 6 Z<|bF (au (v:=jg (a.ra u.id) u) Z) (ah Z)<|ch Z (aS (z:=7) Z Z Z Z Li)<|bF (bO (vs:=qQ s) Z) (qW hu Z hs)<|sO (cH (z:=.agg #[aw 0,aw 0,.int .u64 0,.int .u64 0,.int .u64 0,aw 0,aw 0]) Z λb7=>?_)
      refine sO<|bh (vs:=qQ s) Z (m:=7) Z Z Z Z er (by show 0+7<=7;omega) ?_
      refine aG b7 (qQ s).toArray Z<|sN ?_
      refine sQ<|cw (X:=Value) (λv=>[(7,aX b7),(6,aw k),(5,aX b5),(4,aw i),(3,v),(0,aX e)]) (λv=>nQ v D1::blk b7 194 (qQ s).toArray::blk b5 150 (gT (a.ra u.id) u).toArray::aV e a ns M::fr) (λ_=>True) ?_ ?_
      ·
       refine sQ ?_
       by_cases hA:s.state=3
       ·
        refine sG<|bn 0 Z<|bF (au (v:=aw s.state) Z) (ah Z)<|sP (cT Z Z hA)<|sM Z<|bg Z<|bg Z<|bg Z<|sP (aF Z Z Z)<|sN<|aM Z<|sG<|sM Z<|bn 0 Z<|bF (au (v:=aQ u.id) Z) (ah Z)<|sM Z<|bn 3 Z<|bF (au (v:=aQ s.fin) Z) (ah Z)<|sP (bI (cs:=#[aQ u.id,aw (k:Int),aQ s.fin]) Z Z Z Z Z) ?_
        refine bn 5 Z<|bF (au (v:=aw (s.finAt:Int)) Z) (ah Z)<|sP (bI (cs:=(ec (Y.tmd u.id)).toArray) Z Z Z Z (by rw[Le];rfl)) ?_
        refine sO (dh (m:=1) (z:=zTmd) (size:=4) (ps:=[(0,.tmp 71)]) (vs:=[.agg (ec (Y.tmd u.id)).toArray]) (cs:=(ec (Y.tmd u.id)).toArray) Z Z Z Z am am Z (oH _ _ Z) λLy=>?_);refine dq rfl (bZ rfl rfl m9 rfl am rfl rfl (HasVal.sel (v:=v)) (news:=ec (Y.tmd u.id)) rfl (λh=>by cases h) (eO (λj u h=>by simpa using h)) er (by unfold maxLen;omega) am λLc Lm=>?_);refine sA Z<|ao ?_
        have e1:D1=C k++[Y.tmd u.id]:=by rw[BT,if_pos (.inl hA)]
        exact aW Lc trivial bV<|tRow_snoc.trans (by rw[e1];exact Ent.cons Ent.drop)
       ·
        by_cases hB:s.state=4
        ·
         refine sG<|bn 0 Z<|bF (au (v:=aw s.state) Z) (ah Z)<|sP (d8 Z Z hA)<|sM Z<|ci (bl 0 Z)<|fN (au (v:=aw s.state) Z) (ah Z)<|ci (cT Z Z hB)<|sP (aF Z Z Z)<|sN<|aM Z<|sG<|sM Z<|bn 0 Z<|bF (au (v:=aQ u.id) Z) (ah Z)<|sM Z<|bn 3 Z<|bF (au (v:=aQ s.fin) Z) (ah Z)<|sP (bI (cs:=#[aQ u.id,aw (k:Int),aQ s.fin]) Z Z Z Z Z) ?_
         refine bn 5 Z<|bF (au (v:=aw (s.finAt:Int)) Z) (ah Z)<|sP (bI (cs:=(ec (Y.tmd u.id)).toArray) Z Z Z Z (by rw[Le];rfl)) ?_
         refine sO (dh (m:=1) (z:=zTmd) (size:=4) (ps:=[(0,.tmp 71)]) (vs:=[.agg (ec (Y.tmd u.id)).toArray]) (cs:=(ec (Y.tmd u.id)).toArray) Z Z Z Z am am Z (oH _ _ Z) λLy=>?_);refine dq rfl (bZ rfl rfl m9 rfl am rfl rfl (HasVal.sel (v:=v)) (news:=ec (Y.tmd u.id)) rfl (λh=>by cases h) (eO (λj u h=>by simpa using h)) er (by unfold maxLen;omega) am λLc Lm=>?_);refine sA Z<|ao ?_
         have e1:D1=C k++[Y.tmd u.id]:=by rw[BT,if_pos (.inr hB)]
         exact aW Lc trivial bV<|tRow_snoc.trans (by rw[e1];exact Ent.cons Ent.drop)
        ·
         refine sG<|bn 0 Z<|bF (au (v:=aw s.state) Z) (ah Z)<|sP (d8 Z Z hA)<|sM Z<|ci (bl 0 Z)<|fN (au (v:=aw s.state) Z) (ah Z)<|ci (d8 Z Z hB)<|sP (aF Z Z Z)<|sN<|aj Z<|ae ?_
         have e1:D1=C k:=by rw[BT,if_neg (by rintro(h|h);exact hA h;exact hB h),List.append_nil]
         exact aW v trivial bV (by rw[e1];exact gfE1)
      intro v1 _;refine sQ ?_
      by_cases hA:s.state=3
      ·
       by_cases hB:0<s.sign
       ·
        refine sG<|bn 0 Z<|bF (au (v:=aw s.state) Z) (ah Z)<|sP (cT Z Z hA)<|sM Z<|ci (bl 4 Z)<|fN (au (v:=aQ s.sign) Z) (ah Z)<|ci (ig Z Z am)<|sP (aF Z Z Z)<|sN<|aM Z<|sG<|sM Z<|bn 0 Z<|bF (au (v:=aQ u.id) Z) (ah Z)<|sM Z<|bn 4 Z<|bF (au (v:=aQ s.sign) Z) (ah Z)<|sP (bI (cs:=#[aQ u.id,aw (k:Int),aQ s.sign]) Z Z Z Z Z) ?_
        refine bn 6 Z<|bF (au (v:=aw (s.signAt:Int)) Z) (ah Z)<|sP (bI (cs:=(ec (a2.tmd u.id)).toArray) Z Z Z Z (by rw[Lq];rfl)) ?_
        refine sO (dh (m:=1) (z:=zTmd) (size:=4) (ps:=[(0,.tmp 91)]) (vs:=[.agg (ec (a2.tmd u.id)).toArray]) (cs:=(ec (a2.tmd u.id)).toArray) Z Z Z Z am am Z (oH _ _ Z) λLV=>?_);refine dq rfl (bZ rfl rfl m9 rfl am rfl rfl (HasVal.sel (v:=v1)) (news:=ec (a2.tmd u.id)) rfl (λh=>by cases h) (eO (λj u h=>by simpa using h)) er (by unfold maxLen;omega) am λLz LR=>?_);refine sA Z<|ao<|al ?_
        rw[if_pos ⟨hA,hB⟩] at T;exact aW Lz trivial bV<|tRow_snoc.trans (by rw[T];exact Ent.cons (Ent.drop.trans Ent.drop))
       ·
        refine sG<|bn 0 Z<|bF (au (v:=aw s.state) Z) (ah Z)<|sP (cT Z Z hA)<|sM Z<|ci (bl 4 Z)<|fN (au (v:=aQ s.sign) Z) (ah Z)<|ci (lF Z Z am)<|sP (aF Z Z Z)<|sN<|aj Z<|ae<|al ?_
        rw[if_neg (λh=>hB h.2),List.append_nil] at T;exact aW v1 trivial bV (by rw[T];exact Ent.cons Ent.drop)
      ·
       refine sG<|bn 0 Z<|bF (au (v:=aw s.state) Z) (ah Z)<|sP (d8 Z Z hA)<|sM Z<|bg Z<|bg Z<|bg Z<|sP (aF Z Z Z)<|sN<|aj Z<|ae<|al ?_
       rw[if_neg (λh=>hA h.1),List.append_nil] at T;exact aW v1 trivial bV (by rw[T];exact Ent.cons Ent.drop)
     intro vn _;refine sG<|ch Z (bc (r:=((k+1:Nat):Int)) Z Z dP)<|sA Z<|ao ?_
     exact aE (k+1,vn) ⟨Li,Lv⟩ (by show u.KV.length-(k+1)<u.KV.length-k;omega) bV aT
    ·
     have LL:k=u.KV.length:=by have:¬(k:Int)<(u.KV.length:Int):=Lb;omega
     refine aL<|aA<|az<|ap<|al<|sT<|sG<|ch Z (bc (r:=((i+1:Nat):Int)) Z Z dP)<|sA Z<|ao ?_
     have e1:M.tmlN (i+1)=C k:=by
      have e2:u.acts i=hd::FR.kp i u.KV u.KV.length:=by rw[Lp];exact if_pos Fd
      rw[Lh,e2,hC,LL]
     exact aE (i+1,v) ⟨In,by show(M.tmlN (i+1)).length<=(i+1)*300;rw[e1];omega⟩ (by show M.runs.length-(i+1)<M.runs.length-i;omega) bV (by show Ent _ (nQ v (M.tmlN (i+1))::_);rw[e1];exact Ent.cons Ent.drop)
  ·
   have Lj:i=M.runs.length:=by have:¬(i:Int)<(M.runs.length:Int):=K8;omega
   refine aL<|aA<|az<|ap ?_
   rw[Lj] at I ⊢;exact aW v3 (by show M.tml.length<=30000;have e1:M.tml.length=(M.tmlN M.runs.length).length:=rfl;omega) bV aT
 intro v0 Lg;refine sS<|sB Z<|sQ<|ag ?_
 refine aO (X:=Value×List FR.Tmd×Value×List FR.Tmd) (λx=>[(8,x.2.2.1),(3,x.1),(0,aX e)]) (λx=>nQ x.1 x.2.1::row 99 3 x.2.2.1 x.2.2.2.length (x.2.2.2.flatMap dB)::aV e a ns M::fr) (λx=>x.2.2.2++FR.sel x.2.1 x.2.1.length=M.tms/\x.2.1.length+x.2.2.2.length<=30000) (λx=>x.2.1.length) (v0,M.tml,cx,[]) ⟨rfl,Lg⟩ bV (Ent.cons Ent.row0) ?_;rintro⟨v3,lt,v8,out⟩ ⟨mt,K6⟩;replace mt:out++FR.sel lt lt.length=M.tms:=mt;replace K6:lt.length+out.length<=30000:=K6;refine aq (l':=nQ v3 lt::row 99 3 v8 out.length (out.flatMap dB)::aV e a ns M::fr) aT ?_;refine aK .head λA3 c3 LA LB LC Ln _ _=>?_;subst LA;refine sQ<|bq Z<|sP (bp Z Z)<|sP (dY Z Z Z)<|sN ?_
 refine aB Z (λLd=>?_) λLd=>?_
 ·
  have K7:0<lt.length:=by have:(0:Int)<(lt.length:Int):=Ld;omega
  obtain⟨g3,rfl⟩:∃g,A3=some ⟨g,0,none⟩:=by
   cases A3 with
   | none=>have:=(LB rfl).1;omega
   | some ad=>obtain⟨g,rfl⟩:=LC ad rfl;exact⟨g,rfl⟩
  refine ae<|sT<|ag<|sS<|sB Z<|sQ<|sS<|sB Z<|ag ?_
  refine aO (X:=Nat×Nat) (λx=>[(10,aw x.1),(9,aw x.2),(8,v8),(3,dp g3 lt.length c3),(0,aX e)]) (λ_=>nQ (dp g3 lt.length c3) lt::row 99 3 v8 out.length (out.flatMap dB)::aV e a ns M::fr) (λx=>x.1<=lt.length/\x.2=FR.ez lt x.1/\x.2<lt.length) (λx=>lt.length-x.1) (1,0) ⟨K7,(FR.Cd lt).symm,K7⟩ bV aT ?_;rintro⟨i,b⟩ ⟨hi,hb,J⟩;replace hi:i<=lt.length:=hi;replace hb:b=FR.ez lt i:=hb;replace J:b<lt.length:=J;obtain⟨tb,K⟩:∃tb,lt[b]?=some tb:=⟨lt[b],by simp[J]⟩;refine sQ<|bq Z<|ch Z (bp Z Z)<|sP (bz Z Z Z)<|sN ?_
  refine aB Z (λwf=>?_) λwf=>?_
  ·
   have I:i<lt.length:=by have:(i:Int)<(lt.length:Int):=wf;omega
   obtain⟨ti,O⟩:∃ti,lt[i]?=some ti:=⟨lt[i],by simp[I]⟩;have K3:=FR.qw O (by rw[<-hb];exact K);refine ae<|sT ?_
   refine sQ<|cw (X:=Nat) (λx=>[(10,aw i),(9,aw x),(8,v8),(3,dp g3 lt.length c3),(0,aX e)]) (λ_=>nQ (dp g3 lt.length c3) lt::row 99 3 v8 out.length (out.flatMap dB)::aV e a ns M::fr) (λx=>x=FR.ez lt (i+1)/\x<lt.length) ?_ ?_
   ·
    refine ag<|sQ ?_
    by_cases h1:ti.due<tb.due
    ·
     refine sZ Z<|dT Z Z<|cv Z Z<|bC Z (aS (z:=4) (i:=i) Z Z Z Z I)<|bC Z (bl 0 Z)<|bC Z (bl 2 Z) ?_
     refine jh 5 Z (au (v:=aQ ti.due) Z) (fX (em (k:=4) (f:=ec) (λ_=>rfl) O 2 _ Z)) ?_;refine dj 6 Z (bd Z)<|cv Z Z<|bC Z (aS (z:=4) (i:=b) Z Z Z Z J)<|bC Z (bl 0 Z)<|bC Z (bl 2 Z) ?_
     refine jh 11 Z (au (v:=aQ tb.due) Z) (fX (em (k:=4) (f:=ec) (λ_=>rfl) K 2 _ Z)) ?_;refine dj 12 Z (ie Z Z am)<|cv Z Z<|dy 14 Z Z<|dy 15 Z Z<|dy 16 Z Z<|dy 17 Z Z<|dy 18 Z Z<|dy 19 Z Z<|dy 20 Z Z<|dy 21 Z Z<|dy 22 Z Z<|dy 23 Z Z<|dy 24 Z Z<|dy 25 Z Z<|dy 26 Z Z<|dy 27 Z Z<|dy 28 Z Z<|dy 29 Z Z<|dy 30 Z Z<|dy 31 Z Z ?_
     refine dy 32 Z Z<|dy 33 Z Z<|dy 34 Z Z<|dy 35 Z Z<|dy 36 Z Z<|dy 37 Z Z<|dy 38 Z Z<|dy 39 Z Z<|bC Z (aF Z Z Z)<|dE<|sT<|aM Z<|sG<|sM Z<|sA Z<|ao<|al ?_
     exact aW i ⟨by rw[K3,if_pos (.inl h1)],I⟩ bV aT
    ·
     by_cases h2:ti.due=tb.due
     ·
      by_cases h3:ti.seq<tb.seq
      ·
       refine sZ Z<|dT Z Z<|cv Z Z<|bC Z (aS (z:=4) (i:=i) Z Z Z Z I)<|bC Z (bl 0 Z)<|bC Z (bl 2 Z) ?_
       refine jh 5 Z (au (v:=aQ ti.due) Z) (fX (em (k:=4) (f:=ec) (λ_=>rfl) O 2 _ Z)) ?_;refine dj 6 Z (bd Z)<|cv Z Z<|bC Z (aS (z:=4) (i:=b) Z Z Z Z J)<|bC Z (bl 0 Z)<|bC Z (bl 2 Z) ?_
       refine jh 11 Z (au (v:=aQ tb.due) Z) (fX (em (k:=4) (f:=ec) (λ_=>rfl) K 2 _ Z)) ?_;refine dj 12 Z (cS Z Z am)<|cv Z Z<|dv 14 Z (bd Z)<|dv 15 Z (bd Z)<|dv 16 Z (aS (z:=4) (i:=i) Z Z Z Z I)<|dv 17 Z (bl 0 Z)<|dv 18 Z (bl 2 Z) ?_
       refine mg 19 Z (au (v:=aQ ti.due) Z) (fX (em (k:=4) (f:=ec) (λ_=>rfl) O 2 _ Z)) ?_;refine dv 20 Z (bd Z)<|dv 21 Z (bd Z)<|dv 22 Z (aS (z:=4) (i:=b) Z Z Z Z J)<|dv 23 Z (bl 0 Z)<|dv 24 Z (bl 2 Z) ?_
       refine mg 25 Z (au (v:=aQ tb.due) Z) (fX (em (k:=4) (f:=ec) (λ_=>rfl) K 2 _ Z)) ?_;refine dv 26 Z (cT Z Z am)<|dv 27 Z (bd Z)<|dv 28 Z (bd Z)<|dv 29 Z (bd Z)<|dv 30 Z (aS (z:=4) (i:=i) Z Z Z Z I)<|dv 31 Z (bl 3 Z) ?_
       refine mg 32 Z (au (v:=aw (ti.seq:Int)) Z) (fX (em (k:=4) (f:=ec) (λ_=>rfl) O 3 _ Z)) ?_;refine dv 33 Z (bd Z)<|dv 34 Z (bd Z)<|dv 35 Z (aS (z:=4) (i:=b) Z Z Z Z J)<|dv 36 Z (bl 3 Z) ?_
       refine mg 37 Z (au (v:=aw (tb.seq:Int)) Z) (fX (em (k:=4) (f:=ec) (λ_=>rfl) K 3 _ Z)) ?_;refine dv 38 Z (ie Z Z am)<|dv 39 Z (aF Z Z Z)<|bC Z (aF Z Z Z)<|dE<|sT<|aM Z<|sG<|sM Z<|sA Z<|ao<|al ?_
       exact aW i ⟨by rw[K3,if_pos (.inr ⟨h2,h3⟩)],I⟩ bV aT
      ·
       refine sZ Z<|dT Z Z<|cv Z Z<|bC Z (aS (z:=4) (i:=i) Z Z Z Z I)<|bC Z (bl 0 Z)<|bC Z (bl 2 Z) ?_
       refine jh 5 Z (au (v:=aQ ti.due) Z) (fX (em (k:=4) (f:=ec) (λ_=>rfl) O 2 _ Z)) ?_;refine dj 6 Z (bd Z)<|cv Z Z<|bC Z (aS (z:=4) (i:=b) Z Z Z Z J)<|bC Z (bl 0 Z)<|bC Z (bl 2 Z) ?_
       refine jh 11 Z (au (v:=aQ tb.due) Z) (fX (em (k:=4) (f:=ec) (λ_=>rfl) K 2 _ Z)) ?_;refine dj 12 Z (cS Z Z am)<|cv Z Z<|dv 14 Z (bd Z)<|dv 15 Z (bd Z)<|dv 16 Z (aS (z:=4) (i:=i) Z Z Z Z I)<|dv 17 Z (bl 0 Z)<|dv 18 Z (bl 2 Z) ?_
       refine mg 19 Z (au (v:=aQ ti.due) Z) (fX (em (k:=4) (f:=ec) (λ_=>rfl) O 2 _ Z)) ?_;refine dv 20 Z (bd Z)<|dv 21 Z (bd Z)<|dv 22 Z (aS (z:=4) (i:=b) Z Z Z Z J)<|dv 23 Z (bl 0 Z)<|dv 24 Z (bl 2 Z) ?_
       refine mg 25 Z (au (v:=aQ tb.due) Z) (fX (em (k:=4) (f:=ec) (λ_=>rfl) K 2 _ Z)) ?_;refine dv 26 Z (cT Z Z am)<|dv 27 Z (bd Z)<|dv 28 Z (bd Z)<|dv 29 Z (bd Z)<|dv 30 Z (aS (z:=4) (i:=i) Z Z Z Z I)<|dv 31 Z (bl 3 Z) ?_
       refine mg 32 Z (au (v:=aw (ti.seq:Int)) Z) (fX (em (k:=4) (f:=ec) (λ_=>rfl) O 3 _ Z)) ?_;refine dv 33 Z (bd Z)<|dv 34 Z (bd Z)<|dv 35 Z (aS (z:=4) (i:=b) Z Z Z Z J)<|dv 36 Z (bl 3 Z) ?_
       refine mg 37 Z (au (v:=aw (tb.seq:Int)) Z) (fX (em (k:=4) (f:=ec) (λ_=>rfl) K 3 _ Z)) ?_;refine dv 38 Z (cS Z Z am)<|dv 39 Z (aF Z Z Z)<|bC Z (aF Z Z Z)<|dE<|sT<|aj Z<|ae<|al ?_
       exact aW b ⟨by rw[K3,if_neg (by rintro(h|h);exact h1 h;exact h3 h.2)];exact hb,J⟩ bV aT
     ·
      refine sZ Z<|dT Z Z<|cv Z Z<|bC Z (aS (z:=4) (i:=i) Z Z Z Z I)<|bC Z (bl 0 Z)<|bC Z (bl 2 Z) ?_
      refine jh 5 Z (au (v:=aQ ti.due) Z) (fX (em (k:=4) (f:=ec) (λ_=>rfl) O 2 _ Z)) ?_;refine dj 6 Z (bd Z)<|cv Z Z<|bC Z (aS (z:=4) (i:=b) Z Z Z Z J)<|bC Z (bl 0 Z)<|bC Z (bl 2 Z) ?_
      refine jh 11 Z (au (v:=aQ tb.due) Z) (fX (em (k:=4) (f:=ec) (λ_=>rfl) K 2 _ Z)) ?_;refine dj 12 Z (cS Z Z am)<|cv Z Z<|dv 14 Z (bd Z)<|dv 15 Z (bd Z)<|dv 16 Z (aS (z:=4) (i:=i) Z Z Z Z I)<|dv 17 Z (bl 0 Z)<|dv 18 Z (bl 2 Z) ?_
      refine mg 19 Z (au (v:=aQ ti.due) Z) (fX (em (k:=4) (f:=ec) (λ_=>rfl) O 2 _ Z)) ?_;refine dv 20 Z (bd Z)<|dv 21 Z (bd Z)<|dv 22 Z (aS (z:=4) (i:=b) Z Z Z Z J)<|dv 23 Z (bl 0 Z)<|dv 24 Z (bl 2 Z) ?_
      refine mg 25 Z (au (v:=aQ tb.due) Z) (fX (em (k:=4) (f:=ec) (λ_=>rfl) K 2 _ Z)) ?_;refine dv 26 Z (d8 Z Z am)<|dv 27 Z (bd Z)<|dy 28 Z Z<|dy 29 Z Z<|dy 30 Z Z<|dy 31 Z Z<|dy 32 Z Z<|dy 33 Z Z<|dy 34 Z Z<|dy 35 Z Z<|dy 36 Z Z<|dy 37 Z Z<|dy 38 Z Z<|dv 39 Z (aF Z Z Z)<|bC Z (aF Z Z Z)<|dE<|sT<|aj Z<|ae<|al ?_
      exact aW b ⟨by rw[K3,if_neg (by rintro(h|h);exact h1 h;exact h2 h.1)];exact hb,J⟩ bV aT
   rintro b2 ⟨LH,Ls⟩;refine sG<|ch Z (bc (r:=((i+1:Nat):Int)) Z Z dP)<|sA Z<|ao ?_
   exact aE (i+1,b2) ⟨I,LH,Ls⟩ (by show lt.length-(i+1)<lt.length-i;omega) bV aT
  ·
   have Lj:i=lt.length:=by have:¬(i:Int)<(lt.length:Int):=wf;omega
   rw[Lj] at hb;refine aL<|aA<|az<|ap<|sT<|bq Z<|sM Z<|ch Z (aS (z:=4) (i:=b) Z Z Z Z J)<|bn 0 Z ?_
   refine bF (bO (vs:=dB tb) Z) (EX λj u hj=>em (k:=4) (f:=ec) (λ_=>rfl) K j u (If j u hj)) ?_;refine sO (dh (m:=1) (z:=zTmr) (size:=3) (ps:=[(0,.tmp 150)]) (vs:=[.agg (dB tb).toArray]) (cs:=(dB tb).toArray) Z Z Z Z am am Z (xW _ _ Z) λLS=>?_);refine dq rfl (bZ rfl rfl CT rfl am rfl rfl (HasVal.sel (v:=v8)) (news:=dB tb) rfl (λh=>by cases h) (eO (λj u h=>by simpa using h)) er (by unfold maxLen;omega) am λK4 LD=>?_);refine sB Z<|bq Z<|ch Z (H5 (v':=dp g3 b c3) (fx (z:=4) (a:=0) (b:=b) Z Z Z Z ⟨_,rfl⟩ (Nat.zero_le _) am) cut4) ?_
   refine aq (Ent.row0 (e:=208) (size:=4)) ?_;refine dq rfl (bZ (k:=0) (xs:=[]) rfl rfl m9 rfl am rfl rfl .head (news:=(lt.take b).flatMap ec) (by rw[cM (k:=4) λ_=>rfl,List.length_take];omega) (λh=>by cases h) (srcRow FJ) CG (by unfold maxLen;omega) am λLo LE=>?_);refine sB Z<|sG<|sM Z<|sM Z<|ch Z (bc (r:=((b+1:Nat):Int)) Z Z dP)<|sP (fx (z:=4) (a:=b+1) (b:=lt.length) Z Z Z ⟨_,rfl⟩ rfl am Ln) ?_
   refine dq rfl (bZ rfl rfl m9 rfl am rfl rfl (HasVal.sel (v:=Lo)) (news:=(lt.drop (b+1)).flatMap ec) (by rw[cM (k:=4) λ_=>rfl,List.length_drop]) (λh=>by split at h<;>cases h) (Ik am Ln) CG (by unfold maxLen;omega) am λK5 LF=>?_);refine sA Z<|ao<|al ?_
   have LM:(lt.eraseIdx b).length=0+b+(lt.length-(b+1)):=by rw[List.length_eraseIdx_of_lt J];omega
   have LN:(lt.eraseIdx b).flatMap ec=([]++(lt.take b).flatMap ec)++(lt.drop (b+1)).flatMap ec:=by rw[List.eraseIdx_eq_take_drop_succ,List.flatMap_append,List.nil_append]
   have LO:(out++[tb]).length=out.length+1:=by simp
   have LP:(out++[tb]).flatMap dB=out.flatMap dB++dB tb:=by rw[List.flatMap_append];simp
   have Lw:=FR.xv (l:=lt) (by rw[<-hb];exact K);rw[<-hb] at Lw;refine aE (K5,lt.eraseIdx b,K4,out++[tb]) ⟨?_,?_⟩ (by show(lt.eraseIdx b).length<lt.length;omega) bV ?_
   · show(out++[tb])++FR.sel (lt.eraseIdx b) (lt.eraseIdx b).length=M.tms
     rw[<-mt,Lw,List.append_assoc]
     rfl
   · show(lt.eraseIdx b).length+(out++[tb]).length<=30000
     omega
   · show Ent _ (row 208 4 K5 (lt.eraseIdx b).length ((lt.eraseIdx b).flatMap ec)::row 99 3 K4 (out++[tb]).length ((out++[tb]).flatMap dB)::aV e a ns M::fr)
     rw[LM,LN,LO,LP];exact aJ
 ·
  have Ll:lt.length=0:=by have:¬(0:Int)<(lt.length:Int):=Ld;omega
  have ho:out=M.tms:=by rw[<-mt,Ll];simp[FR.sel]
  refine aL<|aA<|az<|ap<|sT<|bq Z<|sB Z<|an ?_
  exact ar [aV e a ns M,row 99 3 v8 M.tms.length (M.tms.flatMap dB)] rfl Z Z (by rw[<-ho];exact Ent.drop.trans gfE1)
end
abbrev Hz (h:Nat) (mv I:Value) (J E:Bool):Array Value:=#[aX h,mv,I,.bool J,.bool E]
abbrev cz (w h:Nat) (mv I:Value) (J E:Bool):HP:=blk w 83 (Hz h mv I J E)
abbrev JN (u:FR.Rn):List Int:=u.KV.map (·.state)
abbrev JM (u:FR.Rn):List Int:=u.KV.map (·.KU)
abbrev kV (M:FR.En):List (Nat×Int×Int×Nat):=M.KX.map λp=>(p.1,p.2,M.tryOf p,0)
theorem Bn (h:FR.Pair N S M):qV S S.KX=(kV M).flatMap iu/\(kV M).length=S.KX.length:=by
 have key:S.KX.map (λq=>(q.run,q.node,S.tryOf q,0))=kV M:=by
  unfold kV;rw[h.sim.KX,List.map_map];refine List.map_congr_left λp J=>?_;obtain⟨i,k,u,s,E,e1,e2,I,_⟩:=h.KY J;have K:=h.sim.toAb.get E;have O:=FR.jY h.nd E;obtain⟨pr,pn⟩:=p;simp only at e1 e2;subst e1;subst e2;have T:S.tryOf (FR.xa (u.id,(k:Int)))=s.KU+1:=by
   unfold FK.En.tryOf FR.xa;simp only[K,Int.toNat_natCast,FR.fI I]
   rfl
  have Y:M.tryOf (u.id,(k:Int))=s.KU+1:=by
   unfold FR.En.tryOf;simp only[O,Int.toNat_natCast,I]
  show((u.id,(k:Int),S.tryOf (FR.xa (u.id,(k:Int))),0):Nat×Int×Int×Nat)=(u.id,(k:Int),M.tryOf (u.id,(k:Int)),0);rw[T,Y]
 refine⟨?_,by rw[<-key,List.length_map]⟩;rw[<-key];unfold qV;rw[List.flatMap_map]
theorem Ir {B:Option Addr} {m:Nat} {a b:List (Nat×Int×Int×Nat)} (I:a.length=n) (J:b.length=m):dx G 79 [.slice A n c,.slice B m N] [row 55 4 (.slice A n c) n (a.flatMap iu),row 55 4 (.slice B m N) m (b.flatMap iu)] λv x=>∃r,v=.bool r/\(r=true<->a.map id=b.map id)/\x=[row 55 4 (.slice A n c) n (a.flatMap iu),row 55 4 (.slice B m N) m (b.flatMap iu)]:=by
 subst I;subst J;exact yE
theorem tu {w h f:Nat} {mv O:Value} {T I:Bool} (hP:FR.Pair N S M) (hN:N<=1000000000000):dQ 32 [aX w,aX n] (cj h f e j d p S J σ++[cz w h mv O T I,aV n a ns M]) λv m=>v=.bool true/\m=cj h f e j d p S J σ++[cz w h mv O T I,aV n a ns M]:=by
 have hF:=hP.fine hN;have h6:=hP.six;have Lu:=hP.len;have Lb:=hP.sim.now;have Lp:=hP.sim.seed;have Lc:M.KX.length=S.KX.length:=by rw[hP.sim.KX,List.length_map]
 have Lq:∀p∈M.KX,∃(i k:Nat) (u:FR.Rn) (s:FR.St),M.runs[i]?=some u/\u.id=p.1/\p.2=(k:Int)/\u.KV[k]?=some s/\0<=s.KU/\s.KU<9223372036854775807:=λp hp=>by
  obtain⟨i,k,u,s,hu,e1,e2,hs,_⟩:=hP.KY hp;have:=hF.KU u (bY hu) s (bY hs);exact⟨i,k,u,s,hu,e1,e2,hs,this.1,am⟩
 refine bA Tryz.func32 Z λE fr hE=>BQ<|sS<|sB Z<|sS<|cG 0 Z Z<|bF (au (v:=aX h) Z) (ah Z) ?_
 refine bW Z zo aT ?_;refine cX<|sM Z<|bT Z Z<|bT Z Z<|sA Z<|sB Z<|sQ<|bq Z<|cG 0 Z Z<|bF (au (v:=aQ M.time) Z) (cg Z)<|sP (dc (r:=false) Z Z (by rw[Lb];simp))<|sM Z<|db Z<|db Z ?_
 refine ci (cI Z)<|ci (bl 1 Z)<|fN (au (v:=aQ M.seed) Z) (cg Z)<|ci (dc (r:=false) Z Z (by rw[Lp];simp))<|sP (aF Z Z Z)<|sN<|aj Z<|ae<|sT<|sS<|cG 0 Z Z<|bF (au (v:=aX h) Z) (ah Z) ?_
 refine bU Z (BH am) aT ?_;rintro v m ⟨ks,y,hI,rfl,rfl⟩;refine jc<|sM Z<|bT Z Z<|bT Z Z<|sA Z<|sA Z ?_
 obtain rfl:ks=M.runs.map (·.id):=FK.pp (f:=id) (hI.1.trans (by rw[hP.sim.toAb.keys])) (List.pairwise_map.2 hP.ke.lt) hI.2;refine aK .head ?_;intro A c hy Lh Li _ _ _;subst hy;refine sN<|sQ<|bq Z<|sP (cD (r:=false) Z Z)<|sM Z<|db Z<|ci (bp Z Z)<|db Z<|ci (cI Z)<|ci (bl 2 Z)<|fN (au (v:=iP a M) Z) (cg Z)<|ci (bp Z Z)<|ci (dc (r:=false) Z Z cY)<|sP (aF Z Z Z)<|sN<|aj Z ?_
 refine ae<|sT<|sQ<|sS<|sB Z<|ag ?_
 refine aO (X:=Nat) (λi=>[(9,aw i),(7,.slice A (M.runs.map (·.id)).length c),(0,aX w),(1,aX n)]) (λ_=>jU (.slice A (M.runs.map (·.id)).length c) (M.runs.map (·.id))::(cj h f e j d p S J σ++(cz w h mv O T I::aV n a ns M::fr))) (λi=>i<=M.runs.length) (λi=>M.runs.length-i) 0 (Nat.zero_le _) bV aT ?_;intro i hi;replace hi:i<=M.runs.length:=hi;refine aq (l':=jU (.slice A (M.runs.map (·.id)).length c) (M.runs.map (·.id))::bB h d f::cU f e j::aN e p S::aP j d J::aI d σ::cz w h mv O T I::aV n a ns M::fr) aT ?_;refine sQ<|bq Z<|ch Z (bp Z Z)<|sP (bz Z Z Z)<|sN ?_
 refine aB Z (λK3=>?_) λK3=>?_
 ·
  have wf:i<M.runs.length:=by simpa using K3
  obtain⟨u,hu⟩:∃u,M.runs[i]?=some u:=⟨M.runs[i],by simp[wf]⟩;have hR:=hP.sim.toAb.get hu;have Lr:=eS hF u (bY hu);obtain⟨g,rfl⟩:∃g,A=some ⟨g,0,none⟩:=by
   cases A with
   | none=>have:=(Lh rfl).1;rw[List.length_map] at this;omega
   | some ad=>obtain⟨g,rfl⟩:=Li ad rfl;exact⟨g,rfl⟩
  refine bt (p:=∃g,a.rg=some g) (λw hw=>gY hu hw) λ⟨gr,hg⟩=>?_;refine ae<|sT<|sQ<|ag ?_
  refine sQ<|cw (X:=Nat×Value×Value) (λx=>[(10,aX x.1),(11,aw 0),(9,aw i),(7,dp g (M.runs.map (·.id)).length c),(0,aX w),(1,aX n)]) (λx=>blk x.1 62 (cm u.id u.state x.2.1 x.2.2).toArray::bG x.2.1 (u.ab.KV.map (·.state))::bG x.2.2 (u.ab.KV.map (·.KU))::jU (dp g (M.runs.map (·.id)).length c) (M.runs.map (·.id))::bB h d f::cU f e j::aN e p S::aP j d J::aI d σ::cz w h mv O T I::aV n a ns M::fr) (λ_=>True) ?_ ?_
  ·
   refine sZ Z<|dT Z Z<|dt 0 Z Z Z<|bQ Z (au (v:=aX h) Z) (ah Z)<|cv Z Z<|cv Z Z ?_
   refine dj 6 Z (aS (z:=1) Z Z Z Z (by rw[List.length_map];exact wf)) ?_;refine jh 7 Z (au (v:=aQ u.id) Z) (il .head (by simp[hu])) ?_;refine io 8 12 Z Z Z Z eA (ed Z (oR hP.ok hR) (eo (l:=cj h f e j d p S J σ)) ?_) (cH (z:=.agg #[.int .u64 0,aw 0,cx,cx]) Z λmt=>?_)
   ·
    rintro v m ⟨A2,c2,A3,c3,rfl,rfl⟩;refine dK [false,false] ak<|dj 9 Z (bd Z)<|bC Z (cf Z Z)<|bC Z (cf Z Z)<|vw Z (cH (z:=.agg #[.int .u64 0,aw 0,cx,cx]) Z λmt=>(dK [] ak ?_))
    refine dA 13 Z<|bh Z (m:=4) (vs:=cm u.id u.state (.slice A2 u.ab.KV.length c2) (.slice A3 u.ab.KV.length c3)) Z Z Z Z er (by show 0+4<=4;omega) ?_
    refine dK [] ak<|dj 14 Z (aU Z)<|dE<|aG mt (cm u.id u.state (.slice A2 u.ab.KV.length c2) (.slice A3 u.ab.KV.length c3)).toArray Z ?_
    exact aW (mt,(.slice A2 u.ab.KV.length c2),(.slice A3 u.ab.KV.length c3)) trivial bV (by show Ent (_::bG (.slice A2 u.ab.KV.length c2) (u.ab.KV.map (·.state))::bG (.slice A3 u.ab.KV.length c3) (u.ab.KV.map (·.KU))::bB h d f::cU f e j::aN e p S::aP j d J::aI d σ::jU (dp g (M.runs.map (·.id)).length c) (M.runs.map (·.id))::cz w h mv O T I::aV n a ns M::fr) (_::bG (.slice A2 u.ab.KV.length c2) (u.ab.KV.map (·.state))::bG (.slice A3 u.ab.KV.length c3) (u.ab.KV.map (·.KU))::jU (dp g (M.runs.map (·.id)).length c) (M.runs.map (·.id))::bB h d f::cU f e j::aN e p S::aP j d J::aI d σ::cz w h mv O T I::aV n a ns M::fr);exact aJ)
   ·
    refine aG mt (cm 0 0 d9 d9).toArray Z<|dK [true,true] (ai (il bJ (by simp[hu])) (ai (ah Z) ak)) ?_
    refine dA 8 Z<|ed Z (oR hP.ok hR) ((Ent.cons (eo (l:=cj h f e j d p S J σ))).trans (eo (l:=cj h f e j d p S J σ))) ?_
    rintro v m ⟨A2,c2,A3,c3,rfl,rfl⟩;refine aq (l':=blk mt 62 (cm 0 0 d9 d9).toArray::bG (.slice A2 u.ab.KV.length c2) (u.ab.KV.map (·.state))::bG (.slice A3 u.ab.KV.length c3) (u.ab.KV.map (·.KU))::jU (dp g (M.runs.map (·.id)).length c) (M.runs.map (·.id))::bB h d f::cU f e j::aN e p S::aP j d J::aI d σ::cz w h mv O T I::aV n a ns M::fr) (by show Ent (_::_::bB h d f::cU f e j::aN e p S::aP j d J::aI d σ::blk mt _ _::jU (dp g (M.runs.map (·.id)).length c) (M.runs.map (·.id))::cz w h mv O T I::aV n a ns M::fr) _;exact aJ) ?_;refine dK [false,false] ak<|dj 9 Z (bd Z)<|bC Z (cf Z Z)<|bC Z (cf Z Z) ?_
    refine dA 13 Z<|bh Z (m:=4) (vs:=cm u.id u.state (.slice A2 u.ab.KV.length c2) (.slice A3 u.ab.KV.length c3)) Z Z Z Z er (by show 0+4<=4;omega) ?_
    exact dK [] ak<|dj 14 Z (aU Z)<|dE<|aG mt (cm u.id u.state (.slice A2 u.ab.KV.length c2) (.slice A3 u.ab.KV.length c3)).toArray Z<|aW (mt,(.slice A2 u.ab.KV.length c2),(.slice A3 u.ab.KV.length c3)) trivial bV aT
  rintro⟨mt,x2,x3⟩ _;refine aq (l':=blk mt 62 (cm u.id u.state x2 x3).toArray::bG x2 (u.ab.KV.map (·.state))::bG x3 (u.ab.KV.map (·.KU))::jU (dp g (M.runs.map (·.id)).length c) (M.runs.map (·.id))::bB h d f::cU f e j::aN e p S::aP j d J::aI d σ::cz w h mv O T I::aV n a ns M::fr) aT ?_;refine bq Z<|cG 2 Z Z<|bF (au (v:=dp gr M.runs.length a.rc) Z) (dF hg)<|ch Z (aS (z:=8) Z Z Z Z wf)<|bn 0 Z<|bF (au (v:=aQ u.id) Z) (cE (j:=0) hu hg Z) ?_
  refine bU Z (wA am hP.nd hu Lr) (Ent.sel (.tail H4)) ?_;rintro v m ⟨v2,v3,rfl,rfl⟩;refine cJ<|aK bJ ?_
  rintro A4 c4 rfl - - - - -
  refine aK de ?_;rintro A5 c5 rfl - - - - -
  refine sM Z<|bT Z Z<|bT Z Z<|sO (cH (z:=.agg #[.int .u64 0,aw 0,cx,cx]) Z λLe=>?_)
  refine sO<|bh Z (m:=4) (vs:=cm u.id u.state (.slice A4 (JN u).length c4) (.slice A5 (JM u).length c5)) Z Z Z Z er (by show 0+4<=4;omega) ?_
  refine aG Le (cm u.id u.state (.slice A4 (JN u).length c4) (.slice A5 (JM u).length c5)).toArray Z<|sB Z<|sS<|bF (bO (vs:=cm u.id u.state x2 x3) Z) (bm Z)<|bF (bO (vs:=cm u.id u.state (.slice A4 (JN u).length c4) (.slice A5 (JM u).length c5)) Z) (bm Z) ?_
  refine aq (l':=bG x2 (u.ab.KV.map (·.state))::bG x3 (u.ab.KV.map (·.KU))::bG (.slice A4 (JN u).length c4) (JN u)::bG (.slice A5 (JM u).length c5) (JM u)::jU (dp g (M.runs.map (·.id)).length c) (M.runs.map (·.id))::bB h d f::cU f e j::aN e p S::aP j d J::aI d σ::cz w h mv O T I::aV n a ns M::fr) aJ ?_;refine bU Z (yF (p2:=u.ab.KV.map (·.state)) (p3:=u.ab.KV.map (·.KU)) (q2:=JN u) (q3:=JM u)) aT ?_;rintro v m ⟨r,rfl,hr,rfl⟩;refine bS ?_;obtain rfl:r=true:=hr.2 ⟨rfl,rfl,by simp[FR.Rn.ab,FR.St.ab,JN],by simp[FR.Rn.ab,FR.St.ab,JM]⟩;refine aq (l':=jU (dp g (M.runs.map (·.id)).length c) (M.runs.map (·.id))::bB h d f::cU f e j::aN e p S::aP j d J::aI d σ::cz w h mv O T I::aV n a ns M::fr) (Ent.drop.trans (Ent.drop.trans (Ent.drop.trans Ent.drop))) ?_;refine sB Z<|sQ<|sZ Z<|dT Z Z<|cv Z Z ?_
  refine dj 2 Z (aS (z:=1) Z Z Z Z (by rw[List.length_map];exact wf)) ?_;refine jh 3 Z (au (v:=aQ u.id) Z) (il .head (by simp[hu]))<|cv Z Z<|dt 2 Z Z Z<|bQ Z (au (v:=dp gr M.runs.length a.rc) Z) (dF hg)<|cv Z Z<|bC Z (aS (z:=8) Z Z Z Z wf)<|bC Z (bl 0 Z)<|bQ Z (au (v:=aQ u.id) Z) (cE (j:=0) hu hg Z)<|bC Z (dc (r:=false) Z Z cY)<|cv Z Z<|dv 14 Z (bd Z)<|dv 15 Z (dc Z Z Z)<|bC Z (aF Z Z Z)<|cv Z Z<|dv 18 Z (bd Z)<|dv 19 Z (dc Z Z Z)<|bC Z (aF Z Z Z)<|cv Z Z<|dv 22 Z (bd Z) ?_
  refine dv 23 Z (cD Z Z)<|bC Z (aF Z Z Z)<|dE<|sT<|aj Z<|ae<|al<|sT<|sG<|ch Z (bc (r:=((i+1:Nat):Int)) Z Z dP)<|sA Z<|ao ?_
  exact aE (i+1) wf (by show M.runs.length-(i+1)<M.runs.length-i;omega) bV aT
 ·
  have Ld:S.getR (M.KT+1)=none:=hP.none;have Lv:M.KT<=N:=hP.sim.lr▸hP.lr;refine aL<|aA<|az<|ap<|sT ?_
  refine sQ<|cw (X:=Unit) (λ_=>[(16,aw 6),(0,aX w),(1,aX n)]) (λ_=>bB h d f::cU f e j::aN e p S::aP j d J::aI d σ::cz w h mv O T I::aV n a ns M::fr) (λ_=>True) ?_ ?_
  ·
   refine sZ Z<|dT Z Z<|dt 0 Z Z Z<|bQ Z (au (v:=aX h) Z) (ah Z)<|cv Z Z<|dt 4 Z Z Z<|bQ Z (au (v:=aQ M.KT) Z) (cg Z)<|bC Z (bc (r:=((M.KT+1:Nat):Int)) Z Z (by rw[km];omega)) ?_
   refine io 9 13 Z Z Z Z eA (ed Z (oS Ld) (eo (l:=cj h f e j d p S J σ)) ?_) (cH (z:=.agg #[.int .u64 0,aw 0,cx,cx]) Z λBT=>?_)
   ·
    rintro v m ⟨rfl,rfl⟩;refine aq (l':=bB h d f::cU f e j::aN e p S::aP j d J::aI d σ::cz w h mv O T I::aV n a ns M::fr) (by show Ent (bB h d f::cU f e j::aN e p S::aP j d J::aI d σ::jU (.slice A (M.runs.map (·.id)).length c) (M.runs.map (·.id))::cz w h mv O T I::aV n a ns M::fr) _;exact aJ) ?_;refine dK [true,false] (ai (cg Z) ak)<|dj 10 Z (bd Z)<|bC Z (cf Z Z)<|bC Z (cf Z Z)<|vw Z (cH (z:=.agg #[.int .u64 0,aw 0,cx,cx]) Z λBT=>(dK [true] (ai (cg Z) ak) ?_))
    refine dA 14 Z<|bh Z (m:=4) (vs:=cm 0 0 d9 d9) Z Z Z Z er (by show 0+4<=4;omega) ?_
    exact dK [false] ak<|dj 15 Z (aU Z)<|dE<|aW () trivial bV Ent.drop
   ·
    refine aG BT (cm 0 0 d9 d9).toArray Z<|dK [true,true] (ai (cg Z) (ai (ah Z) ak)) ?_
    refine dA 9 Z<|ed Z (oS Ld) ((Ent.cons (eo (l:=cj h f e j d p S J σ))).trans (eo (l:=cj h f e j d p S J σ))) ?_
    rintro v m ⟨rfl,rfl⟩;refine aq (l':=blk BT 62 (cm 0 0 d9 d9).toArray::bB h d f::cU f e j::aN e p S::aP j d J::aI d σ::cz w h mv O T I::aV n a ns M::fr) (by show Ent (bB h d f::cU f e j::aN e p S::aP j d J::aI d σ::blk BT _ _::_::cz w h mv O T I::aV n a ns M::fr) _;exact aJ) ?_;refine dK [true,false] (ai (cg Z) ak)<|dj 10 Z (bd Z)<|bC Z (cf Z Z)<|bC Z (cf Z Z) ?_
    refine dA 14 Z<|bh Z (m:=4) (vs:=cm 0 0 d9 d9) Z Z Z Z er (by show 0+4<=4;omega) ?_
    exact dK [false] ak<|dj 15 Z (aU Z)<|dE<|aW () trivial bV Ent.drop
  intro _ _;refine sS<|cG 0 Z Z<|bF (au (v:=aX h) Z) (ah Z) ?_
  refine bU Z (wL (τ:=FR.ET M) (λ_=>rfl) (by have:=hP.ok.tmsLe;omega) hP.seqs) aT ?_;rintro v m ⟨Y,hY,K5,rfl⟩;refine jc ?_;obtain rfl:Y=M.tms:=hP.told hY;have Lw:M.tms.length<=150:=by have h1:=hY.len;rw[List.length_map] at h1;have:=hP.ok.tmsLe;omega
  have Ls:M.tms=[]->S.tms=[]:=λh0=>by have h1:=hY.len;rw[List.length_map,h0] at h1;exact List.eq_nil_of_length_eq_zero h1.symm
  refine aK .head ?_;rintro Fd K6 rfl - - - - -
  refine sB Z<|bq Z ?_
  refine bU Z (wx hF) qF ?_;rintro v m rfl;refine aD<|aK bJ ?_
  rintro K7 K8 rfl - - - - -
  refine aq (l':=bB h d f::cU f e j::aN e p S::aP j d J::aI d σ::cz w h mv O T I::aV n a ns M::row 99 3 (.slice Fd M.tms.length K6) M.tms.length (M.tms.flatMap dB)::row 99 3 (.slice K7 M.tms.length K8) M.tms.length (M.tms.flatMap dB)::fr) aJ ?_;refine sB Z<|sS<|cG 0 Z Z<|bF (au (v:=aX h) Z) (ah Z) ?_
  refine bU Z (wM hP.ok) aT ?_;rintro v m ⟨K9,rfl⟩;refine jc<|aK .head ?_
  rintro In Lj rfl - - - - -
  refine sB Z<|bq Z ?_
  refine bU Z (wz am hP.nd Lq (by rw[Lc];have:=hP.ok.queueLe;omega)) qF ?_;rintro v m rfl;refine aD<|aK bJ ?_
  rintro Ll Lm rfl - - - - -
  obtain⟨Lg,K4⟩:=Bn hP;have Lt:(M.KX.flatMap λp=>cd p.1 p.2 (M.tryOf p) 0)=(kV M).flatMap iu:=by unfold kV;rw[List.flatMap_map]
  refine aq (l':=row 99 3 (.slice Fd M.tms.length K6) M.tms.length (M.tms.flatMap dB)::row 99 3 (.slice K7 M.tms.length K8) M.tms.length (M.tms.flatMap dB)::row 55 4 (.slice In S.KX.length Lj) S.KX.length ((kV M).flatMap iu)::row 55 4 (.slice Ll M.KX.length Lm) M.KX.length ((kV M).flatMap iu)::bB h d f::cU f e j::aN e p S::aP j d J::aI d σ::cz w h mv O T I::aV n a ns M::fr) (by rw[Lt,Lg];exact aJ) ?_;refine sB Z<|bq Z<|sM Z ?_
  refine bU Z (AS (a:=M.tms) (b:=M.tms)) aT ?_;rintro v m ⟨q1,rfl,Ln,rfl⟩;refine aD<|sB Z<|bq Z<|sM Z ?_
  refine bU Z (Ir (a:=kV M) (b:=kV M) K4 (K4.trans Lc.symm)) (bo de de) ?_;rintro v m ⟨q2,rfl,Lo,rfl⟩;refine aD ?_;obtain rfl:q1=true:=Ln.2 rfl;obtain rfl:q2=true:=Lo.2 rfl;refine sB Z<|sQ ?_
  by_cases HM:M.tms=[]
  ·
   obtain⟨rfl,-⟩:Fd=none/\True:=by have:=K5 (Ls HM);unfold d9 at this;injection this with h1;exact⟨h1,trivial⟩
   by_cases HQ:S.KX=[]
   ·
    obtain⟨rfl,-⟩:In=none/\True:=by have:=K9 HQ;unfold d9 at this;injection this with h1;exact⟨h1,trivial⟩
    refine sG<|ch Z (aY Z Z Z)<|sM Z<|db Z<|sP (aF Z Z Z)<|sM Z<|db Z<|sP (aF Z Z Z)<|sM Z<|db Z<|ci (bp Z Z)<|ci (dY (r:=false) Z Z (by rw[HM];rfl))<|db Z<|db Z<|ci (lQ Z Z Z)<|ci (aF Z Z Z)<|sP (aF Z Z Z)<|sM Z<|db Z ?_
    refine ci (bp Z Z)<|ci (dY (r:=false) Z Z (by rw[HQ];rfl))<|db Z<|db Z<|ci (lQ Z Z Z)<|ci (aF Z Z Z)<|sP (aF Z Z Z)<|sB Z<|an ?_
    exact ar (cj h f e j d p S J σ++[cz w h mv O T I,aV n a ns M]) Z Z ⟨rfl,rfl⟩ (by show Ent _ (bB h d f::cU f e j::aN e p S::aP j d J::aI d σ::cz w h mv O T I::aV n a ns M::fr);exact aJ)
   ·
    refine sG<|ch Z (aY Z Z Z)<|sM Z<|db Z<|sP (aF Z Z Z)<|sM Z<|db Z<|sP (aF Z Z Z)<|sM Z<|db Z<|ci (bp Z Z)<|ci (dY (r:=false) Z Z (by rw[HM];rfl))<|db Z<|db Z<|ci (lQ Z Z Z)<|ci (aF Z Z Z)<|sP (aF Z Z Z)<|sM Z<|db Z ?_
    refine ci (bp Z Z)<|ci (dY (r:=true) Z Z (by simp[List.length_pos_iff,HQ]))<|db Z<|bg Z<|bg Z<|ci (aF Z Z Z)<|sP (aF Z Z Z)<|sB Z<|an ?_
    exact ar (cj h f e j d p S J σ++[cz w h mv O T I,aV n a ns M]) Z Z ⟨rfl,rfl⟩ (by show Ent _ (bB h d f::cU f e j::aN e p S::aP j d J::aI d σ::cz w h mv O T I::aV n a ns M::fr);exact aJ)
  ·
   by_cases HJ:S.KX=[]
   ·
    obtain⟨rfl,-⟩:In=none/\True:=by have:=K9 HJ;unfold d9 at this;injection this with h1;exact⟨h1,trivial⟩
    refine sG<|ch Z (aY Z Z Z)<|sM Z<|db Z<|sP (aF Z Z Z)<|sM Z<|db Z<|sP (aF Z Z Z)<|sM Z<|db Z<|ci (bp Z Z)<|ci (dY (r:=true) Z Z (by simp[List.length_pos_iff,HM]))<|db Z<|bg Z<|bg Z<|ci (aF Z Z Z)<|sP (aF Z Z Z)<|sM Z<|db Z ?_
    refine ci (bp Z Z)<|ci (dY (r:=false) Z Z (by rw[HJ];rfl))<|db Z<|db Z<|ci (lQ Z Z Z)<|ci (aF Z Z Z)<|sP (aF Z Z Z)<|sB Z<|an ?_
    exact ar (cj h f e j d p S J σ++[cz w h mv O T I,aV n a ns M]) Z Z ⟨rfl,rfl⟩ (by show Ent _ (bB h d f::cU f e j::aN e p S::aP j d J::aI d σ::cz w h mv O T I::aV n a ns M::fr);exact aJ)
   ·
    refine sG<|ch Z (aY Z Z Z)<|sM Z<|db Z<|sP (aF Z Z Z)<|sM Z<|db Z<|sP (aF Z Z Z)<|sM Z<|db Z<|ci (bp Z Z)<|ci (dY (r:=true) Z Z (by simp[List.length_pos_iff,HM]))<|db Z<|bg Z<|bg Z<|ci (aF Z Z Z)<|sP (aF Z Z Z)<|sM Z<|db Z ?_
    refine ci (bp Z Z)<|ci (dY (r:=true) Z Z (by simp[List.length_pos_iff,HJ]))<|db Z<|bg Z<|bg Z<|ci (aF Z Z Z)<|sP (aF Z Z Z)<|sB Z<|an ?_
    exact ar (cj h f e j d p S J σ++[cz w h mv O T I,aV n a ns M]) Z Z ⟨rfl,rfl⟩ (by show Ent _ (bB h d f::cU f e j::aN e p S::aP j d J::aI d σ::cz w h mv O T I::aV n a ns M::fr);exact aJ)
end Go.Y
namespace FR
open FK (Pl KD)
theorem tV (M:En) (fl:FK.Flow):(M.submit fl).timers=M.timers+1:=by
 unfold En.submit;rw[gQ]
 rfl
theorem found (h:FK.Ok S) {id k:Nat} {R:FK.Rn} {s:FK.Sp} (I:S.getR id=some R) (J:R.KV[k]?=some s) (h3:s.state=3):(S.KY.find? (·.1==s.token)).map (·.2)=some ⟨id,(k:Int),0⟩:=by
 have E:=h.task I J h3;cases hf:S.KY.find? (·.1==s.token) with
 | none=>exact absurd (List.find?_eq_none.1 hf _ E) cY
 | some x=>
  have K:=List.find?_some hf;rw[FK.gE h.tkeys (List.mem_of_find?_eq_some hf) E (by simpa using K)]
  rfl
section
variable {i k t:Nat} {u:Rn} {s:St} {nd:FK.Node}
theorem Wk.get (h:Pair N S M) (hw:Wk M t i k u s):S.getR u.id=some u.ab/\u.ab.KV[k]?=some s.ab/\(S.KY.find? (·.1==t)).map (·.2)=some ⟨u.id,(k:Int),0⟩:=by
 have E:=h.sim.toAb.get hw.run;have I:=fI hw.step;refine⟨E,I,?_⟩;have:=found h.ok E I hw.st;rw[show s.ab.token=t from(if_pos hw.st).trans hw.tok] at this;exact this
theorem Wk.only (h:Pair N S M) (hw:Wk M t i k u s):Go.Y.EV M t i k:=λj l v x I=>by
 have E:=(hw.get h).2.2;rw[(I.get h).2.2] at E;injection E with E;injection E with e1 e2 _;have e3:l=k:=am;refine⟨?_,e3⟩;have J:=(gfGet.1 I.run);have hi:=(gfGet.1 hw.run);exact(List.getElem?_inj (by rw[List.length_map];exact J.1) h.nd).1 (by rw[List.getElem?_map,List.getElem?_map,I.run,hw.run];simp[e1])
theorem Pair.work (h:Pair N S M) (t:Nat):(∃i k u s nd,Wk M t i k u s/\u.fl.KW[k]?=some nd)\/((∀i k u s,¬Wk M t i k u s)/\S.KY.any (·.1==t)=false):=by
 by_cases I:∃i k u s,Wk M t i k u s
 · obtain⟨i,k,u,s,hw⟩:=I
   obtain⟨O,T,_⟩:=hw.get h;obtain⟨n,J,_⟩:=h.ok.node O T;exact .inl ⟨i,k,u,s,n,hw,J⟩
 · refine .inr ⟨λi k u s hw=>I ⟨i,k,u,s,hw⟩,?_⟩
   rw[Bool.eq_false_iff];intro K;rw[List.any_eq_true] at K;obtain⟨y,Y,e⟩:=K;cases hf:S.KY.find? (·.1==t) with
   | none=>exact absurd e (by simpa using(List.find?_eq_none.1 hf) y Y)
   | some z=>
    obtain⟨id,l,R,x,n,e1,hR,hs,J,h3,E⟩:=h.ok.find (t:=t) (p:=z.2) (by rw[hf];rfl);obtain⟨i,r,hi,e2,rfl⟩:=h.sim.toAb.back hR;obtain⟨q,hq,rfl⟩:=Cr hs;exact I ⟨i,l,r,q,hi,hq,h3,(if_pos (show q.state=3 from h3)).symm.trans E⟩
theorem Pair.mono (h:Pair N S M) (I:N<=n):Pair n S M:=⟨h.ok,h.sim,h.ke,by have:=h.sets;omega,by have:=h.ends;omega,by have:=h.lr;omega,by have:=h.lt;omega,by have:=h.tms;omega⟩
theorem Pair.succ (h:Pair N S M):Pair (N+1) S M:=h.mono (Nat.le_succ _)
theorem Pair.less (h:Pair N S M) (E:FK.Less S U) (I:FK.Ok U) (J:Sim U V) (hk:Ke V) (K:V.timers<=M.timers+1):Pair (N+1) U V:=
 ⟨I,J,hk,by have:=E.sets;have:=h.sets;omega,by have:=E.ends;have:=h.ends;omega,by have:=E.KT;have:=h.lr;omega,by have:=E.KS;have:=h.lt;omega,by have:=h.tms;omega⟩
theorem Pair.seed (h:Pair N S M) {n:Nat} (E:n<18446744073709551616):Pair (N+1) {S with seed:=n} {M with seed:=n}:=
 ⟨h.ok.seeded E,⟨⟨h.sim.now,rfl,h.sim.lr,h.sim.lt,h.sim.ends,h.sim.runs,h.sim.KX,h.sim.nd⟩,h.sim.tm⟩,h.ke,by have:=h.sets;show S.sets<=_;omega,by have:=h.ends;show S.ends<=_;omega,by have:=h.lr;show S.KT<=_;omega,by have:=h.lt;show S.KS<=_;omega,by have:=h.tms;show M.timers<=_;omega⟩
theorem Pair.tick (h:Pair N S M) (T:N<=1000000000000) (I:d<=4611686018427387904) (J:FK.Ticks d S U):∃n M',Ticks d n M M'/\Pair (N+1) U M':=by
 have K:=h.ok.massLe;have h1:=h.tms;have h2:=h.ends;obtain⟨n,M',E,O,hk,Y⟩:=Sim.ticks J h.ok h.sim h.ke am am;obtain⟨b1,b2,b3,b4⟩:=J.bound h.ok;have h3:=E.timers;exact⟨n,M',E,J.ok I h.ok,O,hk,by have:=h.sets;omega,am,by have:=h.lr;omega,by have:=h.lt;omega,am⟩
theorem Pair.beat (h:Pair N S M) (hw:Wk M t i k u s) (E:u.fl.KW[k]?=some nd) (w:Int):Pair (N+1) (S.life ⟨u.id,(k:Int),w⟩ nd) (M.beat i k u s nd):=by
 obtain⟨I,J,_⟩:=hw.get h;have K:=h.sim.beat h.ok hw.run hw.step hw.st E w;have hk:Ke (M.beat i k u s nd):=by
  unfold En.beat
  split
  · exact Eq.mpr (congrArg (List.Pairwise λ(a b:Nat×Nat)=>a.1<b.1/\(0<a.2->a.2≠b.2)) (lE (r':=u.setS k {s with sign:=M.later nd.beat.toNat,signAt:=M.timers+1}) hw.run rfl rfl)) h.ke
  · exact h.ke
 have e:(S.life ⟨u.id,(k:Int),w⟩ nd).sets<=S.sets+1/\(S.life ⟨u.id,(k:Int),w⟩ nd).ends=S.ends/\(S.life ⟨u.id,(k:Int),w⟩ nd).KT=S.KT/\(S.life ⟨u.id,(k:Int),w⟩ nd).KS=S.KS:=by
  unfold FK.En.life
  split
  · exact⟨cu _,rfl,rfl,rfl⟩
  · exact⟨Nat.le_succ _,rfl,rfl,rfl⟩
 have O:(M.beat i k u s nd).timers<=M.timers+1:=by
  unfold En.beat
  split
  · exact cu _
  · exact Nat.le_succ _
 exact⟨h.ok.life nd I J hw.st,K,hk,by have:=h.sets;omega,by have:=h.ends;omega,by have:=h.lr;omega,by have:=h.lt;omega,by have:=h.tms;omega⟩
theorem Pair.fail (h:Pair N S M) (hw:Wk M t i k u s) (T:u.fl.KW[k]?=some nd):Pair (N+1) (S.fail t) (M.fails i k u s nd):=by
 obtain⟨K,O,h3⟩:=hw.get h;have I:=((h.ok.run _ _ K).sp k _ nd O T).running (.inr (.inr (.inl hw.st)));have J:FK.Ag u.ab ⟨u.id,(k:Int),1⟩:=⟨I,.inr ⟨k,s.ab,rfl,O,.inl ⟨rfl,.inl hw.st⟩⟩⟩;have Y:=h.ok.due_less (p:=⟨u.id,(k:Int),1⟩) K J;have e:S.due ⟨u.id,(k:Int),1⟩=S.fail t:=by
  rw[FK.rk h3];rcases FK.i8 (p:=⟨u.id,(k:Int),1⟩) K J with⟨e,_⟩|⟨l,x,E,⟨e,h4,_⟩|⟨e,_,e2⟩⟩
  · injection e with _ e _
    omega
  · injection e with _ e _
    obtain rfl:l=k:=am;rw[O] at E;injection E with E;subst E;have:s.state=4:=h4;have:=hw.st;omega
  · have:l=k:=by rcases e with e|e<;>injection e with _ e _<;>omega
    rw[e2,this]
 rw[e] at Y;have hs:=Sim.fails h.ok h.sim.toAb hw.run hw.step hw.st h.sim.tm (List.Sublist.refl _) (λ_ E _=>E) T;rw[<-FK.rk h3] at hs;exact h.less Y (h.ok.fail t) hs (xN h.ok h.sim.toAb h.ke hw.run) (by
  unfold En.fails
  split
  · exact cu _
  · rw[lb];exact Nat.le_succ _)
theorem Pair.complete (h:Pair N S M) (hw:Wk M t i k u s) (hn:u.fl.KW[k]?=some nd):Pair (N+1) (S.complete t) (M.complete i k u s):=by
 obtain⟨I,K,h3⟩:=hw.get h;have hs:=h.sim.complete h.ok hw.run hw.step hw.st h3;have hl:(u.setS k {s with state:=5}).KV.length=(u.setS k {s with state:=5}).fl.KW.length:=by
  have:=(h.ok.run _ _ I).len;simpa[Rn.setS,Rn.ab] using this
 have hp:=Sim.part (s':={s with state:=5}) (st:=5) h.sim.toAb hw.run hw.step h.sim.tm (List.Sublist.refl _) (λ_ hx _=>hx) (by unfold St.ab;simp) fi fi;have T:=h.ok.part I K hn hw.st (.inl rfl);have Y:(M.setR i (u.setS k {s with state:=5})).runs[i]?=some (u.setS k {s with state:=5}):=by
  have:=(gfGet.1 hw.run).1;unfold En.setR;simp[this]
 obtain⟨k1,r',k2,O⟩:=hp.wake Y hl;have O:r'.id=u.id:=O;have hg:(((S.leave u.id k).setR u.id (u.ab.turned k s.ab 5)).wake u.id).getR u.id=some r'.ab:=by
  have:=k1.toAb.get k2;rw[O] at this;exact this
 have E:=T.wake u.id;have e:(S.leave u.id k).sets=S.sets/\(S.leave u.id k).ends=S.ends/\(S.leave u.id k).KT=S.KT/\(S.leave u.id k).KS=S.KS:=by
  rw[FK.fe I K];exact⟨rfl,rfl,rfl,rfl⟩
 obtain⟨_,_,_,w1,_,w2,w3,w4⟩:=FK.ni ((S.leave u.id k).setR u.id (u.ab.turned k s.ab 5)) u.id;have hb:(S.complete t).sets<=S.sets/\(S.complete t).ends<=S.ends+1/\(S.complete t).KT=S.KT/\(S.complete t).KS=S.KS:=by
  rw[FK.mW h3 I K];rcases FK.oN hg with c|⟨st,_,c⟩
  · rw[c]
    exact⟨Nat.le_of_eq (w1.trans e.1),Nat.le_succ_of_le (Nat.le_of_eq (w2.trans e.2.1)),w3.trans e.2.2.1,w4.trans e.2.2.2⟩
  · rw[c]
    have J:=E.ended hg st;exact⟨Nat.le_of_eq (J.sets.trans (w1.trans e.1)),Nat.le_of_eq (J.ends.trans (congrArg (·+1) (w2.trans e.2.1))),J.KT.trans (w3.trans e.2.2.1),J.KS.trans (w4.trans e.2.2.2)⟩
 have hk:Ke (M.complete i k u s):=by
  unfold En.complete;refine Ke.settle E ?_ ?_
  · have e2:(u.setS k {s with state:=5}).KV.length=u.KV.length:=by simp[Rn.setS]
    rw[<-e2];exact k1.toAb
  · unfold Ke
    rw[pz,lE (r':=u.setS k {s with state:=5}) hw.run rfl rfl];exact h.ke
 have ht:(M.complete i k u s).timers=M.timers:=by
  unfold En.complete;rw[lb,gQ]
  rfl
 exact⟨h.ok.complete t,hs,hk,by have:=h.sets;omega,by have:=h.ends;omega,by have:=h.lr;omega,by have:=h.lt;omega,by have:=h.tms;omega⟩
theorem Pair.cancel (h:Pair N S M) (hi:M.runs[i]?=some u) (E:u.state=1):Pair (N+1) (S.finish u.id 4) (M.endr i u 4):=by
 have I:=h.sim.toAb.get hi;exact h.less (h.ok.finish_less I E fi) (h.ok.finish I fi) (h.sim.endr' h.ok hi fi) (h.ke.endr hi (h.sim.toAb.endle h.ok) 4)<|Nat.le_succ _
theorem Pair.hand (h:Pair N S M) {q:List (Nat×Int)} (J:M.KX=(u.id,(k:Int))::q) (hi:M.runs[i]?=some u) (K:u.KV[k]?=some s) (O:u.fl.KW[k]?=some nd):S.KX=⟨u.id,(k:Int),0⟩::q.map xa/\Pair (N+1) (S.hand ⟨u.id,(k:Int),0⟩ (q.map xa) u.ab s.ab nd) (M.hand q i k u s nd):=by
 have T:=h.sim.toAb.get hi;have Y:=fI K;have E:S.KX=⟨u.id,(k:Int),0⟩::q.map xa:=by rw[h.sim.KX,J];rfl
 have I:=h.sim.hand h.ok J hi K O;have e:(S.hand ⟨u.id,(k:Int),0⟩ (q.map xa) u.ab s.ab nd).sets<=S.sets+2/\(S.hand ⟨u.id,(k:Int),0⟩ (q.map xa) u.ab s.ab nd).ends=S.ends/\(S.hand ⟨u.id,(k:Int),0⟩ (q.map xa) u.ab s.ab nd).KT=S.KT/\(S.hand ⟨u.id,(k:Int),0⟩ (q.map xa) u.ab s.ab nd).KS=S.KS+1:=by
  rw[FK.vY];unfold FK.En.life
  split
  · exact⟨cu _,rfl,rfl,rfl⟩
  · exact⟨Nat.le_succ _,rfl,rfl,rfl⟩
 have et:(M.hand q i k u s nd).timers<=M.timers+2:=by
  unfold En.hand;show(if _ then _ else _)<=_
  split
  · exact cu _
  · exact Nat.le_succ _
 have hk:Ke (M.hand q i k u s nd):=Eq.mpr (congrArg (List.Pairwise λ(a b:Nat×Nat)=>a.1<b.1/\(0<a.2->a.2≠b.2)) (lE (r':=u.setS k (M.handS s nd)) hi rfl rfl)) h.ke;exact⟨E,h.ok.hand E T Y O,I,hk,by have:=h.sets;omega,by have:=h.ends;omega,by have:=h.lr;omega,by have:=h.lt;omega,by have:=h.tms;omega⟩
theorem Pair.submit (h:Pair N S M) {E:FK.En} {I:En} {fl:FK.Flow} (T:FK.Fit fl) (Y:S.roomy=true) (J:FK.Cut S E) (hM:Cutd M I):Pair (N+1) (E.submit fl) (I.submit fl):=by
 obtain⟨K,h5,e1,e2,e3,e4,e5⟩:=h.ok.cut Y J;have h0:Sim E I/\Ke I/\I.timers=M.timers/\I.ends=M.ends/\I.KS=M.KS:=by
  rcases hM with⟨O,rfl⟩|⟨O,j,ho,rfl⟩
  · unfold FK.Cut at J
    rw[if_neg (by rw[h.len];exact O)] at J;subst J;exact⟨h.sim,h.ke,rfl,rfl,rfl⟩
  · obtain⟨a,b⟩:=h.sim.cut h.ok h.ke ho (h.len.trans O) J
    exact⟨a,b,rfl,rfl,rfl⟩
 obtain⟨s0,k0,t0,d0,l0⟩:=h0;obtain⟨s1,k1⟩:=s0.submit K k0 (fl:=fl);obtain⟨_,_,_,w1,_,w2,w3,w4⟩:=FK.ni ((E.begin fl).setT ⟨E.KT+1,-1,0⟩ (E.later fl.deadline.toNat)) (E.KT+1);have b1:(E.submit fl).sets=E.sets+1:=w1;have b2:(E.submit fl).ends=E.ends:=w2;have b3:(E.submit fl).KT=E.KT+1:=w3;have b4:(E.submit fl).KS=E.KS:=w4;have:=tV I fl;have:=s0.ends;have:=s0.lt;have:=h.sim.ends;have:=h.sim.lt;exact⟨K.submit h5 T,s1,k1,by have:=h.sets;omega,by have:=h.ends;omega,by have:=h.lr;omega,by have:=h.lt;omega,by have:=h.tms;omega⟩
theorem Pair.full (h:Pair N S M):(M.runs.length=6/\Old M Option.none)->S.roomy=false:=λ⟨K,I⟩=>by
 unfold FK.En.roomy;rw[Bool.or_eq_false_iff];refine⟨?_,pc (by rw[h.len];omega)⟩;rw[List.any_eq_false];intro x E;rw[h.sim.runs] at E;obtain⟨u,J,rfl⟩:=List.mem_map.1 E;have:=I.none rfl u J;have e:u.abI.2.ended=u.ended:=rfl;simp only[decide_eq_true_eq];omega
theorem Pair.room (h:Pair N S M) (I:Cutd M V):S.roomy=true:=by
 unfold FK.En.roomy;rw[Bool.or_eq_true];rcases I with⟨O,_⟩|⟨O,j,T,_⟩
 · exact .inr (vA (by rw[h.len];have:=h.six;omega))
 · refine .inl ?_
   obtain⟨r,J,K,_⟩:=T.some j rfl;rw[List.any_eq_true];exact⟨r.abI,by rw[h.sim.runs];exact List.mem_map_of_mem (bY J),vA K⟩
end
end FR
namespace Go.Y
open Go.Proofs Go.RowKit Go.SL
end Go.Y
namespace FK
def e0:Dsk:=⟨[],[],[],-1,-1,false⟩
def e1:Dsk:=⟨[],[],[],-2,-2,false⟩
def e2:Dsk:=⟨[],[],[],-3,-3,false⟩
theorem I9:e0.sync=(e1,0):=by
 have E:Go.IntKind.i64.wrap (-2)=-2:=by decide
 simp[e0,e1,Dsk.sync,Dsk.writes,E]
theorem I8:e1.sync=(e2,0):=by
 have E:Go.IntKind.i64.wrap (-3)=-3:=by decide
 simp[e1,e2,Dsk.sync,Dsk.writes,E]
def J0:Jn:=⟨0,false,0⟩
theorem yd:Quiet e0:=⟨rfl,rfl,rfl,rfl⟩
end FK
namespace Go.Y
open Go.Proofs
open Go Go.RowKit Go.SL
abbrev Dl (d:Nat):Value:=.iface 115 (aX d)
theorem J3:dx G 330 [aX d] [aI d FK.e0] λv m=>v=.nilIface/\m=[aI d FK.e1]:=by
 have:=pk (G:=G) (d:=d) (σ:=FK.e0) fi fi;rw[FK.I9] at this;exact this
theorem J2:dx G 330 [aX d] [aI d FK.e1] λv m=>v=.nilIface/\m=[aI d FK.e2]:=by
 have:=pk (G:=G) (d:=d) (σ:=FK.e1) fi fi;rw[FK.I8] at this;exact this
theorem Bq (J I:Nat):DoesD Tryz.prog G 168 [aX I,aX J].toArray .returning .returning [blk I 109 #[.nilIface]] λm=>m=[blk I 109 #[.nilIface]]:=by
 refine DoesD.plain Tryz.func168 Z Z λE fr K=>?_;exact aa<|sS<|aR Z Z Z Z<|sP (eT Z Z)<|sN<|aj Z<|ae<|bD [_] rfl ⟨rfl,rfl⟩ aT
theorem zg (T Y:Value):dQ 107 [Dl d,T,Y] [aI d FK.e0] λv m=>∃j,v=.tuple #[aX j,.nilIface]/\m=[aP j d FK.J0,aI d FK.e2]:=by
 refine tL Tryz.func107 Z Z λE fr O=>?_;refine aa<|sS<|sO (cH (z:=.pointer none) Z λK=>(sO (cH (z:=.nilIface) Z λJ=>(sN (sS (sM Z (sP (bI (ps:=[(0,.tmp 25)]) (vs:=[Dl d]) (cs:=xg d FK.J0) Z Z Z Z Z) (sO (cR Z Z λI=>(aG I (xg d FK.J0) Z ?_))))))))))
 refine bR Z Z Z Z gN ?_;refine aG K #[aX I] rfl<|sN<|sS ?_
 refine sP (gP Z Z) ?_;refine sO<|CK Z<|sN<|sQ<|bq Z ?_
 refine sO<|ku Z Z Z (E1 ⟨d,0,none⟩) Z O J3 gfE3 ?_
 rintro v m ⟨rfl,rfl⟩;refine aa ?_;refine bR Z Z Z Z gN ?_;refine aG J #[.nilIface] rfl ?_;refine aq (l':=blk J 109 #[.nilIface]::blk K 169 #[aX I]::aP I d FK.J0::aI d FK.e1::fr) aJ ?_;refine sN<|sS<|aR Z Z Z Z<|sP (eT Z Z)<|sN<|aj Z<|ae<|sT<|bq Z ?_
 refine sO<|ku Z Z Z (Kr ⟨d,0,none⟩) Z O (tP Z Z) gfE3 ?_
 rintro v m ⟨rfl,rfl⟩;refine aa<|sM Z<|bT Z Z<|bT Z Z<|sA Z ?_
 refine bR Z Z Z Z gN ?_;refine aG J #[.nilIface] rfl ?_;refine aq (l':=blk J 109 #[.nilIface]::blk K 169 #[aX I]::aP I d FK.J0::aI d FK.e1::fr) aJ ?_;refine sN<|sQ<|sS<|aR Z Z Z Z<|sP (eT Z Z)<|sN<|aj Z<|ae<|sT<|sS<|sB Z<|sQ<|sS ?_
 refine ch Z (bp Z Z)<|sM Z<|sN<|ag ?_
 refine aO (X:=Nat) (λ_=>[(42,aw 0),(41,aw 0),(9,cx),(8,cx),(7,aX J),(6,aX K),(2,Y),(1,T),(0,Dl d)]) (λ_=>blk J 109 #[.nilIface]::blk K 169 #[aX I]::aP I d FK.J0::aI d FK.e1::fr) (λ_=>True) (λ_=>0) 0 trivial bV aT ?_;intro k hk;refine sS<|sP (bz Z Z Z)<|sN<|sQ<|aj Z<|aL<|aA<|az<|ap<|sT<|sQ<|sZ Z<|dT Z Z<|bQ Z (au Z) (ah Z)<|dt 1 Z Z Z<|bQ Z (au Z) (ah Z)<|dj 6 Z (C3 Z)<|cv Z Z ?_
 refine dA 5 Z<|ed Z (uQ (kind:=⟨#[108,111,103]⟩) (n:=0) am fi) aT ?_
 rintro v m ⟨rfl,rfl⟩;refine aZ<|dK [false,true] (ai (ah Z) ak) ?_
 refine dA 8 Z<|ku Z Z Z (mRead ⟨d,0,none⟩) Z O (tZ (name:=FK.d7 0) Z Z) gfE3 ?_
 rintro v m ⟨rfl,rfl⟩;refine aa<|dK [true] (ai (ah Z) ak)<|dj 9 Z (bd Z)<|bC Z (cf Z Z)<|bC Z (cf Z Z)<|bC Z (aU Z) ?_
 refine dA 13 Z<|co Z Z Z Z Z (by show 0<1;omega) ?_
 refine aG J #[.iface 48 (aw 9)] rfl ?_;refine aq (l':=blk J 109 #[.iface 48 (aw 9)]::blk K 169 #[aX I]::aP I d FK.J0::aI d FK.e1::fr) aJ ?_;refine dK [false] ak<|dE<|sT<|sQ<|sS<|aR Z Z Z Z<|sP (i7 Z Z)<|sM Z<|fN (au Z) (ah Z)<|ci (ef Z Z Z) ?_
 refine jX Z Z Z<|ed Z (xO 9) aT ?_
 rintro v m ⟨rfl,rfl⟩;refine aZ<|ci (cD Z Z)<|sP (aF Z Z Z)<|sN<|aj Z<|ae<|sT<|sQ<|bq Z<|sP (B0 Z Z Z)<|sN<|aj Z<|ae<|sT<|sQ<|ag ?_
 refine aO (X:=Nat) (λ_=>[(19,cx),(8,cx),(7,aX J),(6,aX K),(0,Dl d)]) (λ_=>blk J 109 #[.iface 48 (aw 9)]::blk K 169 #[aX I]::aP I d FK.J0::aI d FK.e1::fr) (λ_=>True) (λ_=>0) 0 trivial bV aT ?_;intro k hk;refine sQ<|bq Z<|sP (bp Z Z)<|sP (dY Z Z Z)<|sM Z<|bg Z<|bg Z<|bg Z<|bg Z<|bg Z<|sP (aF Z Z Z)<|sN<|aj Z<|aL<|aA<|az<|ap<|sT<|sQ<|sQ ?_
 refine sG<|ch Z (bp Z Z)<|sM Z<|sN<|ag ?_
 refine aO (X:=Nat) (λ_=>[(142,aw 0),(141,aw 0),(7,aX J),(6,aX K),(0,Dl d)]) (λ_=>blk J 109 #[.iface 48 (aw 9)]::blk K 169 #[aX I]::aP I d FK.J0::aI d FK.e1::fr) (λ_=>True) (λ_=>0) 0 trivial bV aT ?_;intro k hk;refine sS<|sP (bz Z Z Z)<|sN<|sQ<|aj Z<|aL<|aA<|az<|ap<|sT<|bq Z ?_
 refine sO<|ku Z Z Z (E1 ⟨d,0,none⟩) Z O J2 gfE3 ?_
 rintro v m ⟨rfl,rfl⟩;refine aa ?_;refine bR Z Z Z Z gN ?_;refine aG J #[.nilIface] rfl<|sN<|an ?_
 refine mU (.inl Z) Z Z O (Bq K J) aT ?_;rintro m rfl;refine aa<|dr [aP I d FK.J0,aI d FK.e2] rfl (gc Z Z (ah Z)) (gc Z Z (ah Z)) ⟨I,rfl,rfl⟩ ?_
 show Ent _ (aP I d FK.J0::aI d FK.e2::fr);exact aJ
theorem Dr:dx G 111 [aX j] [aP j d J] λv m=>v=.bool J.torn/\m=[aP j d J]:=by
 refine bA Tryz.func111 Z λE fr I=>?_;exact aa<|sS<|sB Z<|sS<|cG 2 Z Z<|aR Z Z Z Z<|sB Z<|an<|ar [_] rfl Z ⟨rfl,rfl⟩ aT
theorem zz:dQ 63 [Dl d] [aI d FK.e0] λv m=>∃f e j p,v=.tuple #[aX f,.nilIface]/\m=bX f e j d p FK.En.fresh FK.J0 FK.e2:=by
 refine bA Tryz.func63 Z λE fr K=>aa<|sS<|sA Z<|sB Z<|sS ?_
 refine bU Z IK aT ?_;rintro v m ⟨e,p,rfl,rfl⟩;refine aa<|sP (bI (ps:=[(0,.tmp 8)]) (vs:=[aX e]) (cs:=#[aX e,.pointer none]) Z Z Z Z Z)<|sO (cR Z Z λI=>(sO (cH (z:=.pointer none) Z λJ=>?_)))
 refine bR Z Z Z Z gN ?_;refine aG J #[aX I] rfl<|sN<|bq Z ?_
 refine sP (gP Z Z) ?_;refine aR Z Z Z Z ?_;refine sP (gP Z Z) ?_;refine bU Z (zg _ _) gfE3 ?_;rintro v m ⟨j,rfl,rfl⟩;refine aD<|sM Z<|bT Z Z<|bT Z Z<|sA Z<|sB Z<|sQ<|bq Z<|sP (eT Z Z)<|sN<|aj Z<|ae<|sT<|sS ?_
 refine aR Z Z Z Z<|cG 1 Z Z<|bR Z Z Z Z (by show 1<2;decide) ?_
 refine aG I #[aX e,aX j] rfl<|sN<|sQ<|bq Z ?_
 refine bW Z Dr gfE1 ?_;refine aa<|sN<|aj Z<|ae<|sT<|sS<|aR Z Z Z Z<|sA Z<|sB Z<|an<|ea (bX I e j d p FK.En.fresh FK.J0 FK.e2) Z Z Z ⟨I,e,j,p,rfl,rfl⟩ ?_
 show Ent _ (cU I e j::aN e p FK.En.fresh::aP j d FK.J0::aI d FK.e2::fr);exact aJ
theorem zn {h:Nat}:dQ 28 [aX h,iO] [dX h d none,aI d FK.e0] λv m=>v=aw 0/\∃f e j p,m=cj h f e j d p FK.En.fresh FK.J0 FK.e0:=by
 refine bA Tryz.func28 Z λE fr J=>aD<|sS<|sO (cR Z Z λI=>(sB Z (sS (sM Z (bF (bO (vs:=cA (-1) (-1) 0 0) Z) (bm Z) ?_)))))
 refine bW Z (eH (-1) (-1) 0 0) (bo bJ bJ) ?_;refine aD ?_;rw[my FK.yd];refine aq (l':=dX h d none::aI d FK.e0::blk I 41 (cA (-1) (-1) 0 0).toArray::fr) (by show Ent (_::_::blk I 41 (cA (-1) (-1) 0 0).toArray::_) _;exact aJ) ?_;refine sN<|sS<|cG 0 Z Z<|aR Z Z Z Z<|sP (ef Z Z Z) ?_
 refine bU Z zz gfE1 ?_;rintro v m ⟨f,e,j,p,rfl,rfl⟩;refine bS<|sM Z<|bT Z Z<|bT Z Z<|sA Z<|sB Z<|bq Z<|cG 1 Z Z ?_
 refine bR Z Z Z Z gN ?_;refine aG h #[aX d,aX f] rfl<|sN<|sQ<|bq Z<|sP (eT Z Z)<|sN<|aj Z<|ae<|sT<|sQ ?_
 refine aq (l':=bB h d f::aI d FK.e2::cU f e j::aN e p FK.En.fresh::aP j d FK.J0::blk I 41 (cA (-1) (-1) 0 0).toArray::fr) aJ ?_;refine sG<|sM Z<|bF (bO (vs:=cA (-1) (-1) 0 0) Z) (bm Z) ?_
 refine bW Z (fT (σ:=FK.e2) (-1) (-1) 0 0 Z) aT ?_;refine aD ?_;rw[show FK.e2.rested=FK.e0 from rfl];refine sN<|bq Z ?_
 refine bW Z kA aT ?_;refine aZ<|sB Z<|an<|ar (cj h f e j d p FK.En.fresh FK.J0 FK.e0) Z Z ⟨rfl,f,e,j,p,rfl⟩ ?_
 show Ent _ (bB h d f::cU f e j::aN e p FK.En.fresh::aP j d FK.J0::aI d FK.e0::fr);exact aJ
end Go.Y
namespace FK
structure Dk (N:Nat) (σ:Dsk):Prop where
 quiet:Quiet σ
 now:pQ σ.now<=N
 dur:pQ σ.dur<=N
theorem Dk.e0:Dk 0 FK.e0:=⟨yd,cu _,cu _⟩
theorem Dk.logs {N:Nat} {σ:Dsk} (h:Dk N σ) (n:Nat) {s:ByteArray} (J:s.size<=100000):Dk (N+100000) (σ.logs n s):=by
 have E:=Ah σ.now ⟨2,d7 n,s⟩;have I:=Ah σ.dur ⟨2,d7 n,s⟩;have h3:=h.now;have K:=h.dur;refine⟨h.quiet.logs n s,?_,?_⟩
 · show pQ (fj σ.now ⟨2,d7 n,s⟩)<=_
   simp only at E;omega
 · show pQ (fj σ.dur ⟨2,d7 n,s⟩)<=_
   simp only at I;omega
end FK
namespace Go.Y
open Go.Proofs
open Go Go.RowKit Go.SL
theorem Hc (h:FK.Dk N σ) (E:N<=1000000000000000):Roomy σ:=by
 have I:=h.now;have J:=h.dur;refine⟨am,?_,by rw[h.quiet.pend];simp⟩;rw[h.quiet.pend];simp[FK.kl];omega
theorem He (h:FK.Dk N σ) (J:FK.Jn) (op:Nat) (E:n<18446744073709551616):FK.Dk (N+100000) (noted σ J op n):=by
 refine h.logs J.n ?_;have I:=iy E;have K:(FK.eD op n).length<=11:=by unfold FK.eD;simp;omega
 have h3:=pC (FK.eD op n) am;rw[oC];omega
section
variable {h f:Nat}
end
open Go.Proofs Go.RowKit Go.SL
structure Live (N:Nat) (S:FK.En) (M:FR.En) (J:FK.Jn) (σ:FK.Dsk):Prop where
 pair:FR.Pair N S M
 dk:FK.Dk (100000*N) σ
 jn:J.n<1000000
 jb:J.broken=0
abbrev ph (h f e j d N:Nat) (p:EA) (x:Int) (M:FR.En) (v:Value) (m:List HP):Prop:=v=aw x/\∃U E I,Live (N+1) U M E I/\m=cj h f e j d p U E I
abbrev xk (E:Nat) (ns:List ND) (x:Int) (M:FR.En) (v:Value) (m:List HP):Prop:=v=aw x/\∃a,m=[aV E a ns M,bx ns]
section
variable {h f t:Nat}
section
variable {F:FuncId} {A:Array Value} {m:List HP}
theorem Live.roomy (E:Live N S M J σ) (I:N<=100000):Roomy σ:=Hc E.dk am
theorem Live.succ (E:Live N S M J σ):Live (N+1) S M J σ:=⟨E.pair.succ,⟨E.dk.quiet,by have:=E.dk.now;omega,by have:=E.dk.dur;omega⟩,E.jn,E.jb⟩
theorem Live.noted (E:Live N S M J σ) {U:FK.En} {V:FR.En} (I:FR.Pair (N+1) U V) (op:Nat) (K:t<18446744073709551616):Live (N+1) U V J (noted σ J op t):=⟨I,by have:=He E.dk J op K;rwa [show 100000*(N+1)=100000*N+100000 by omega],E.jn,E.jb⟩
theorem Hx {Q:Int->FK.En->FK.Jn->FK.Dsk->Prop}
 (hG:∀{aft:FK.Dsk->Option Addr×FK.Dsk} {Q:Int->FK.En->FK.Jn->FK.Dsk->Prop},(Does Tryz.prog Good F [aX f,aQ t].toArray (bX f e j d p S J {σ with left:=-1,full:=-1}) λv m=>∃c U E ω,v=eY c/\Q c U E ω/\m=bX f e j d p U E ω)->(∀c U E ω,Q c U E ω->rI f h d (-1) (-1) 0 0 aft ω)->dQ 25 [aX h,aw K,aQ t,iO] (cj h f e j d p S J σ) λv m=>∃c U E ω,v=aw c/\Q c U E ω/\m=[dX h d (aft ω).1,cU f e j,aN e p U,aP j d E,aI d (aft ω).2])
 (hQ:FK.Quiet σ) (hC:Does Tryz.prog Good F [aX f,aQ t].toArray (bX f e j d p S J σ) λv m=>∃c U E ω,v=eY c/\ω.down=false/\Q c U E ω.rested/\m=bX f e j d p U E ω) :
 dQ 25 [aX h,aw K,aQ t,iO] (cj h f e j d p S J σ) λv m=>∃c U E Y,v=aw c/\Q c U E Y/\m=cj h f e j d p U E Y:=by
 refine(hG (aft:=λω=>(some ⟨f,0,none⟩,ω.rested)) (Q:=λc U E ω=>ω.down=false/\Q c U E ω.rested) ?_ λc U E ω hq=>fT (-1) (-1) 0 0 hq.1).mono ?_
 · rw[my hQ]
   exact hC.mono λv m ⟨c,U,E,ω,I,T,h3,O⟩=>⟨m,⟨c,U,E,ω,I,⟨T,h3⟩,O⟩,aT⟩
 · rintro v m ⟨c,U,E,ω,I,⟨T,h3⟩,O⟩
   exact⟨m,⟨c,U,E,ω.rested,I,h3,O⟩,aT⟩
theorem Live.call (I:Live N S M J σ) {op:Nat} {Q:FK.En->Prop} (K:∀U,Q U->FR.Pair (N+1) U V) (O:t<18446744073709551616) (T:CallPost f e j d p S J σ op t Q v m):∃c U E ω,v=eY c/\ω.down=false/\(c=0/\Live (N+1) U V E ω.rested)/\m=bX f e j d p U E ω:=by
 obtain⟨c,U,E,ω,Y,h2,⟨h3,h4,rfl,h6⟩,h7⟩:=T.well I.dk.quiet I.jb;exact⟨c,U,E,ω,Y,h2,⟨h3,h6▸I.noted (K U h4) op O⟩,h7⟩
theorem Live.not (E:Live N S M J σ) (I:v=eY x/\m=bX f e j d p S J σ):∃c U K ω,v=eY c/\ω.down=false/\(c=x/\Live (N+1) U M K ω.rested)/\m=bX f e j d p U K ω:=
 ⟨x,S,J,σ,I.1,E.dk.quiet.down,⟨rfl,by rw[E.dk.quiet.rested];exact E.succ⟩,I.2⟩
theorem kY (K:Does Tryz.prog Good F A l λv m=>∃c U E I,v=aw c/\(c=x/\Live (N+1) U V E I)/\m=cj h f e j d p U E I):Does Tryz.prog Good F A l (ph h f e j d N p x V):=
 K.mono λv m ⟨c,U,E,I,O,⟨T,h3⟩,Y⟩=>⟨m,⟨by rw[O,T],U,E,I,h3,Y⟩,aT⟩
theorem vF (h:Does Tryz.prog Good F A [aV n a ns M] λv m=>v=aw x/\m=[aV n a ns M]):Does Tryz.prog Good F A [aV n a ns M,bx ns] (xk n ns x M):=
 (h.frame [bx ns]).mono λv m ⟨O,⟨I,K⟩,h3⟩=>⟨m,⟨I,a,by rw[h3,K];rfl⟩,aT⟩
theorem beat2 (E:Live N S M J σ) (hN:N<=100000) (ht:t<18446744073709551616):∃(x:Int) (V:FR.En),(x≠0->V=M)/\dQ 25 [aX h,aw 3,aQ t,iO] (cj h f e j d p S J σ) (ph h f e j d N p x V)/\∀O a ns,dQ 68 [aX O,aQ t] [aV O a ns M,bx ns] (xk O ns x V):=by
 have I:=E.pair;have K:=I.fine am;rcases I.work t with⟨i,k,u,s,nd,hw,T⟩|⟨hw,hno⟩
 · obtain⟨h1,h2,h3⟩:=hw.get I
   have hb:=((K.fit u (bY hw.run)).1.KW k nd (gfGet.1 T).1 T).1.2.2.2.1.2;exact⟨0,M.beat i k u s nd,λh=>absurd rfl h,kY (Hx JF E.dk.quiet ((zF I.ok ht E.jn (E.roomy hN) h3 h1 T (by have:=I.sets;omega)).mono λv m Y=>⟨m,E.call (λU hU=>by subst hU;exact I.beat hw T 0) ht Y,aT⟩)),λO a ns=>(yV K.runs (eS K) hw (hw.only I) T K.time am (by have:=K.timers;omega)).mono λv m ⟨h1,h2⟩=>⟨m,⟨h1,a,h2⟩,aT⟩⟩
 · exact⟨7,M,λ_=>rfl,kY (Hx JF E.dk.quiet ((zG hno).mono λv m Y=>⟨m,E.not Y,aT⟩)),λO a ns=>vF (yW K.runs (eS K) hw)⟩
theorem ED (E:Live N S M J σ) (hN:N<=100000) (Y:t<18446744073709551616):∃(x:Int) (V:FR.En),(x≠0->V=M)/\dQ 25 [aX h,aw 4,aQ t,iO] (cj h f e j d p S J σ) (ph h f e j d N p x V)/\∀O a ns,dQ 69 [aX O,aQ t] [aV O a ns M,bx ns] (xk O ns x V):=by
 have I:=E.pair;have K:=I.fine am;rcases I.work t with⟨i,k,u,s,nd,hw,hn⟩|⟨hw,hno⟩
 · obtain⟨h1,h2,h3⟩:=hw.get I
   obtain⟨hf,hl⟩:=K.fit u (bY hw.run);exact⟨0,M.complete i k u s,λh=>absurd rfl h,kY (Hx JE E.dk.quiet ((qM I.ok Y E.jn (E.roomy hN) h3 (by have:=I.ends;omega)).mono λv m T=>⟨m,E.call (λU hU=>by subst hU;exact I.complete hw hn) Y T,aT⟩)),λO a ns=>(qI K.runs (eS K) hw (hw.only I) hl (wa hf) hf.head.2.2 K.KX (by have:=K.ends;omega)).mono λv m ⟨h1,g,c,h2⟩=>⟨m,⟨h1,a.q g c,h2⟩,aT⟩⟩
 · exact⟨7,M,λ_=>rfl,kY (Hx JE E.dk.quiet ((qN hno).mono λv m T=>⟨m,E.not T,aT⟩)),λO a ns=>vF (qJ K.runs (eS K) hw)⟩
theorem fail2 (I:Live N S M J σ) (hN:N<=100000) (Y:t<18446744073709551616):∃(x:Int) (V:FR.En),(x≠0->V=M)/\dQ 25 [aX h,aw 5,aQ t,iO] (cj h f e j d p S J σ) (ph h f e j d N p x V)/\∀K a ns,dQ 70 [aX K,aQ t] [aV K a ns M,bx ns] (xk K ns x V):=by
 have E:=I.pair;have O:=E.fine am;rcases E.work t with⟨i,k,u,s,nd,hw,hn⟩|⟨hw,hno⟩
 · obtain⟨h1,h2,h3⟩:=hw.get E
   exact⟨0,M.fails i k u s nd,λh=>absurd rfl h,kY (Hx JD I.dk.quiet ((zC E.ok Y I.jn (I.roomy hN) h3 (by have:=E.sets;omega) (by have:=E.ends;omega)).mono λv m T=>⟨m,I.call (λU hU=>by subst hU;exact E.fail hw hn) Y T,aT⟩)),λK a ns=>(yN O.runs (eS O) hw (hw.only E) (p9 O hw.run hw.step hn)).mono λv m ⟨h1,g,c,h2⟩=>⟨m,⟨h1,a.q g c,h2⟩,aT⟩⟩
 · exact⟨7,M,λ_=>rfl,kY (Hx JD I.dk.quiet ((zD hno).mono λv m T=>⟨m,I.not T,aT⟩)),λK a ns=>vF (yO O.runs (eS O) hw)⟩
theorem Je (K:Live N S M J σ) (hN:N<=100000) (ht:t<18446744073709551616):∃(x:Int) (V:FR.En),(x≠0->V=M)/\dQ 25 [aX h,aw 6,aQ t,iO] (cj h f e j d p S J σ) (ph h f e j d N p x V)/\∀I a ns,dQ 71 [aX I,aQ t] [aV I a ns M,bx ns] (xk I ns x V):=by
 have T:=K.pair;have hF:=T.fine am
 by_cases hx:∃(i:Nat) (u:FR.Rn),M.runs[i]?=some u/\u.id=t
 · obtain⟨i,u,O,rfl⟩:=hx
   have hR:=T.sim.toAb.get O;have hr:=λ(I:Nat) (a:RfA) (ns:List ND)=>((t6 (G:=Good) (e:=I) (a:=a) (ns:=ns) hF.runs T.nd O (by have:=hF.ends;omega) (eS hF u (bY O)) (by have:=hF.KX;omega)).frame [bx ns])
   by_cases E:u.state=1
   · exact⟨0,M.endr i u 4,λh=>absurd rfl h,kY (Hx E4 K.dk.quiet ((ud T.ok ht K.jn (K.roomy hN) hR E (by have:=T.ends;omega)).mono λv m Y=>⟨m,K.call (λU hU=>by subst hU;exact T.cancel O E) ht Y,aT⟩)),λI a ns=>(hr I a ns).mono λv m ⟨m',hm,e⟩=>by
      obtain⟨h1,g,c,rfl⟩:=hm.2 E;exact⟨m,⟨h1,a.q g c,e⟩,aT⟩⟩
   · exact⟨6,M,λ_=>rfl,kY (Hx E4 K.dk.quiet ((nO λR h=>by rw[hR] at h;injection h with h;subst h;exact E).mono λv m Y=>⟨m,K.not Y,aT⟩)),λI a ns=>(hr I a ns).mono λv m ⟨m',hm,e⟩=>by
      obtain⟨h1,rfl⟩:=hm.1 E;exact⟨m,⟨h1,a,e⟩,aT⟩⟩
 · exact⟨6,M,λ_=>rfl,kY (Hx E4 K.dk.quiet ((nO λR h=>by obtain⟨i,u,O,e,_⟩:=T.sim.toAb.back h;exact absurd ⟨i,u,O,e⟩ hx).mono λv m Y=>⟨m,K.not Y,aT⟩)),λI a ns=>vF (t7 hF.runs λu O e=>by obtain⟨i,hi⟩:=List.getElem?_of_mem O;exact hx ⟨i,u,hi,e⟩)⟩
theorem seed2 (E:Live N S M J σ) (K:N<=100000) (I:t<18446744073709551616):dQ 25 [aX h,aw 8,aQ t,iO] (cj h f e j d p S J σ) (ph h f e j d N p 0 {M with seed:=t}):=
 kY (Hx hdo8G E.dk.quiet ((BU I E.jn (E.roomy K)).mono λv m O=>⟨m,E.call (λU T=>by subst T;exact E.pair.seed I) I O,aT⟩))
theorem tick2 (E:Live N S M J σ) (hN:N<=100000) (O:t<18446744073709551616):dQ 25 [aX h,aw 7,aQ t,iO] (cj h f e j d p S J σ) λv m=>v=aw 0/\∃U V Y σ',Live (N+1) U V Y σ'/\m=cj h f e j d p U Y σ'/\∀K a ns,dQ 72 [aX K,aQ t] [aV K a ns M,bx ns] λv m=>v=.tuple #[]/\∃a,m=[aV K a ns V,bx ns]:=by
 have I:=E.pair;have hF:=I.fine am;refine(BG I.ok O E.jn E.jb (E.roomy hN) E.dk.quiet (by have:=I.sets;omega) (by have:=I.ends;omega)).mono ?_;rintro v m ⟨rfl,U,hT,rfl⟩;obtain⟨k,V,hV,T⟩:=I.tick am (FK.mJ S t) hT;refine⟨_,⟨rfl,U,V,J,_,E.noted T 7 O,rfl,λK a ns=>?_⟩,aT⟩;have e:S.later t=min (M.time+t) 4611686018427387904:=by unfold FK.En.later;rw[I.sim.now]
 rw[e] at hV;exact(AY t O hF.time hV).mono λv m ⟨h1,g,c,h2⟩=>⟨m,⟨h1,a.q g c,h2⟩,aT⟩
theorem poll2 (K:Live N S M J σ) (hN:N<=100000) :
 (dQ 24 [aX h,iO] (cj h f e j d p S J σ) (λv m=>v=.tuple #[fR 0 0 0 0,.bool false,aw 0]/\m=cj h f e j d p S J σ)/\∀I a ns,dQ 67 [aX I] [aV I a ns M,bx ns] λv m=>v=.tuple #[fR 0 0 0 0,.bool false]/\∃a,m=[aV I a ns M,bx ns])\/
 ∃(a:Nat) (b c:Int) (t:Nat) (V:FR.En),(dQ 24 [aX h,iO] (cj h f e j d p S J σ) (λv m=>v=.tuple #[fR a b c t,.bool true,aw 0]/\∃U J' σ',Live (N+1) U V J' σ'/\m=cj h f e j d p U J' σ')/\∀I x ns,dQ 67 [aX I] [aV I x ns M,bx ns] λv m=>v=.tuple #[fR a b c t,.bool true]/\∃x,m=[aV I x ns V,bx ns]):=by
 have E:=K.pair;have T:=E.fine am;cases hq:M.KX with
 | nil=>
  refine .inl ⟨zm K.dk.quiet (by rw[E.sim.KX,hq];rfl),λI a ns=>?_⟩;exact((yJ hq).frame [bx ns]).mono λv m ⟨m',⟨h1,h2⟩,h3⟩=>⟨m,⟨h1,a,by rw[h3,h2];rfl⟩,aT⟩
 | cons y q=>
  obtain⟨i,k,u,s,Y,e1,e2,hs,h2⟩:=E.KY (p:=y) (by rw[hq];exact .head _);obtain⟨y1,y2⟩:=y;simp only at e1 e2;subst e1;subst e2;have hR:=E.sim.toAb.get Y;obtain⟨nd,O,_⟩:=E.ok.node hR (FR.fI hs);have O:u.fl.KW[k]?=some nd:=O;obtain⟨mt,wf⟩:=E.hand hq Y hs O;have hb:=((T.fit u (bY Y)).1.KW k nd (gfGet.1 O).1 O).1;obtain⟨_,_,⟨c1,c2⟩,⟨c3,c4⟩,_⟩:=hb;have BT:=T.KU u (bY Y) s (bY hs);refine .inr ⟨u.id,k,s.KU+1,M.KS+1,M.hand q i k u s nd,(zl E.ok K.jn K.jb (K.roomy hN) K.dk.quiet mt hR (FR.fI hs) O (by have:=E.sets;omega) (by have:=E.lt;omega)).mono ?_,λI a ns=>?_⟩
  · rintro v m ⟨rfl,rfl⟩
    exact⟨_,⟨by rw[E.sim.lt];rfl,_,J,_,K.noted wf 2 fi,rfl⟩,aT⟩
  · have:=E.lt
    have:=E.sim.lt;refine(yI T.runs E.nd hq Y hs O (by have:=T.KX;omega) T.time am am am (by have:=T.timers;omega) am BT.1 am).mono ?_;rintro v m ⟨rfl,g,c,rfl⟩;exact⟨_,⟨rfl,a.q g c,rfl⟩,aT⟩
theorem poll3 (O:Live N S M J σ) (hN:N<=100000):∃(a:Nat) (b c:Int) (t:Nat) (ok:Bool) (V:FR.En),(ok=false->V=M/\a=0/\b=0/\c=0/\t=0)/\(dQ 24 [aX h,iO] (cj h f e j d p S J σ) (λv m=>v=.tuple #[fR a b c t,.bool ok,aw 0]/\∃U T Y,Live (N+1) U V T Y/\m=cj h f e j d p U T Y))/\∀E x ns,dQ 67 [aX E] [aV E x ns M,bx ns] λv m=>v=.tuple #[fR a b c t,.bool ok]/\∃x,m=[aV E x ns V,bx ns]:=by
 rcases poll2 (h:=h) (f:=f) (e:=e) (j:=j) (d:=d) (p:=p) O hN with⟨I,K⟩|⟨a,b,c,t,V,I,K⟩
 · exact⟨0,0,0,0,false,M,λ_=>⟨rfl,rfl,rfl,rfl,rfl⟩,I.mono λv m ⟨e1,e2⟩=>⟨m,⟨e1,S,J,σ,O.succ,e2⟩,aT⟩,K⟩
 · exact⟨a,b,c,t,true,V,λh=>Bool.noConfusion h,I,K⟩
theorem Cw {A:Option Addr} {pb:HP} (hL:Live N S M J σ) (hN:N<=100000) (hp:Reads pb A bs) (hA:A=none->bs=[]) (hl:bs.length<=20000) :
 ∃(n:Nat) (x BT:Int) (W1:FK.En->FK.Jn->FK.Dsk->Prop) (W2:FR.En->Prop),(∀U E I V,W1 U E I->W2 V->Live (N+1) U V E I/\(x≠0->V=M)/\(x≠0->n=0))/\
  (dQ 21 [aX h,.slice A bs.length c,iO] (cj h f e j d p S J σ++[pb]) λv m=>v=.tuple #[aQ n,aw x,aw BT]/\∃O U E I,W1 U E I/\m=cj h f e j d O U E I++[pb])/\
  ∀T a ns,dQ 66 [aX T,.slice A bs.length c] [aV T a ns M,bx ns,pb] λv m=>v=.tuple #[aQ n,aw x,aw BT]/\∃Y wf V,W2 V/\(x≠0->wf=ns)/\m=[aV T Y wf V,bx wf,pb]:=by
 have K:=hL.pair;have hF:=K.fine am;have K4:=K.lr;have K3:=K.sim.lr;have hQ:=hL.dk.quiet;have hR:=λ(T:Nat) (a:RfA) (ns:List ND)=>wy (e:=T) (a:=a) (ns:=ns) (c:=c) hp am hF K.nd (λu hu=>by obtain⟨i,hi⟩:=List.getElem?_of_mem hu;have:=(K.ok.low u.id (by rw[K.sim.toAb.keys];exact List.mem_map_of_mem hu)).2;omega) am K.six (by have:=K.ok.queueLe;have e:M.KX.length=S.KX.length:=(by rw[K.sim.KX,List.length_map]);omega);cases hd:FK.nF bs with
 | error xy=>
  obtain⟨x,y⟩:=xy;refine⟨0,x,y,λU E I=>U=S/\E=J/\I=σ,λV=>V=M,?_,?_,λT a ns=>(hR T a ns).mono ?_⟩
  · rintro U E I V ⟨rfl,rfl,rfl⟩ rfl
    exact⟨hL.succ,λ_=>rfl,λ_=>rfl⟩
  · refine(sg (aft:=λω=>(some ⟨f,0,none⟩,ω.rested)) hp hA am (λA9 c9 h1 h2=>by rw[my hQ];exact GP h1 am hd) ?_).mono ?_
    · rintro n x' Y O U E ω ⟨_,_,_,_,_,_,rfl⟩
      exact fT _ _ _ _ hQ.down
    · rintro v m ⟨n,x',Y,O,U,E,ω,rfl,⟨rfl,rfl,rfl,rfl,rfl,rfl,rfl⟩,rfl⟩
      exact⟨_,⟨rfl,O,U,E,ω,⟨rfl,rfl,rfl⟩,by show _=bB h d f::cU f e j::aN e O U::aP j d E::aI d ω::[pb];rw[hQ.rested]⟩,aT⟩
  · rintro v m (⟨x',y',h,rfl,rfl⟩|⟨fl,h,_⟩|⟨fl,M0,Y,nd,h,_⟩)
    · rw[hd] at h
      injection h with h;injection h with h1 h2;subst h1;subst h2;exact⟨_,⟨rfl,a,ns,M,rfl,λ_=>rfl,rfl⟩,aT⟩
    · rw[hd] at h;cases h
    · rw[hd] at h;cases h
 | ok fl=>
  have mt:=dec_fit hd;cases hroom:S.roomy with
  | false=>
   refine⟨0,5,-1,λU E I=>U=S/\E=J/\I=σ,λV=>V=M,?_,?_,λT a ns=>(hR T a ns).mono ?_⟩
   · rintro U E I V ⟨rfl,rfl,rfl⟩ rfl
     exact⟨hL.succ,λ_=>rfl,λ_=>rfl⟩
   · refine(sg (aft:=λω=>(some ⟨f,0,none⟩,ω.rested)) hp hA am (λA9 c9 h1 h2=>by rw[my hQ];exact GO h1 am hd hroom) ?_).mono ?_
     · rintro n x' Y O U E ω ⟨_,_,_,_,_,_,rfl⟩
       exact fT _ _ _ _ hQ.down
     · rintro v m ⟨n,x',Y,O,U,E,ω,rfl,⟨rfl,rfl,rfl,rfl,rfl,rfl,rfl⟩,rfl⟩
       exact⟨_,⟨rfl,O,U,E,ω,⟨rfl,rfl,rfl⟩,by show _=bB h d f::cU f e j::aN e O U::aP j d E::aI d ω::[pb];rw[hQ.rested]⟩,aT⟩
   · rintro v m (⟨x',y',h,_⟩|⟨fl,h,h6,ho,rfl,rfl⟩|⟨fl,M0,Y,nd,h,hc,_⟩)
     · rw[hd] at h;cases h
     · exact⟨_,⟨rfl,a,ns,M,rfl,λ_=>rfl,rfl⟩,aT⟩
     · rw[K.room hc] at hroom;cases hroom
  | true=>
   refine⟨M.KT+1,0,-1,λU E I=>E=J/\I=σ.logs J.n (ii (FK.frame (1::bs)))/\∃S0,FK.Cut S S0/\U=S0.submit fl,λV=>∃M0,FR.Cutd M M0/\V=M0.submit fl,?_,?_,λT a ns=>(hR T a ns).mono ?_⟩
   · rintro U E I V ⟨rfl,rfl,S0,hc,rfl⟩ ⟨M0,hm,rfl⟩
     refine⟨⟨K.submit mt hroom hc hm,?_,hL.jn,hL.jb⟩,λh=>absurd Z h,λh=>absurd Z h⟩;rw[show 100000*(N+1)=100000*N+100000 by omega];refine hL.dk.logs _ ?_;have h3:=pC (1::bs) (by simp;omega);rw[oC];simp only[List.length_cons] at h3;omega
   · have Fd:=hQ.add hL.jb (ii (FK.frame (1::bs)))
     refine(sg (aft:=λω=>(some ⟨f,0,none⟩,ω.rested)) hp hA am (λA9 c9 h1 h2=>by rw[my hQ];exact(wP K.ok hL.jn (hL.roomy hN) h1 h2 am hd mt hroom (by have:=K.sets;omega) am).mono λv m hm=>⟨m,hm.to,aT⟩) ?_).mono ?_
     · rintro n x' Y O U E ω ⟨_,_,rfl,_⟩
       rw[Fd];exact fT _ _ _ _ hQ.down
     · rintro v m ⟨n,x',Y,O,U,E,ω,rfl,⟨rfl,rfl,rfl,rfl,hc⟩,rfl⟩
       rw[Fd] at hc ⊢;rcases hc with⟨_,rfl,S0,hc,rfl⟩|⟨h,_⟩
       · exact⟨_,⟨by rw[K3],O,_,J,σ.logs J.n (ii (FK.frame (1::bs))),⟨rfl,rfl,S0,hc,rfl⟩,by show[dX h d _,_,_,_,aI d (σ.logs J.n (ii (FK.frame (1::bs)))).spent.rested,pb]=_;rw[vW (hQ.logs _ _)];rfl⟩,aT⟩
       · exact absurd Z h
   · rintro v m (⟨x',y',h,_⟩|⟨In,h,h6,ho,_⟩|⟨In,M0,Y,nd,h,hc,rfl,rfl⟩)
     · rw[hd] at h;cases h
     · rw[K.full ⟨h6,ho⟩] at hroom;cases hroom
     · rw[hd] at h
       injection h with h;subst h;exact⟨_,⟨rfl,Y,_,_,⟨M0,hc,rfl⟩,λh=>absurd Z h,rfl⟩,aT⟩
end
end
abbrev du:Value:=.pointer none
abbrev gg (w h f e j d:Nat) (p:EA) (S:FK.En) (J:FK.Jn) (σ:FK.Dsk) (eb:Nat) (a:RfA) (ns:List ND) (M:FR.En):List HP:=cj h f e j d p S J σ++[cz w h (aX eb) du false false,aV eb a ns M,bx ns]
abbrev cQ (K:Int) (n:Nat) (dl:Int) (nv sv:Value):List Value:=[aw K,aQ n,aw dl,nv,sv,aw (-1),aw (-1),aw 0,aw 0]
abbrev kH (K:Int) (n:Nat) (dl:Int) (nv sv:Value):Value:=.agg (cQ K n dl nv sv).toArray
theorem jq {nv sv:Value}:∀j v,(cA (-1) (-1) 0 0)[j]?=some v->(cQ K n dl nv sv).toArray[5+j]?=some v:=λj v h=>by
 match j,h with
 | 0,h=>exact h
 | 1,h=>exact h
 | 2,h=>exact h
 | 3,h=>exact h
 | _+4,h=>cases h
theorem IW {nv sv:Value}:∀j v,([aw dl,nv]:List Value)[j]?=some v->(cQ K n dl nv sv).toArray[2+j]?=some v:=λj v h=>by
 match j,h with
 | 0,h=>exact h
 | 1,h=>exact h
 | _+2,h=>cases h
def Stepped (w h f e j d N:Nat) (c:List HP) (v:Value) (m:List HP):Prop:=v=.bool true/\∃p U E I eb a ns V,Live (N+1) U V E I/\m=gg w h f e j d p U E I eb a ns V++c
abbrev back (a b:Nat):Nat:=(((a:Int)-b)%18446744073709551616).toNat
theorem eW {w h:Nat} {mv O:Value} {T:Bool}:dQ 86 [aX w,aX N,aw x,aw x] [cz w h mv O T false] λv m=>v=.bool true/\m=[cz w h (if x=0 then aX N else mv) O T false]:=by
 refine bA Tryz.func86 Z λE fr Y=>aa<|sS<|sB Z<|sQ<|sQ ?_
 by_cases I:x=0
 ·
  refine sG<|ch Z (dc (r:=false) Z Z (by simp[I]))<|sN<|aj Z<|ae<|sT<|sQ<|bq Z<|sP (aY (r:=true) Z Z (by simp[I]))<|sN<|aM Z<|bq Z<|sM Z ?_
  refine da Z<|bn 1 Z ?_
  refine bR Z Z Z Z gN ?_;refine sN<|sS<|cG 4 Z Z<|bF (au (v:=.bool false) Z) (ah Z)<|sP (cD Z Z)<|sB Z<|an<|aC ?_
  exact ar [cz w h (if x=0 then aX N else mv) O T false] rfl Z ⟨rfl,rfl⟩ (by rw[if_pos I];exact aT)
 ·
  refine sG<|ch Z (dc (r:=true) Z Z (by simp[I]))<|sN<|aM Z<|bq Z<|ch Z (aY (r:=true) Z Z cY)<|sB Z<|an<|aC ?_
  exact ar [cz w h (if x=0 then aX N else mv) O T false] rfl Z ⟨rfl,rfl⟩ (by rw[if_neg I];exact aT)
section
variable {w h f:Nat} {eb:Nat} {nv sv:Value}
theorem AF (hL:Live N S M J σ) (hN:N<=100000):dQ 42 [aX w,kH 4 n dl nv sv] (gg w h f e j d p S J σ eb a ns M) (Stepped w h f e j d N []):=by
 have hP:=hL.pair;have hF:=hP.fine am;obtain⟨x,V,hx,hH,hR⟩:=beat2 (h:=h) (f:=f) (e:=e) (j:=j) (d:=d) (p:=p) hL hN (t:=back M.KS n) (by unfold back;omega);refine bA Tryz.func42 Z λE fr hE=>f7<|sS<|sO (cR Z Z λT=>(aG T (cQ 4 n dl nv sv).toArray Z (sB Z (sS (sM Z (da Z (bn 1 Z (bF (au (v:=aX eb) Z) (ah Z) ?_))))))))
 refine bU Z (fC hF hP.nd) qF ?_;rintro v m ⟨e2,Y,rfl,rfl⟩;refine aD ?_;refine aq (l':=bB h d f::cU f e j::aN e p S::aP j d J::aI d σ::aV eb a ns M::aV e2 Y ns M::bx ns::cz w h (aX eb) du false false::blk T 102 (cQ 4 n dl nv sv).toArray::fr) (by show Ent (aV eb a ns M::aV e2 Y ns M::blk T 102 (cQ 4 n dl nv sv).toArray::bB h d f::cU f e j::aN e p S::aP j d J::aI d σ::cz w h (aX eb) du false false::bx ns::fr) _;exact aJ) ?_;refine sB Z<|sQ<|sS<|bn 0 Z<|bF (au (v:=aw 4) Z) (ah Z)<|sN<|ag<|sQ<|sS<|sP (aY Z Z Z)<|sB Z<|aj Z<|sG ?_
 refine sP (aY Z Z Z)<|sB Z<|aj Z<|sS<|sP (aY Z Z Z)<|sB Z<|aj Z<|sS<|sP (aY Z Z Z)<|sB Z<|aM Z<|sQ ?_
 refine sZ Z<|dT Z Z<|dt 1 Z Z Z<|bQ Z (au (v:=aX eb) Z) (ah Z)<|dt 5 Z Z Z<|bQ Z (au (v:=aQ M.KS) Z) (cg Z)<|bC Z (bl 1 Z)<|bQ Z (au (v:=aQ n) Z) (ah Z) ?_
 refine dj 9 Z (cV (r:=((back M.KS n:Nat):Int)) Z Z (by rw[km];unfold back;omega)) ?_;refine dj 10 Z (aU Z)<|dE<|sT<|sQ<|sZ Z<|dT Z Z<|dt 0 Z Z Z<|bQ Z (au (v:=aX h) Z) (ah Z)<|cv Z Z<|bC Z (bl 5 Z)<|bQ Z (bO (vs:=cA (-1) (-1) 0 0) Z) (ko jq) ?_
 refine dA 7 Z<|ed Z hH aT ?_
 rintro v m ⟨rfl,U,I,K,O,rfl⟩;refine aq (l':=bB h d f::cU f e j::aN e p U::aP j d I::aI d K::aV eb a ns M::aV e2 Y ns M::bx ns::cz w h (aX eb) du false false::blk T 102 (cQ 4 n dl nv sv).toArray::fr) aT ?_;refine dK [false,false] ak<|dj 8 Z (aU Z)<|dE<|sT<|bq Z<|sM Z ?_
 refine bU Z (hR e2 Y ns) (bo nH nH) ?_;rintro v m ⟨rfl,a3,rfl⟩;refine aD<|sB Z<|bq Z<|sM Z<|sM Z<|sM Z ?_
 refine bW Z eW Di ?_;refine aa<|sB Z<|an<|aH<|aC ?_
 by_cases h0:x=0
 · subst h0
   refine ar (gg w h f e j d p U I K e2 a3 ns V++[]) Z Z ⟨rfl,p,U,I,K,e2,a3,ns,V,O,rfl⟩ ?_;show Ent _ (bB h d f::cU f e j::aN e p U::aP j d I::aI d K::cz w h (aX e2) du false false::aV e2 a3 ns V::bx ns::fr);rw[if_pos rfl];exact aJ
 · obtain rfl:=hx h0
   refine ar (gg w h f e j d p U I K eb a ns V++[]) Z Z ⟨rfl,p,U,I,K,eb,a,ns,V,O,rfl⟩ ?_;show Ent _ (bB h d f::cU f e j::aN e p U::aP j d I::aI d K::cz w h (aX eb) du false false::aV eb a ns V::bx ns::fr);rw[if_neg h0];exact aJ
theorem AE (hL:Live N S M J σ) (hN:N<=100000):dQ 42 [aX w,kH 5 n dl nv sv] (gg w h f e j d p S J σ eb a ns M) (Stepped w h f e j d N []):=by
 have hP:=hL.pair;have hF:=hP.fine am;obtain⟨x,V,hx,hH,hR⟩:=ED (h:=h) (f:=f) (e:=e) (j:=j) (d:=d) (p:=p) hL hN (t:=back M.KS n) (by unfold back;omega);refine bA Tryz.func42 Z λE fr hE=>f7<|sS<|sO (cR Z Z λT=>(aG T (cQ 5 n dl nv sv).toArray Z (sB Z (sS (sM Z (da Z (bn 1 Z (bF (au (v:=aX eb) Z) (ah Z) ?_))))))))
 refine bU Z (fC hF hP.nd) qF ?_;rintro v m ⟨e2,Y,rfl,rfl⟩;refine aD ?_;refine aq (l':=bB h d f::cU f e j::aN e p S::aP j d J::aI d σ::aV eb a ns M::aV e2 Y ns M::bx ns::cz w h (aX eb) du false false::blk T 102 (cQ 5 n dl nv sv).toArray::fr) (by show Ent (aV eb a ns M::aV e2 Y ns M::blk T 102 (cQ 5 n dl nv sv).toArray::bB h d f::cU f e j::aN e p S::aP j d J::aI d σ::cz w h (aX eb) du false false::bx ns::fr) _;exact aJ) ?_;refine sB Z<|sQ<|sS<|bn 0 Z<|bF (au (v:=aw 5) Z) (ah Z)<|sN<|ag<|sQ<|sS<|sP (aY Z Z Z)<|sB Z<|aj Z<|sG ?_
 refine sP (aY Z Z Z)<|sB Z<|aj Z<|sS<|sP (aY Z Z Z)<|sB Z<|aj Z<|sS<|sP (aY Z Z Z)<|sB Z<|aj Z<|sQ ?_
 refine sG<|sP (aY Z Z Z)<|sB Z<|aM Z<|sQ<|sZ Z<|dT Z Z<|dt 1 Z Z Z<|bQ Z (au (v:=aX eb) Z) (ah Z)<|dt 5 Z Z Z<|bQ Z (au (v:=aQ M.KS) Z) (cg Z)<|bC Z (bl 1 Z)<|bQ Z (au (v:=aQ n) Z) (ah Z) ?_
 refine dj 9 Z (cV (r:=((back M.KS n:Nat):Int)) Z Z (by rw[km];unfold back;omega)) ?_;refine dj 10 Z (aU Z)<|dE<|sT<|sQ<|sZ Z<|dT Z Z<|dt 0 Z Z Z<|bQ Z (au (v:=aX h) Z) (ah Z)<|cv Z Z<|bC Z (bl 5 Z)<|bQ Z (bO (vs:=cA (-1) (-1) 0 0) Z) (ko jq) ?_
 refine dA 7 Z<|ed Z hH aT ?_
 rintro v m ⟨rfl,U,I,K,O,rfl⟩;refine aq (l':=bB h d f::cU f e j::aN e p U::aP j d I::aI d K::aV eb a ns M::aV e2 Y ns M::bx ns::cz w h (aX eb) du false false::blk T 102 (cQ 5 n dl nv sv).toArray::fr) aT ?_;refine dK [false,false] ak<|dj 8 Z (aU Z)<|dE<|sT<|bq Z<|sM Z ?_
 refine bU Z (hR e2 Y ns) (bo nH nH) ?_;rintro v m ⟨rfl,a3,rfl⟩;refine aD<|sB Z<|bq Z<|sM Z<|sM Z<|sM Z ?_
 refine bW Z eW Di ?_;refine aa<|sB Z<|an<|aH<|aC ?_
 by_cases h0:x=0
 · subst h0
   refine ar (gg w h f e j d p U I K e2 a3 ns V++[]) Z Z ⟨rfl,p,U,I,K,e2,a3,ns,V,O,rfl⟩ ?_;show Ent _ (bB h d f::cU f e j::aN e p U::aP j d I::aI d K::cz w h (aX e2) du false false::aV e2 a3 ns V::bx ns::fr);rw[if_pos rfl];exact aJ
 · obtain rfl:=hx h0
   refine ar (gg w h f e j d p U I K eb a ns V++[]) Z Z ⟨rfl,p,U,I,K,eb,a,ns,V,O,rfl⟩ ?_;show Ent _ (bB h d f::cU f e j::aN e p U::aP j d I::aI d K::cz w h (aX eb) du false false::aV eb a ns V::bx ns::fr);rw[if_neg h0];exact aJ
theorem AD (hL:Live N S M J σ) (hN:N<=100000):dQ 42 [aX w,kH 6 n dl nv sv] (gg w h f e j d p S J σ eb a ns M) (Stepped w h f e j d N []):=by
 have hP:=hL.pair;have hF:=hP.fine am;obtain⟨x,V,hx,hH,hR⟩:=fail2 (h:=h) (f:=f) (e:=e) (j:=j) (d:=d) (p:=p) hL hN (t:=back M.KS n) (by unfold back;omega);refine bA Tryz.func42 Z λE fr hE=>f7<|sS<|sO (cR Z Z λT=>(aG T (cQ 6 n dl nv sv).toArray Z (sB Z (sS (sM Z (da Z (bn 1 Z (bF (au (v:=aX eb) Z) (ah Z) ?_))))))))
 refine bU Z (fC hF hP.nd) qF ?_;rintro v m ⟨e2,Y,rfl,rfl⟩;refine aD ?_;refine aq (l':=bB h d f::cU f e j::aN e p S::aP j d J::aI d σ::aV eb a ns M::aV e2 Y ns M::bx ns::cz w h (aX eb) du false false::blk T 102 (cQ 6 n dl nv sv).toArray::fr) (by show Ent (aV eb a ns M::aV e2 Y ns M::blk T 102 (cQ 6 n dl nv sv).toArray::bB h d f::cU f e j::aN e p S::aP j d J::aI d σ::cz w h (aX eb) du false false::bx ns::fr) _;exact aJ) ?_;refine sB Z<|sQ<|sS<|bn 0 Z<|bF (au (v:=aw 6) Z) (ah Z)<|sN<|ag<|sQ<|sS<|sP (aY Z Z Z)<|sB Z<|aj Z<|sG ?_
 refine sP (aY Z Z Z)<|sB Z<|aj Z<|sS<|sP (aY Z Z Z)<|sB Z<|aj Z<|sS<|sP (aY Z Z Z)<|sB Z<|aj Z<|sQ ?_
 refine sG<|sP (aY Z Z Z)<|sB Z<|aj Z<|sS<|sP (aY Z Z Z)<|sB Z<|aM Z<|sQ<|sZ Z<|dT Z Z<|dt 1 Z Z Z<|bQ Z (au (v:=aX eb) Z) (ah Z)<|bC Z (cI Z) ?_
 refine dj 5 Z (bl 5 Z)<|bQ Z (au (v:=aQ M.KS) Z) (cg Z)<|bC Z (bl 1 Z)<|bQ Z (au (v:=aQ n) Z) (ah Z) ?_
 refine dj 9 Z (cV (r:=((back M.KS n:Nat):Int)) Z Z (by rw[km];unfold back;omega)) ?_;refine dj 10 Z (aU Z)<|dE<|sT<|sQ<|sZ Z<|dT Z Z<|dt 0 Z Z Z<|bQ Z (au (v:=aX h) Z) (ah Z)<|cv Z Z<|bC Z (bl 5 Z)<|bQ Z (bO (vs:=cA (-1) (-1) 0 0) Z) (ko jq) ?_
 refine dA 7 Z<|ed Z hH aT ?_
 rintro v m ⟨rfl,U,I,K,O,rfl⟩;refine aq (l':=bB h d f::cU f e j::aN e p U::aP j d I::aI d K::aV eb a ns M::aV e2 Y ns M::bx ns::cz w h (aX eb) du false false::blk T 102 (cQ 6 n dl nv sv).toArray::fr) aT ?_;refine dK [false,false] ak<|dj 8 Z (aU Z)<|dE<|sT<|bq Z<|sM Z ?_
 refine bU Z (hR e2 Y ns) (bo nH nH) ?_;rintro v m ⟨rfl,a3,rfl⟩;refine aD<|sB Z<|bq Z<|sM Z<|sM Z<|sM Z ?_
 refine bW Z eW Di ?_;refine aa<|sB Z<|an<|aH<|aC ?_
 by_cases h0:x=0
 · subst h0
   refine ar (gg w h f e j d p U I K e2 a3 ns V++[]) Z Z ⟨rfl,p,U,I,K,e2,a3,ns,V,O,rfl⟩ ?_;show Ent _ (bB h d f::cU f e j::aN e p U::aP j d I::aI d K::cz w h (aX e2) du false false::aV e2 a3 ns V::bx ns::fr);rw[if_pos rfl];exact aJ
 · obtain rfl:=hx h0
   refine ar (gg w h f e j d p U I K eb a ns V++[]) Z Z ⟨rfl,p,U,I,K,eb,a,ns,V,O,rfl⟩ ?_;show Ent _ (bB h d f::cU f e j::aN e p U::aP j d I::aI d K::cz w h (aX eb) du false false::aV eb a ns V::bx ns::fr);rw[if_neg h0];exact aJ
theorem AC (hL:Live N S M J σ) (hN:N<=100000):dQ 42 [aX w,kH 7 n dl nv sv] (gg w h f e j d p S J σ eb a ns M) (Stepped w h f e j d N []):=by
 have hP:=hL.pair;have hF:=hP.fine am;obtain⟨x,V,hx,hH,hR⟩:=Je (h:=h) (f:=f) (e:=e) (j:=j) (d:=d) (p:=p) hL hN (t:=back M.KT n) (by unfold back;omega);refine bA Tryz.func42 Z λE fr hE=>f7<|sS<|sO (cR Z Z λT=>(aG T (cQ 7 n dl nv sv).toArray Z (sB Z (sS (sM Z (da Z (bn 1 Z (bF (au (v:=aX eb) Z) (ah Z) ?_))))))))
 refine bU Z (fC hF hP.nd) qF ?_;rintro v m ⟨e2,Y,rfl,rfl⟩;refine aD ?_;refine aq (l':=bB h d f::cU f e j::aN e p S::aP j d J::aI d σ::aV eb a ns M::aV e2 Y ns M::bx ns::cz w h (aX eb) du false false::blk T 102 (cQ 7 n dl nv sv).toArray::fr) (by show Ent (aV eb a ns M::aV e2 Y ns M::blk T 102 (cQ 7 n dl nv sv).toArray::bB h d f::cU f e j::aN e p S::aP j d J::aI d σ::cz w h (aX eb) du false false::bx ns::fr) _;exact aJ) ?_;refine sB Z<|sQ<|sS<|bn 0 Z<|bF (au (v:=aw 7) Z) (ah Z)<|sN<|ag<|sQ<|sS<|sP (aY Z Z Z)<|sB Z<|aj Z<|sG ?_
 refine sP (aY Z Z Z)<|sB Z<|aj Z<|sS<|sP (aY Z Z Z)<|sB Z<|aj Z<|sS<|sP (aY Z Z Z)<|sB Z<|aj Z<|sQ ?_
 refine sG<|sP (aY Z Z Z)<|sB Z<|aj Z<|sS<|sP (aY Z Z Z)<|sB Z<|aj Z<|sS<|sP (aY Z Z Z)<|sB Z<|aM Z ?_
 refine sQ<|sZ Z<|dT Z Z<|dt 1 Z Z Z<|bQ Z (au (v:=aX eb) Z) (ah Z)<|dt 4 Z Z Z<|bQ Z (au (v:=aQ M.KT) Z) (cg Z)<|bC Z (bl 1 Z)<|bQ Z (au (v:=aQ n) Z) (ah Z) ?_
 refine dj 9 Z (cV (r:=((back M.KT n:Nat):Int)) Z Z (by rw[km];unfold back;omega)) ?_;refine dj 10 Z (aU Z)<|dE<|sT<|sQ<|sZ Z<|dT Z Z<|dt 0 Z Z Z<|bQ Z (au (v:=aX h) Z) (ah Z)<|cv Z Z<|bC Z (bl 5 Z)<|bQ Z (bO (vs:=cA (-1) (-1) 0 0) Z) (ko jq) ?_
 refine dA 7 Z<|ed Z hH aT ?_
 rintro v m ⟨rfl,U,I,K,O,rfl⟩;refine aq (l':=bB h d f::cU f e j::aN e p U::aP j d I::aI d K::aV eb a ns M::aV e2 Y ns M::bx ns::cz w h (aX eb) du false false::blk T 102 (cQ 7 n dl nv sv).toArray::fr) aT ?_;refine dK [false,false] ak<|dj 8 Z (aU Z)<|dE<|sT<|bq Z<|sM Z ?_
 refine bU Z (hR e2 Y ns) (bo nH nH) ?_;rintro v m ⟨rfl,a3,rfl⟩;refine aD<|sB Z<|bq Z<|sM Z<|sM Z<|sM Z ?_
 refine bW Z eW Di ?_;refine aa<|sB Z<|an<|aH<|aC ?_
 by_cases h0:x=0
 · subst h0
   refine ar (gg w h f e j d p U I K e2 a3 ns V++[]) Z Z ⟨rfl,p,U,I,K,e2,a3,ns,V,O,rfl⟩ ?_;show Ent _ (bB h d f::cU f e j::aN e p U::aP j d I::aI d K::cz w h (aX e2) du false false::aV e2 a3 ns V::bx ns::fr);rw[if_pos rfl];exact aJ
 · obtain rfl:=hx h0
   refine ar (gg w h f e j d p U I K eb a ns V++[]) Z Z ⟨rfl,p,U,I,K,eb,a,ns,V,O,rfl⟩ ?_;show Ent _ (bB h d f::cU f e j::aN e p U::aP j d I::aI d K::cz w h (aX eb) du false false::aV eb a ns V::bx ns::fr);rw[if_neg h0];exact aJ
end
end Go.Y
