import Derived.Test.YtnikdflhefijbaaGreatBs17
import Derived.Test.YtnikdflhefijbaaGreatBs16
namespace Go.Proofs.YtnikdflhefijbaaGreat
open Go.RowKit
set_option maxRecDepth 100000
theorem iv.zero{e:Nat}{v:AV}{acc:Hp}{cs:List AV}(h:iv e 0 v acc cs):(v=.ag∧acc=[])∨∃b J,v=.af b 0 0 e∧acc=[(b,J)]:=by
 generalize hz:(0:Nat)=z at h;cases h with
 |nil=>exact .inl ⟨rfl,rfl⟩
 |af b k cs J h=>subst hz;exact .inr ⟨b,_,rfl,rfl⟩
def wm(W:List Int)(T:List Bool)(i:Int)(x:aO):Bool:=decide (W.getD x.2.1.toNat 0=i)&&decide (W.getD x.1.toNat 0≠i)&&!T.getD (W.getD x.1.toNat 0).toNat false
theorem aeA(bW bw bI bT bt n m:Nat)(W:List Int)(T:List Bool)(i:Int)(x:aO)(σ:Hp)(h1:0≤x.1∧x.1<n)(h2:0≤x.2.1∧x.2.1<n)(hW:W.length=n)(hT:T.length=m)(hr:0≤W.getD x.1.toNat 0∧W.getD x.1.toNat 0<m):
  ACalls Tryz.prog 317 (z7 x::[.ptr bW 0,.ptr bI 0,.ptr bT 0]) ((bI,[.int .i64 i])::(bT,[.af bt 0 m 1])::(bW,[.af bw 0 n 1])::(bw,aj W)::(bt,bG T)::σ) (ay (.bool (wm W T i x)) ((bI,[.int .i64 i])::(bT,[.af bt 0 m 1])::(bW,[.af bw 0 n 1])::(bw,aj W)::(bt,bG T)::σ)):=by
 obtain⟨x1,x2,xu⟩:=x;have h1:0≤x1∧x1<n:=h1;have h2:0≤x2∧x2<n:=h2;have hr:0≤W.getD x1.toNat 0∧W.getD x1.toNat 0<m:=hr;refine ao Tryz.func317 ?_;intro bx;refine .quiet (by kernel_rfl) ?_;refine aa 3 ?_;refine aa 0 ?_;refine aH ?_;refine aS 4 rfl (eZ rfl h2.1 (by omega)) ?_;refine aa 1 ?_;refine ai (fun c1=>?_) (fun c1=>?_)
 ·have c1:W.getD x2.toNat 0=i:=c1;refine aa 3 ?_;refine aa 0 ?_;refine aH ?_;refine aS 4 rfl (eZ rfl h1.1 (by omega)) ?_;refine aa 1 ?_;refine cO (fun c2=>?_) (fun c2=>?_)
  ·have c2:¬(W.getD x1.toNat 0=i):=by simpa using c2
   refine aa 2 ?_;refine aa 3 ?_;refine aa 0 ?_;refine aH ?_
   have hL:∀b,T.getD (W.getD x1.toNat 0).toNat false=b→wm W T i (x1,x2,xu) = !b:=fun b hb=>by
    unfold wm;rw[aX (show W.getD x2.toNat 0=i from c1),aX (show W.getD x1.toNat 0≠i from c2)];show (true&&true&&!T.getD (W.getD x1.toNat 0).toNat false)=_;rw[hb];rfl
   refine aS 4 rfl (eZ rfl h1.1 (by omega)) ?_;refine aH ?_;refine ec.jG 5 _ _ rfl (qF rfl hr.1 (by omega)) (fun c3=>?_) (fun c3=>?_)
   ·exact .drop 0 1 (.done ⟨bJ (hL true c3).symm,rfl⟩)
   ·exact .drop 0 1 (.done ⟨bJ (hL false c3).symm,rfl⟩)
  ·have c2:W.getD x1.toNat 0=i:=by simpa using c2
   refine .drop 0 1 (.done ⟨bJ ?_,rfl⟩);unfold wm;rw[cp (show ¬(W.getD x1.toNat 0≠i) from fun h=>h c2),DV];rfl
 ·have c1:¬(W.getD x2.toNat 0=i):=c1;refine .drop 0 1 (.done ⟨bJ ?_,rfl⟩);unfold wm;rw[cp (show ¬(W.getD x2.toNat 0=i) from c1)];rfl
theorem Ue(bW bw bl bT bt n m:Nat)(l:List aO)(W:List Int)(T:List Bool)(i:Int)(σ:Hp)(hl:l.length≤100000)(hi:0≤i∧i<m)(hr:∀e∈l,(0≤e.1∧e.1<(n:Int))∧0≤e.2.1∧e.2.1<(n:Int))(hW:W.length=n)(hT:T.length=m)(hw:∀k:Nat,k<n→0≤W.getD k 0∧W.getD k 0<m):
  ACalls Tryz.prog 316 [.int .i64 i,.ptr bT 0,.ptr bl 0,.ptr bW 0] ((bT,[.af bt 0 m 1])::(bW,[.af bw 0 n 1])::(bw,aj W)::(bt,bG T)::(bl,[.ae cg l])::σ) (ay (.bool (mR l W T i)) ((bT,[.af bt 0 m 1])::(bW,[.af bw 0 n 1])::(bw,aj W)::(bt,bG T)::(bl,[.ae cg l])::σ)):=by
 have hF:∀b,T.getD i.toNat false=b→mR l W T i=(!b&&!l.any (wm W T i)):=fun b hb=>by unfold mR;rw[hb];rfl
 refine ao Tryz.func316 ?_;intro bI;refine aa 1 ?_;refine aa 0 ?_;refine aH ?_;refine ec.jG 4 _ _ rfl (qF rfl hi.1 (by omega)) (fun c1=>?_) (fun c1=>?_)
 ·exact .drop 0 1 (.done ⟨bJ (hF true c1).symm,rfl⟩)
 ·refine aa 5 ?_
  have hg:∀(k:Nat) (hk:k<l.length),ACalls Tryz.prog 317 (z7 l[k]::[.ptr bW 0,.ptr bI 0,.ptr bT 0]) ((bI,[.int .i64 i])::(bT,[.af bt 0 m 1])::(bW,[.af bw 0 n 1])::(bw,aj W)::(bt,bG T)::(bl,[.ae cg l])::σ) (ay (.bool (wm W T i l[k])) ((bI,[.int .i64 i])::(bT,[.af bt 0 m 1])::(bW,[.af bw 0 n 1])::(bw,aj W)::(bt,bG T)::(bl,[.ae cg l])::σ)):=fun k hk=>by
   obtain⟨h1,h2⟩:=hr _ (bU hk);exact aeA bW bw bI bT bt n m W T i l[k] _ h1 h2 hW hT (hw _ (by omega))
  refine aw [] (Oo 317 _ l (wm W T i) _ (dE hl (by decide)) hg) ?_;exact .drop 0 1 (.done ⟨bJ (hF false c1).symm,rfl⟩)
theorem ua:∀n:Nat,cP [.int .i64 0] n=aj (List.replicate n 0)
 | 0=>rfl
 |n+1=>by
  show [AV.int .i64 0]++cP [.int .i64 0] n=_;rw[ua n];rfl
theorem Rt(n:Nat)(l:List aO)(P:List (List Int))(σ:Hp)(h:n0 n l P)(hl:l.length≤100000)(hn:n≤1000)(hr:∀e∈l,(0≤e.1∧e.1<(n:Int))∧0≤e.2.1∧e.2.1<(n:Int)):
  ACalls Tryz.prog 291 [.int .i64 n,.ae cg l,.ae (.slice (.int .i64)) P] σ (ay (.ae (.slice (.int .i64)) (gv n l)) σ):=by
 obtain⟨lu,hpf⟩:=Bv h.ok;have hNt:((n:Nat):Int).toNat=n:=bD n;refine ao Tryz.func291 ?_;intro bl;refine a8 ?_;intro bw;intro bW;refine ah 0 ?_;refine bc (S:=Nat) (fun k=>[(2,.ae (.slice (.int .i64)) P),(4,.ptr bl 0),(7,.ptr bW 0),(20,.ae (.slice (.int .i64)) P),(21,.int .i64 P.length),(22,.int .i64 k)]) (fun k=>(bW,[.af bw 0 n 1])::(bw,aj (mn P k (List.replicate n 0)))::(bl,[.ae cg l])::σ) (fun k=>k≤P.length) (fun k=>P.length-k) 0 ⟨aV _,⟨rfl,rfl,rfl,rfl,rfl,rfl,trivial⟩,by rw[show aj (mn P 0 (List.replicate n 0))=cP [.int .i64 0] n from (ua n).symm];rfl⟩ ?_;intro k g aK;have hk:k≤P.length:=aK;clear aK;refine ai (p:=(k:Int)<P.length) (fun ab=>?_) (fun ak=>?_)
 ·have ab:k<P.length:=by omega
  obtain⟨p,hp⟩:∃p,P[k]=p:=⟨_,rfl⟩
  have cY:P[k]?=some p:=(bu ab).trans (congrArg some hp);have re:=h.ok.node p (dz cY);have GR:p.length≤n:=Bx n p ((h.ok.Ar p (dz cY)).imp fun h=>by omega) re;have rz:=Bi P k (List.replicate n 0);rw[gh]at rz;have tC:mn P (k+1) (List.replicate n 0)=kP k p (mn P k (List.replicate n 0)):=by show kP k (P.getD k []) _=_;rw[uq cY]
  generalize mn P k (List.replicate n 0)=W at rz tC;refine aF.mk rfl (aY.mk p (by omega) (show P[((k:Nat):Int).toNat]?=some p by rw[bD];exact cY) ?_);refine bc (S:=Nat) (fun j=>[(2,.ae (.slice (.int .i64)) P),(4,.ptr bl 0),(7,.ptr bW 0),(8,.int .i64 k),(20,.ae (.slice (.int .i64)) P),(21,.int .i64 P.length),(22,.int .i64 k),(27,.ae (.int .i64) p),(28,.int .i64 p.length),(29,.int .i64 j)]) (fun j=>(bW,[.af bw 0 n 1])::(bw,aj (kP k (p.take j) W))::(bl,[.ae cg l])::σ) (fun j=>j≤p.length) (fun j=>p.length-j) 0 ⟨aV _,⟨rfl,rfl,rfl,rfl,rfl,rfl,rfl,rfl,rfl,rfl,trivial⟩,rfl⟩ ?_;intro j g2 gx;have hj:j≤p.length:=gx;clear gx;refine ai (p:=(j:Int)<p.length) (fun da=>?_) (fun jl=>?_)
  ·have da:j<p.length:=by omega
   obtain⟨a,ha⟩:∃a,p[j]=a:=⟨_,rfl⟩
   have su:=re a (ha▸bU da);have aq:(kP k (p.take j) W).set a.toNat k=kP k (p.take (j+1)) W:=by unfold kP;rw[eM da,ha,rE];rfl
   have qh:=EB k (p.take j) W;refine aF.mk rfl (aY.mk a (by omega) ((get_some da).trans (congrArg some ha)) ?_);refine aa 0 ?_;refine aH ?_;refine bM 1 rfl (lL rfl _ su.1 (by omega)) ?_;exact aM (j+1) (by show p.length-(j+1)<p.length-j;omega) da ⟨rfl,rfl,rfl,rfl,rfl,rfl,rfl,rfl,rfl,aI (by omega),trivial⟩ (aL (by rw[← aq];rfl))
  ·have jl:j=p.length:=by omega
   subst jl;exact aM (k+1) (by show P.length-(k+1)<P.length-k;omega) ab ⟨rfl,rfl,rfl,rfl,rfl,aI (by omega),trivial⟩ (aL (by rw[er,tC]))
 ·have ak:k=P.length:=by omega
  subst ak
  have MA:∀j:Nat,j<n→0≤(bE n P).getD j 0∧(bE n P).getD j 0<(P.length:Int):=fun j hj=>by
   obtain⟨i,p,hi,_,hw⟩:=h.idx (x:=(j:Int)) (by omega);rw[bD]at hw;have:=xO hi;rw[hw];omega
  have rz:=Ov n P;have CQ:=fun k hk=>(Ft h hr k hk)
  have nS:=Kj h hr
  have bf:∀(i:Nat) (p:List Int),P[i]?=some p→p[((0:Int)).toNat]?=some (ig P i):=fun i p hi=>by
   unfold ig;rw[uq hi];exact J0 (l9.2 (h.ok.ne p (dz hi)))
  rw[show mn P P.length (List.replicate n 0)=bE n P from rfl];refine aF.mk ⟨by omega,by omega,by show ((P.length:Nat):Int)≤1048576;omega,by decide⟩ ?_;intro bt;intro bT;refine ah 0 ?_;obtain⟨m,hm⟩:∃m,P.length=m:=⟨_,rfl⟩
  refine .wrap 14 _ rfl rfl ?_;refine .dT (.pull [0,2,3,3] (.refl _)) ?_;refine bc (S:=Nat×AV×Hp) (fun x=>[(2,.ae (.slice (.int .i64)) P),(12,.ptr bT 0),(13,.fn (.func 316) [] [.ptr bT 0,.ptr bl 0,.ptr bW 0]),(14,.via x.2.1),(44,.int .i64 P.length),(45,.int .i64 x.1)]) (fun x=>(bT,[.af bt 0 P.length 1])::(bW,[.af bw 0 n 1])::(bw,aj (bE n P))::(bt,bG (dO P l (bE n P) x.1).1)::(bl,[.ae cg l])::(x.2.2++σ)) (fun x=>x.1≤P.length∧Acc 1 x.1 x.2.1 x.2.2 (cD (dO P l (bE n P) x.1).2)) (fun x=>P.length-x.1) (0,.ag,[]) ⟨⟨aV _,.nil⟩,⟨rfl,rfl,rfl,rfl,rfl,rfl,trivial⟩,by rw[show bG (dO P l (bE n P) 0).1=cP [.bool false] P.length from (zu P.length).symm];rfl⟩ ?_;rintro⟨k,v,acc⟩ g2 ⟨aK,fX⟩;have hk:k≤P.length:=aK;have bF:Acc 1 k v acc (cD (dO P l (bE n P) k).2):=fX;clear aK fX;refine ai (p:=(k:Int)<P.length) (fun ab=>?_) (fun ak=>?_)
  ·have ab:k<P.length:=by omega
   obtain⟨hO,Cp,_⟩:=CQ k hk;obtain⟨b,hb,rq⟩:=Cp ab;have DE:=hO.tl
   have fj:(dO P l (bE n P) (k+1)).1=(dO P l (bE n P) k).1.set b true:=by
    show (dO P l (bE n P) k).1.set (fo P l (bE n P) (dO P l (bE n P) k).1 P.length).toNat true=_;rw[hb,bD]
   have dw:(dO P l (bE n P) (k+1)).2=(dO P l (bE n P) k).2++[P.getD b []]:=by
    show (dO P l (bE n P) k).2++[P.getD (fo P l (bE n P) (dO P l (bE n P) k).1 P.length).toNat []]=_;rw[hb,bD]
   generalize (dO P l (bE n P) k).1=T at hb DE fj;generalize (dO P l (bE n P) k).2=out at bF dw;clear hO Cp;have uN:=EK P l (bE n P) T;refine bc (S:=Nat) (fun i=>[(2,.ae (.slice (.int .i64)) P),(12,.ptr bT 0),(13,.fn (.func 316) [] [.ptr bT 0,.ptr bl 0,.ptr bW 0]),(14,.via v),(15,.int .i64 (fo P l (bE n P) T i)),(44,.int .i64 P.length),(45,.int .i64 k),(47,.ae (.slice (.int .i64)) P),(48,.int .i64 P.length),(49,.int .i64 i)]) (fun _=>(bT,[.af bt 0 P.length 1])::(bW,[.af bw 0 n 1])::(bw,aj (bE n P))::(bt,bG T)::(bl,[.ae cg l])::(acc++σ)) (fun i=>i≤P.length) (fun i=>P.length-i) 0 ⟨aV _,⟨rfl,rfl,rfl,rfl,rfl,rfl,rfl,rfl,rfl,rfl,trivial⟩,rfl⟩ ?_;intro i g3 dK;have hi:i≤P.length:=dK;clear dK;refine ai (p:=(i:Int)<P.length) (fun da=>?_) (fun jl=>?_)
   ·have da:i<P.length:=by omega
    obtain⟨p,hp⟩:∃p,P[i]=p:=⟨_,rfl⟩
    have cY:P[i]?=some p:=(bu da).trans (congrArg some hp);have vD:=fun ρ=>Ue bW bw bl bT bt n P.length l (bE n P) T i ρ hl (by omega) hr rz DE MA;have gZ:fo P l (bE n P) T (i+1)=if mR l (bE n P) T i=true∧(fo P l (bE n P) T i<0∨ig P i<ig P (fo P l (bE n P) T i).toNat) then (i:Int) else fo P l (bE n P) T i:=rfl
    have DD:=uN i;refine aF.mk rfl (aY.mk p (by omega) (show P[((i:Nat):Int).toNat]?=some p by rw[bD];exact cY) ?_);cases hf:mR l (bE n P) T i with
    |false=>
     rw[hf]at vD gZ;rw[aB (fun h=>by cases h.1)]at gZ;refine .quiet (by kernel_rfl) ?_;refine aN [] (vD _) ?_;exact aM (i+1) (by show P.length-(i+1)<P.length-i;omega) da ⟨rfl,rfl,rfl,rfl,by rw[gZ];rfl,rfl,rfl,rfl,rfl,aI (by omega),trivial⟩ (.refl _)
    |true=>
     rw[hf]at vD gZ;refine .quiet (by kernel_rfl) ?_;refine aN [] (vD _) ?_;refine ai (p:=fo P l (bE n P) T i<0) (fun c1=>?_) (fun c1=>?_)
     ·rw[az ⟨rfl,.inl c1⟩]at gZ;exact aM (i+1) (by show P.length-(i+1)<P.length-i;omega) da ⟨rfl,rfl,rfl,rfl,by rw[gZ];rfl,rfl,rfl,rfl,rfl,aI (by omega),trivial⟩ (.refl _)
     ·obtain⟨b2,e2,l2,_⟩:=DD.resolve_left fun h=>c1 (by rw[h.1];decide);obtain⟨p2,dJ⟩:∃p,P[b2]?=some p:=⟨P[b2],bu (by omega)⟩
      have Uu:P[(fo P l (bE n P) T i).toNat]?=some p2:=by rw[e2,bD];exact dJ
      have ry:0≤fo P l (bE n P) T i:=by omega
      rw[e2,bD,← e2]at gZ;refine aF.mk rfl ?_;refine aY.mk (ig P i) (by decide) (bf i p cY) ?_;refine aF.mk rfl ?_;refine aY.mk p2 ry Uu ?_;refine aF.mk rfl ?_;refine aY.mk (ig P b2) (by decide) (bf b2 p2 dJ) ?_;refine ai (p:=ig P i<ig P b2) (fun c2=>?_) (fun c2=>?_)
      ·rw[az ⟨rfl,.inr c2⟩]at gZ;exact aM (i+1) (by show P.length-(i+1)<P.length-i;omega) da ⟨rfl,rfl,rfl,rfl,by rw[gZ];rfl,rfl,rfl,rfl,rfl,aI (by omega),trivial⟩ (.refl _)
      ·rw[aB (fun h=>h.2.elim c1 c2)]at gZ;exact aM (i+1) (by show P.length-(i+1)<P.length-i;omega) da ⟨rfl,rfl,rfl,rfl,by rw[gZ];rfl,rfl,rfl,rfl,rfl,aI (by omega),trivial⟩ (.refl _)
   ·have jl:i=P.length:=by omega
    subst jl;refine aa 0 ?_;refine aH ?_;refine bM 3 rfl (tZ rfl true (by omega) (by omega)) ?_;refine aF.mk rfl ?_;obtain⟨pb,qm⟩:∃p,P[b]?=some p:=⟨P[b],bu rq⟩
    have agi:P[(fo P l (bE n P) T P.length).toNat]?=some pb:=by rw[hb,bD];exact qm
    rw[uq qm]at dw;refine aY.mk pb (by omega) agi ?_;intro bs;refine eS [_,_,_,_,_,_] bF (.af 0 bs 0 1 _ rfl (cj rfl)) rfl (by omega) (by decide) (by decide) (fun v' aJ h'=>?_);refine aM (k+1,v',aJ) (by show P.length-(k+1)<P.length-k;omega) ⟨ab,?_⟩ ⟨rfl,rfl,rfl,rfl,rfl,aI (by omega),trivial⟩ (.drop 0 1 (aL (by rw[fj,hb,bD];rfl)));show Acc 1 (k+1) v' aJ (cD (dO P l (bE n P) (k+1)).2);rw[dw,show cD (out++[pb])=cD out++[.ae (.int .i64) pb] from cE];exact h'
  ·have ak:k=P.length:=by omega
   subst ak;rw[nS]at bF;have jn:=(CQ P.length (bg _)).1.ol;rw[nS]at jn;exact lH (s:=.slice (.int .i64)) [_,_,_,_,_] bF jn.symm (ub _) (by decide) (.drop 0 5 (.done ⟨rfl,rfl⟩))
theorem acO(n:Nat)(l:List aO)(σ:Hp)(hl:l.length≤100000)(ek:eA n l=true):ACalls Tryz.prog 258 [.int .i64 n,.ae cg l] σ (fun r σ'=>r=.tup [.ae (.slice (.int .i64)) (gv n l),.int .i64 0]∧σ'=σ∧∃P,n0 n l P):=by
 have hn:1≤n∧n≤256:=by
  unfold eA at ek;simp only[bS,decide_eq_true_eq]at ek;omega
 have AM:∀e∈l,(0≤e.1∧e.1<(n:Int))∧0≤e.2.1∧e.2.1<(n:Int):=fun e he=>by
  unfold eA at ek;simp only[bS,fq]at ek;have:=ek.2 e he;exact⟨kA.1 this.1,kA.1 this.2⟩
 refine ao Tryz.func258 ?_;refine dc [] (Cd n l _ (by omega)) (fun _=>?_) (fun c=>absurd c (by rw[ek];decide));refine gn.Gm (S:=Nat×Nat×Nat×Nat) [] (kl [0,2,4] (.alt 1 (.alt 3 (.alt 5 (ca [6,7,8]) (ca [7,5,6,8])) (.alt 5 (.alt 3 (ca [6,7,8]) (ca [7,3,6,8])) (.one 7 false (.alt 3 (ca [5,6,8]) (ca [5,3,6,8]))))) (.alt 3 (.alt 1 (.alt 5 (ca [6,7,8]) (ca [7,5,6,8])) (.alt 5 (.alt 1 (ca [6,7,8]) (ca [7,1,6,8])) (.one 7 false (.alt 1 (ca [5,6,8]) (ca [5,1,6,8]))))) (.alt 5 (.alt 1 (.alt 3 (ca [6,7,8]) (ca [7,3,6,8])) (.alt 3 (.alt 1 (ca [6,7,8]) (ca [7,1,6,8])) (.one 7 false (.alt 1 (ca [3,6,8]) (ca [3,1,6,8]))))) (.one 7 false (.alt 1 (.alt 3 (ca [5,6,8]) (ca [5,3,6,8])) (.alt 3 (.alt 1 (ca [5,6,8]) (ca [5,1,6,8])) (.one 5 false (.alt 1 (ca [3,6,8]) (ca [3,1,6,8])))))))))) (fun x=>[(0,.int .i64 n),(1,.ae cg l),(6,.ptr x.1 0)]) (fun x=>(x.1,[.ag,.af x.2.1 0 n 1,.af x.2.2.1 0 n 1,.af x.2.2.2 0 n 1,.ag,.int .i64 0,.ag])::(x.2.1,cP [.int .i64 0] n)::(x.2.2.1,cP [.int .i64 0] n)::(x.2.2.2,cP [.bool false] n)::σ) (by kernel_rfl) ?_ ?_
 ·refine And.intro ?_ ?_
  ·refine a8 ?_;intro bi;refine And.intro ?_ ?_
   ·refine a8 ?_;intro bl;refine And.intro ?_ ?_
    ·refine a8 ?_;intro bo;intro w;refine ah 0 ?_;exact cX.mk (w,bi,bl,bo) ⟨rfl,rfl,rfl,trivial⟩ (.pull [3,3,2,1] (aL rfl))
    ·intro w;refine a8 ?_;intro bo;refine ah 1 ?_;exact cX.mk (w,bi,bl,bo) ⟨rfl,rfl,rfl,trivial⟩ (.pull [3,3,2,0] (aL rfl))
   ·refine And.intro ?_ ?_
    ·refine a8 ?_;intro bo;refine And.intro ?_ ?_
     ·refine a8 ?_;intro bl;intro w;refine ah 0 ?_;exact cX.mk (w,bi,bl,bo) ⟨rfl,rfl,rfl,trivial⟩ (.pull [3,3,2,2] (aL rfl))
     ·intro w;refine a8 ?_;intro bl;refine ah 1 ?_;exact cX.mk (w,bi,bl,bo) ⟨rfl,rfl,rfl,trivial⟩ (.pull [3,3,1,2] (aL rfl))
    ·intro w;refine And.intro ?_ ?_
     ·refine a8 ?_;intro bl;refine a8 ?_;intro bo;refine ah 2 ?_;exact cX.mk (w,bi,bl,bo) ⟨rfl,rfl,rfl,trivial⟩ (.pull [3,3,1,0] (aL rfl))
     ·refine a8 ?_;intro bo;refine a8 ?_;intro bl;refine ah 2 ?_;exact cX.mk (w,bi,bl,bo) ⟨rfl,rfl,rfl,trivial⟩ (.pull [3,3,1,1] (aL rfl))
  ·refine And.intro ?_ ?_
   ·refine a8 ?_;intro bl;refine And.intro ?_ ?_
    ·refine a8 ?_;intro bi;refine And.intro ?_ ?_
     ·refine a8 ?_;intro bo;intro w;refine ah 0 ?_;exact cX.mk (w,bi,bl,bo) ⟨rfl,rfl,rfl,trivial⟩ (.pull [3,3,3,1] (aL rfl))
     ·intro w;refine a8 ?_;intro bo;refine ah 1 ?_;exact cX.mk (w,bi,bl,bo) ⟨rfl,rfl,rfl,trivial⟩ (.pull [3,3,3,0] (aL rfl))
    ·refine And.intro ?_ ?_
     ·refine a8 ?_;intro bo;refine And.intro ?_ ?_
      ·refine a8 ?_;intro bi;intro w;refine ah 0 ?_;exact cX.mk (w,bi,bl,bo) ⟨rfl,rfl,rfl,trivial⟩ (.pull [3,3,3,2] (aL rfl))
      ·intro w;refine a8 ?_;intro bi;refine ah 1 ?_;exact cX.mk (w,bi,bl,bo) ⟨rfl,rfl,rfl,trivial⟩ (.pull [3,2,3,2] (aL rfl))
     ·intro w;refine And.intro ?_ ?_
      ·refine a8 ?_;intro bi;refine a8 ?_;intro bo;refine ah 2 ?_;exact cX.mk (w,bi,bl,bo) ⟨rfl,rfl,rfl,trivial⟩ (.pull [3,2,3,0] (aL rfl))
      ·refine a8 ?_;intro bo;refine a8 ?_;intro bi;refine ah 2 ?_;exact cX.mk (w,bi,bl,bo) ⟨rfl,rfl,rfl,trivial⟩ (.pull [3,2,3,1] (aL rfl))
   ·refine And.intro ?_ ?_
    ·refine a8 ?_;intro bo;refine And.intro ?_ ?_
     ·refine a8 ?_;intro bi;refine And.intro ?_ ?_
      ·refine a8 ?_;intro bl;intro w;refine ah 0 ?_;exact cX.mk (w,bi,bl,bo) ⟨rfl,rfl,rfl,trivial⟩ (.pull [3,3,2,3] (aL rfl))
      ·intro w;refine a8 ?_;intro bl;refine ah 1 ?_;exact cX.mk (w,bi,bl,bo) ⟨rfl,rfl,rfl,trivial⟩ (.pull [3,3,1,3] (aL rfl))
     ·refine And.intro ?_ ?_
      ·refine a8 ?_;intro bl;refine And.intro ?_ ?_
       ·refine a8 ?_;intro bi;intro w;refine ah 0 ?_;exact cX.mk (w,bi,bl,bo) ⟨rfl,rfl,rfl,trivial⟩ (.pull [3,3,3,3] (aL rfl))
       ·intro w;refine a8 ?_;intro bi;refine ah 1 ?_;exact cX.mk (w,bi,bl,bo) ⟨rfl,rfl,rfl,trivial⟩ (.pull [3,2,3,3] (aL rfl))
      ·intro w;refine And.intro ?_ ?_
       ·refine a8 ?_;intro bi;refine a8 ?_;intro bl;refine ah 2 ?_;exact cX.mk (w,bi,bl,bo) ⟨rfl,rfl,rfl,trivial⟩ (.pull [3,2,1,3] (aL rfl))
       ·refine a8 ?_;intro bl;refine a8 ?_;intro bi;refine ah 2 ?_;exact cX.mk (w,bi,bl,bo) ⟨rfl,rfl,rfl,trivial⟩ (.pull [3,2,2,3] (aL rfl))
    ·intro w;refine And.intro ?_ ?_
     ·refine a8 ?_;intro bi;refine And.intro ?_ ?_
      ·refine a8 ?_;intro bl;refine a8 ?_;intro bo;refine ah 3 ?_;exact cX.mk (w,bi,bl,bo) ⟨rfl,rfl,rfl,trivial⟩ (.pull [3,2,1,0] (aL rfl))
      ·refine a8 ?_;intro bo;refine a8 ?_;intro bl;refine ah 3 ?_;exact cX.mk (w,bi,bl,bo) ⟨rfl,rfl,rfl,trivial⟩ (.pull [3,2,1,1] (aL rfl))
     ·refine And.intro ?_ ?_
      ·refine a8 ?_;intro bl;refine And.intro ?_ ?_
       ·refine a8 ?_;intro bi;refine a8 ?_;intro bo;refine ah 3 ?_;exact cX.mk (w,bi,bl,bo) ⟨rfl,rfl,rfl,trivial⟩ (.pull [3,2,2,0] (aL rfl))
       ·refine a8 ?_;intro bo;refine a8 ?_;intro bi;refine ah 3 ?_;exact cX.mk (w,bi,bl,bo) ⟨rfl,rfl,rfl,trivial⟩ (.pull [3,2,2,1] (aL rfl))
      ·refine a8 ?_;intro bo;refine And.intro ?_ ?_
       ·refine a8 ?_;intro bi;refine a8 ?_;intro bl;refine ah 3 ?_;exact cX.mk (w,bi,bl,bo) ⟨rfl,rfl,rfl,trivial⟩ (.pull [3,2,1,2] (aL rfl))
       ·refine a8 ?_;intro bl;refine a8 ?_;intro bi;refine ah 3 ?_;exact cX.mk (w,bi,bl,bo) ⟨rfl,rfl,rfl,trivial⟩ (.pull [3,2,2,2] (aL rfl))
 rintro⟨w,bi,bl,bo⟩ g;have cz:∀(a:Nat) (σ:Hp),ACalls Tryz.prog 289 [.int .i64 n,.ae cg l,.int .i64 a] σ (ay (.ae (.int .i64) (au n l a)) σ):=fun a σ=>Ab n l a σ hl;have yH:∀k,cD ((List.range (k+1)).map fun a:Nat=>au n l a)=cD ((List.range k).map fun a:Nat=>au n l a)++[.ae (.int .i64) (au n l k)]:=fun k=>by rw[pz,cE];exact cE
 have cQ:∀k,(cD ((List.range k).map fun a:Nat=>au n l a)).length=k:=fun k=>by rw[tX,cN,og]
 refine bc (S:=Nat×AV×Hp) (fun x=>[(0,.int .i64 n),(1,.ae cg l),(6,.ptr w 0),(20,.int .i64 n),(21,.int .i64 x.1)]) (fun x=>(w,[x.2.1,.af bi 0 n 1,.af bl 0 n 1,.af bo 0 n 1,.ag,.int .i64 0,.ag])::(bi,cP [.int .i64 0] n)::(bl,cP [.int .i64 0] n)::(bo,cP [.bool false] n)::(x.2.2++σ)) (fun x=>x.1≤n∧(x.1<n→Acc 1 x.1 x.2.1 x.2.2 (cD ((List.range x.1).map fun a:Nat=>au n l a)))∧(x.1=n→x.2.1=.ae (.slice (.int .i64)) (ck n l)∧x.2.2=[])) (fun x=>n-x.1) (0,.ag,[]) ⟨⟨aV _,fun _=>.nil,fun h=>by have h:0=n:=h;omega⟩,⟨rfl,rfl,rfl,rfl,rfl,trivial⟩,rfl⟩ ?_;rintro⟨k,v,acc⟩ g ⟨aK,fX,Co⟩;have hk:k≤n:=aK;have bF:k<n→Acc 1 k v acc (cD ((List.range k).map fun a:Nat=>au n l a)):=fX;have na:k=n→v=.ae (.slice (.int .i64)) (ck n l)∧acc=[]:=Co;clear aK fX Co;refine ai (p:=(k:Int)<n) (fun ab=>?_) (fun ak=>?_)
 ·have ab:k<n:=by omega
  have bF:=bF ab;clear na;have kR:(ck n l).length=n:=by unfold ck;rw[cN,og]
  have AI:∀k,k+1=n→((cD ((List.range k).map fun a:Nat=>au n l a)++[AV.ae (.int .i64) (au n l k)]).drop 0).take ((k+1)*1)=(ck n l).flatMap (Sh.cells (.slice (.int .i64))):=fun k hk=>by
   rw[← yH,fy,dZ (by rw[cQ,dH];exact bg _),hk];exact ub _
  refine .sched [5] (kl [0,2,3,4] (.one 5 true (.alt 1 (ca [6,7,8,9]) (ca [6,1,7,8,9])))) (by kernel_rfl) ?_;refine aN [] (Ab n l _ _ hl) ?_;refine And.intro ?_ ?_
  ·refine aa 0 ?_;intro ax;refine zd [_,_,_,_,_] bF.wX (.af 0 ax 0 1 _ rfl (cj rfl)) rfl (by omega) (by decide) (by decide) (fun v' aJ h'=>?_);obtain⟨b5,rfl,rfl⟩:=sS (by omega) h';refine ah 1 ?_
   by_cases gF:k+1=n
   ·refine .jZ 5 b5 0 (k+1) 1 _ (.slice (.int .i64)) (ck n l) rfl (AI k gF) ⟨(kR.trans gF.symm),rfl,by decide⟩ 1 0 w _ rfl rfl ?_;exact aM (k+1,.ae (.slice (.int .i64)) (ck n l),[]) (by show n-(k+1)<n-k;omega) ⟨ab,fun h=>absurd gF (by have h:k+1<n:=h;omega),fun _=>⟨rfl,rfl⟩⟩ ⟨rfl,rfl,rfl,rfl,aI (by omega),trivial⟩ (.drop 0 1 (aL rfl))
   ·exact aM (k+1,.af b5 0 (k+1) 1,[(b5,cD ((List.range k).map fun a:Nat=>au n l a)++[.ae (.int .i64) (au n l k)])]) (by show n-(k+1)<n-k;omega) ⟨ab,fun _=>by show Acc 1 (k+1) _ _ (cD ((List.range (k+1)).map fun a:Nat=>au n l a));rw[yH];exact h',fun h=>absurd h gF⟩ ⟨rfl,rfl,rfl,rfl,aI (by omega),trivial⟩ (.drop 0 1 (aL rfl))
  ·intro bX;refine aa 1 ?_;refine zd [_,_,_,_,_] bF.wX (.af 0 bX 0 1 _ rfl (cj rfl)) rfl (by omega) (by decide) (by decide) (fun v' aJ h'=>?_);obtain⟨b5,rfl,rfl⟩:=sS (by omega) h';refine ah 1 ?_
   by_cases gF:k+1=n
   ·refine .jZ 5 b5 0 (k+1) 1 _ (.slice (.int .i64)) (ck n l) rfl (AI k gF) ⟨(kR.trans gF.symm),rfl,by decide⟩ 1 0 w _ rfl rfl ?_;exact aM (k+1,.ae (.slice (.int .i64)) (ck n l),[]) (by show n-(k+1)<n-k;omega) ⟨ab,fun h=>absurd gF (by have h:k+1<n:=h;omega),fun _=>⟨rfl,rfl⟩⟩ ⟨rfl,rfl,rfl,rfl,aI (by omega),trivial⟩ (.drop 0 1 (aL rfl))
   ·exact aM (k+1,.af b5 0 (k+1) 1,[(b5,cD ((List.range k).map fun a:Nat=>au n l a)++[.ae (.int .i64) (au n l k)])]) (by show n-(k+1)<n-k;omega) ⟨ab,fun _=>by show Acc 1 (k+1) _ _ (cD ((List.range (k+1)).map fun a:Nat=>au n l a));rw[yH];exact h',fun h=>absurd h gF⟩ ⟨rfl,rfl,rfl,rfl,aI (by omega),trivial⟩ (.drop 0 1 (aL rfl))
 ·have ak:k=n:=by omega
  obtain⟨rfl,rfl⟩:=na ak;clear bF na;refine bc (S:=Nat×(List Int×List Int×List Bool×Nat×List (List Int))×(AV×Hp×AV×Hp)) (fun x=>[(0,.int .i64 n),(1,.ae cg l),(6,.ptr w 0),(34,.int .i64 n),(35,.int .i64 x.1)]) (fun x=>(w,dA (ck n l) bi bl bo n x.2.2.1 x.2.1.2.2.2.1 x.2.2.2.2.1)::(bi,aj x.2.1.1)::(bl,aj x.2.1.2.1)::(bo,bG x.2.1.2.2.1)::(x.2.2.2.1++(x.2.2.2.2.2++σ))) (fun x=>x.1≤n∧FI n (au n l) x.2.1.1 x.2.1.2.1 x.2.1.2.2.1 [] x.2.1.2.2.2.1 x.2.1.2.2.2.2 []∧iv 1 0 x.2.2.1 x.2.2.2.1 []∧Acc 1 x.2.1.2.2.2.2.length x.2.2.2.2.1 x.2.2.2.2.2 (cD x.2.1.2.2.2.2)∧∀b:Nat,b<x.1→x.2.1.1.getD b 0≠0) (fun x=>n-x.1) (0,(List.replicate n 0,List.replicate n 0,List.replicate n false,0,[]),(.ag,[],.ag,[])) ⟨⟨aV _,.start n (au n l),.nil,.nil,fun _ h=>absurd h (vH _)⟩,⟨rfl,rfl,rfl,rfl,rfl,trivial⟩,by rw[ua,zu];rfl⟩ ?_;clear ak;rintro⟨k,⟨ix,lo,on,aR,P⟩,⟨vs,lh,vp,eJ⟩⟩ g2 ⟨aK,pj,oc,pc,oa⟩;have hk:k≤n:=aK;have hF:FI n (au n l) ix lo on [] aR P []:=pj;have hs:iv 1 0 vs lh []:=oc;have hp:Acc 1 P.length vp eJ (cD P):=pc;have hv:∀b:Nat,b<k→ix.getD b 0≠0:=oa;clear aK pj oc pc oa;have Du:((k:Nat):Int).toNat=k:=bD k;refine ai (p:=(k:Int)<n) (fun ab=>?_) (fun ak=>?_)
  ·have ab:k<n:=by omega
   refine aa 0 ?_;refine aH ?_;refine aS 1 rfl (eZ rfl (by omega) (by rw[hF.li];omega)) ?_;refine ai (p:=ix.getD ((k:Nat):Int).toNat 0=0) (fun c1=>?_) (fun c1=>?_)
   ·refine .mk [] _ (afG n w bi bl bo l ix lo on aR P vs vp lh eJ k σ (by omega) hF (by omega) c1 hs hp) ?_;rintro _ _ ⟨rfl,LR,LQ,LO,Lw,P2,G9,KX,LH,KZ,MN,dw,dJ,nq,rf,rfl⟩;rw[Du]at nq;refine aM (k+1,(LR,LQ,LO,Lw,P2),(G9,KX,LH,KZ)) (by show n-(k+1)<n-k;omega) ⟨ab,MN,dw,dJ,fun b hb=>?_⟩ ⟨rfl,rfl,rfl,rfl,aI (by omega),trivial⟩ (.refl _);have hb:b<k+1:=hb
    by_cases e:b=k
    ·subst e;exact nq
    ·exact rf b (hv b (by omega))
   ·rw[Du]at c1;refine aM (k+1,(ix,lo,on,aR,P),(vs,lh,vp,eJ)) (by show n-(k+1)<n-k;omega) ⟨ab,hF,hs,hp,fun b hb=>?_⟩ ⟨rfl,rfl,rfl,rfl,aI (by omega),trivial⟩ (.refl _);have hb:b<k+1:=hb
    by_cases e:b=k
    ·subst e;exact c1
    ·exact hv b (by omega)
  ·have ak:k=n:=by omega
   subst ak
   have bh:n0 k l P:=⟨hF.tj.prt,fun x h0 h1=>by
    have h2:=hv x.toNat (by omega);have h3:=(hF.tj.wV x h0 h1).1 (by rw[lP h0];exact h2)
    exact h3.resolve_left (by simp)⟩
   have DJ:=Bv hF.tj.prt;refine aa 0 ?_;obtain⟨x,hx,_⟩:=bh.all 0 (by omega) (by omega);have tH:=Ba hx;obtain⟨b5,rfl,rfl⟩:=sS tH hp
   rcases hs.zero with ⟨rfl,rfl⟩ | ⟨bs,J,rfl,rfl⟩
   ·skip
    refine .cb (args':=[.int .i64 k,.ae cg l,.ae (.slice (.int .i64)) P]) 4 b5 0 P.length 1 _ (.slice (.int .i64)) P rfl (by rw[fy,dZ (by rw[tX,dH];exact bg _)];exact ub _) ⟨rfl,rfl,by decide⟩ (bZ (.refl _) (bZ (.refl _) (bZ .here (.refl _)))) ?_;refine aw [] (Rt k l P _ bh hl (by omega) AM) ?_;exact .drop 0 4 (.done ⟨rfl,rfl,P,bh⟩)
   ·skip
    refine .cb (args':=[.int .i64 k,.ae cg l,.ae (.slice (.int .i64)) P]) 5 b5 0 P.length 1 _ (.slice (.int .i64)) P rfl (by rw[fy,dZ (by rw[tX,dH];exact bg _)];exact ub _) ⟨rfl,rfl,by decide⟩ (bZ (.refl _) (bZ (.refl _) (bZ .here (.refl _)))) ?_;refine aw [] (Rt k l P _ bh hl (by omega) AM) ?_;exact .drop 0 5 (.done ⟨rfl,rfl,P,bh⟩)
set_option maxHeartbeats 4000000
def fh(rw:List (Nat×List Int)):List AV:=rw.map fun r=>.af r.1 0 r.2.length 1
def eL(rw:List (Nat×List Int)):Hp:=rw.map fun r=>(r.1,aj r.2)
theorem WC(rw:List (Nat×List Int)):(fh rw).length=rw.length:=cN _
def PO(P:List (List Int))(v:AV)(acc:Hp):Prop:=∃(ac:Hp) (rw:List (Nat×List Int)),acc=ac++eL rw∧Acc 1 rw.length v ac (fh rw)∧rw.map Prod.snd=P
theorem Sq(w bi bl bo n:Nat)(N:List (List Int))(ix lo A B:List Int)(on:List Bool)(P:List (List Int))(aR:Nat)(vs vp:AV)(lh eJ:Hp)(a:Int)(σ:Hp)(h0:0≤a)(hn:a<n)(hi:ix.length=n)(hl:lo.length=n)(ho:on.length=n)(he:lo.getD a.toNat 0=ix.getD a.toNat 0)(Mz:a ∉ A)(hB:∀x∈a::B,0≤x∧x<n)(bP:(A++a::B).length≤10000)(lu:P.length≤10000)
  (hs:iv 1 (A++a::B).length vs lh (aj (A++a::B))) (hp:PO P vp eJ) :
  ACalls Tryz.prog 315 [.ptr w 0,.int .i64 a] ((w,dA N bi bl bo n vs aR vp)::(bi,aj ix)::(bl,aj lo)::(bo,bG on)::(lh++(eJ++σ)))
   (fun r σ'=>r=.tup []∧∃eG iR gu gm,iv 1 A.length eG iR (aj A)∧PO (P++[fA (a::B)]) gu gm∧σ'=(w,dA N bi bl bo n eG aR gu)::(bi,aj ix)::(bl,aj lo)::(bo,bG (eU (a::B) on))::(iR++(gm++σ))):=by
 obtain⟨ac,rw,rfl,hp,mz⟩:=hp;have lu:rw.length≤10000:=by rw[← mz,cN]at lu;exact lu
 rw[cU];obtain⟨K,hK⟩:∃K,(A++a::B).length=K:=⟨_,rfl⟩
 obtain⟨L,hL⟩:∃L:List Int,a::B=L:=⟨_,rfl⟩
 obtain⟨q,hq⟩:∃q,L.length=q:=⟨_,rfl⟩
 have hKA:K=A.length+q:=by rw[← hK,bB,hL,hq]
 have hq0:0<q:=by rw[← hq,← hL,gH];omega
 rw[hK]at hs bP;obtain⟨bs,J,rfl,rfl,MM⟩:=hs.pos (by omega)
 have iG:((aj (A++a::B)++J).drop A.length).take (q*1)=aj L:=by
  rw[hL];unfold aj;rw[cE,cU,Nf (by rw[cN];exact bg _),xz (by rw[cN];exact bg _),sA,H8 (by rw[cN];omega),dZ (by rw[cN];omega)]
 have fk:A.length+q*1≤(aj (A++a::B)++J).length:=by rw[bB,MM];omega
 refine ao Tryz.func315 ?_;refine .quiet (by kernel_rfl) ?_;refine aa 0 ?_;refine aH ?_;refine aS 2 rfl (eZ rfl h0 (by omega)) ?_;refine aa 0 ?_;refine aH ?_;refine aS 1 rfl (eZ rfl h0 (by omega)) ?_;refine cO (fun c=>?_) (fun c=>?_)
 ·exact absurd he (by simpa using c)
 clear c;refine aa 0 ?_;refine aw [4] (Sr bs K A B J a _ hK Mz (by omega)) ?_;refine aa 1 ?_;refine aF.mk ⟨by omega,by omega,by omega,rfl⟩ ?_
 have hC:∀σ,ACalls Tryz.prog 220 [.af bs (0+((A.length:Nat):Int).toNat*1) (((K:Nat):Int).toNat-((A.length:Nat):Int).toNat) 1] ((bs,aj (A++a::B)++J)::σ) (fun x σ'=>∃b',x=.af b' 0 q 1∧σ'=(b',aj L)::(bs,aj (A++a::B)++J)::σ):=fun σ=>by
  rw[show 0+((A.length:Nat):Int).toNat*1=A.length by omega,show ((K:Nat):Int).toNat-((A.length:Nat):Int).toNat=q by omega];exact Sx bs A.length q _ _ σ iG fk (by omega)
 refine .mk [0] _ (hC _) ?_;rintro _ _ ⟨bp,rfl,rfl⟩;refine aa 2 ?_;refine aF.mk ⟨by omega,by omega,by omega,by omega,rfl⟩ ?_;refine ah 2 ?_;refine bc (S:=Nat) (fun i=>[(0,.ptr w 0),(5,.af bp 0 q 1),(46,.af bp 0 q 1),(47,.int .i64 q),(48,.int .i64 i)]) (fun i=>(bp,aj L)::(bs,aj (A++a::B)++J)::(w,dA N bi bl bo n (.af bs 0 A.length 1) aR vp)::(bi,aj ix)::(bl,aj lo)::(bo,bG (eU (L.take i) on))::(ac++(eL rw++σ))) (fun i=>i≤q) (fun i=>q-i) 0 ⟨aV _,⟨rfl,rfl,rfl,rfl,rfl,trivial⟩,rfl⟩ ?_;rintro i g dK;have hiq:i≤q:=dK;clear dK;refine ai (p:=(i:Int)<q) (fun ab=>?_) (fun ak=>?_)
 ·have ab:i<L.length:=by omega
  obtain⟨x,hx⟩:∃x,L[i]=x:=⟨_,rfl⟩
  have wZ:=hB x (by rw[hL,← hx];exact bU ab);have jn:=Ey (L.take i) on;have Lh:(eU (L.take i) on).set x.toNat false=eU (L.take (i+1)) on:=by unfold eU;rw[eM ab,hx,rE];rfl
  have my:ef ⟨.int .i64,1,8,[.int .i64 0]⟩ (aj L) (0+((i:Nat):Int).toNat*1)=some (.int .i64 x):=by
   rw[eZ rfl (by omega) (by omega),bD,bK,bu ab,hx];rfl
  refine aH ?_;refine aS 0 rfl my ?_;refine aa 2 ?_;refine aH ?_;refine bM 5 rfl (tZ rfl false wZ.1 (by omega)) ?_;exact aM (i+1) (by show q-(i+1)<q-i;omega) (by show i+1≤q;omega) ⟨rfl,rfl,rfl,rfl,aI (by omega),trivial⟩ (aL (by rw[Lh];rfl))
 ·have ak:i=q:=by omega
  subst ak;refine aw [0] (Kv bp L i _ hq (by omega)) ?_;refine aa 2 ?_;intro bX;refine zd [_,_,_,_,_,_,_] hp.wX (.af 0 bX 0 1 _ rfl (cj rfl)) rfl (by omega) (by decide) (by decide) (fun v' aJ h'=>?_);obtain⟨b5,rfl,rfl⟩:=sS (by omega) h';refine ah 3 ?_
  have gb:((w,dA N bi bl bo n (.af bs 0 A.length 1) aR (.af b5 0 (rw.length+1) 1))::(bi,aj ix)::(bl,aj lo)::(bo,bG (eU (L.take i) on))::(bs,aj (A++a::B)++J)::([(b5,fh rw++[.af bp 0 i 1])]++((eL rw++[(bp,aj (fA L))])++σ))).Perm ((bp,aj (fA L))::(bs,aj (A++a::B)++J)::(w,dA N bi bl bo n (.af bs 0 A.length 1) aR (.af b5 0 (rw.length+1) 1))::(bi,aj ix)::(bl,aj lo)::(bo,bG (eU (L.take i) on))::([(b5,fh rw++[.af bp 0 i 1])]++(eL rw++σ))):=by
   have h1:∀(X:Hp) (x y:Nat×List AV),(X++(x::([(b5,fh rw++[.af bp 0 i 1])]++((eL rw++[y])++σ)))).Perm (y::x::(X++([(b5,fh rw++[.af bp 0 i 1])]++(eL rw++σ)))):=fun X x y=>by
    refine ns.trans ?_;refine (List.Perm.cons x ?_).trans (List.Perm.swap _ _ _);rw[cU]
    have h2:([(b5,fh rw++[AV.af bp 0 i 1])]++(eL rw++([y]++σ))).Perm (y::([(b5,fh rw++[.af bp 0 i 1])]++(eL rw++σ))):=by
     have h3:=ns (l₁:=[(b5,fh rw++[AV.af bp 0 i 1])]++eL rw) (a:=y) (l₂:=σ);rw[cU,cU]at h3;exact h3
    exact (List.Perm.append_left X h2).trans ns
   exact h1 [_,_,_,_] _ _
  refine .drop 0 1 (.perm gb (.done ⟨rfl,.af bs 0 A.length 1,[(bs,aj A++(aj L++J))],.af b5 0 (rw.length+1) 1,[(b5,fh rw++[.af bp 0 i 1])]++eL (rw++[(bp,fA L)]),.af bs A.length (aj A) (aj L++J) (by rw[lF,dH]),⟨_,rw++[(bp,fA L)],rfl,?_,?_⟩,?_⟩))
  ·rw[bB]
   have e:fh (rw++[(bp,fA L)])=fh rw++[.af bp 0 i 1]:=by
    unfold fh;rw[cE];show _++[AV.af bp 0 (fA L).length 1]=_;rw[zc,hq]
   rw[e];exact .af b5 (rw.length+1) _ (by rw[bB,WC,dH];rfl)
  ·rw[cE,mz];subst hL;rfl
  ·rw[dZ (vG hq)];subst hL;have e1:aj (A++a::B)++J=aj A++(aj (a::B)++J):=by unfold aj;rw[cE,cU]
   have e3:eL (rw++[(bp,fA (a::B))])=eL rw++[(bp,aj (fA (a::B)))]:=cE;rw[e1,e3];simp only[cU,AW,sA]
theorem aeE(n w bi bl bo:Nat)(l:List aO)(lp ve:List Int)(u0:List Bool)(dQ:Nat)(P0:List (List Int))(tz fR:AV)(uG ik:Hp)(a:Int)(σ:Hp)(hn:n≤1000)(h:FI n (au n l) lp ve u0 [] dQ P0 [])(ha:0≤a∧a<n)(hf:lp.getD a.toNat 0=0)(hs:iv 1 0 tz uG [])(hp:PO P0 fR ik):
  ACalls Tryz.prog 290 [.ptr w 0,.int .i64 a] ((w,dA (ck n l) bi bl bo n tz dQ fR)::(bi,aj lp)::(bl,aj ve)::(bo,bG u0)::(uG++(ik++σ)))
   (fun r σ'=>r=.tup []∧∃ix lo on aR P vs lh vp eJ,FI n (au n l) ix lo on [] aR P []∧iv 1 0 vs lh []∧PO P vp eJ∧ix.getD a.toNat 0≠0∧(∀b:Nat,lp.getD b 0≠0→ix.getD b 0≠0)∧σ'=(w,dA (ck n l) bi bl bo n vs aR vp)::(bi,aj ix)::(bl,aj lo)::(bo,bG on)::(lh++(eJ++σ))):=by
 have hle:=h.zN;refine ao Tryz.func290 ?_
 refine Ou (S:=FrS) rfl (fun _=>0)
  (fun x=>[(0,.ptr w 0),(4,.af x.2.2.2.1 0 (x.2.2.1.1.length+1) 2)])
  (fun x=>(w,dA (ck n l) bi bl bo n (.af x.2.1.1 0 x.1.2.2.2.1.length 1) x.1.2.2.2.2.1 x.2.1.2.2.1)::(bi,aj x.1.1)::(bl,aj x.1.2.1)::(bo,bG x.1.2.2.1)::(x.2.1.1,aj x.1.2.2.2.1++x.2.1.2.1)::(x.2.2.2.1,bL (x.2.2.1.1++[(x.2.2.1.2.1,x.2.2.1.2.2)])++x.2.2.2.2)::(x.2.1.2.2.2++σ))
  (fun x=>(FI n (au n l) x.1.1 x.1.2.1 x.1.2.2.1 x.1.2.2.2.1 x.1.2.2.2.2.1 x.1.2.2.2.2.2 (x.2.2.1.1++[(x.2.2.1.2.1,x.2.2.1.2.2)])∧PO x.1.2.2.2.2.2 x.2.1.2.2.1 x.2.1.2.2.2)∧x.1.1.getD a.toNat 0≠0∧∀b:Nat,lp.getD b 0≠0→x.1.1.getD b 0≠0)
  (fun x=>iU (au n l) (x.2.2.1.1++[(x.2.2.1.2.1,x.2.2.1.2.2)])+im (au n l) x.1.1 n) ?_ ?_
 ·rintro⟨⟨ix,lo,on,st,aR,P⟩,⟨bs,Js,vp,eJ⟩,⟨wy,v,k⟩,⟨bw,J⟩⟩ g ⟨⟨pj,tH⟩,qt,xm⟩;have hF:FI n (au n l) ix lo on st aR P (wy++[(v,k)]):=pj;have hP:PO P vp eJ:=tH;have hA:ix.getD a.toNat 0≠0:=qt;have hM:∀b:Nat,lp.getD b 0≠0→ix.getD b 0≠0:=xm;clear pj tH qt xm;have hle:=hF.zN;have bY:=hF.mem;have eC:=hF.tj.node v bY;have AD:k≤(au n l v).length:=hF.tn (v,k) (iK _ (bj.2 rfl));have kR:=vR n l v
  have qh:wy.length+1≤st.length:=by
   have:=hF.tj.sub.length_le;rw[cN,bB]at this;exact this
  have mZ:IntKind.i64.wrap (((wy.length+1:Nat):Int)-1)=((wy.length:Nat):Int):=by rw[jF (by omega)];omega
  have hX:0+(IntKind.i64.wrap (((wy.length+1:Nat):Int)-1)).toNat*2=wy.length*2:=by rw[mZ];omega
  have mA:ef ⟨.int .i64,1,8,[.int .i64 0]⟩ (bL (wy++[(v,k)])++J) (0+(IntKind.i64.wrap (((wy.length+1:Nat):Int)-1)).toNat*2+0)=some (.int .i64 v):=gD rfl (by rw[hX];exact rJ rfl);have lr:ef ⟨.int .i64,1,8,[.int .i64 0]⟩ (bL (wy++[(v,k)])++J) (0+(IntKind.i64.wrap (((wy.length+1:Nat):Int)-1)).toNat*2+1)=some (.int .i64 k):=gD rfl (by rw[hX];exact Br rfl);have fk:(bL (wy++[(v,k)])++J).length=wy.length*2+2+J.length:=by rw[bB,mb,bB];show (wy.length+1)*2+_=_;omega
  have jr:IntKind.i64.wrap ((k:Int)+1)=((k+1:Nat):Int):=by rw[jF (by omega)];omega
  have vh:kC ⟨.int .i64,1,8,[.int .i64 0]⟩ (bL (wy++[(v,k)])++J) (0+(IntKind.i64.wrap (((wy.length+1:Nat):Int)-1)).toNat*2+1) (.int .i64 (IntKind.i64.wrap ((k:Int)+1)))=some (bL (wy++[(v,k+1)])++J):=by
   rw[mO rfl rfl (by rw[hX,fk];omega),hX,jr,BA rfl]
  have uA:2=2∧0≤IntKind.i64.wrap (((wy.length+1:Nat):Int)-1)∧IntKind.i64.wrap (((wy.length+1:Nat):Int)-1)<((wy.length+1:Nat):Int):=⟨rfl,by omega,by omega⟩
  refine aF.mk uA ?_;refine .quiet (by kernel_rfl) ?_;refine aS 5 rfl lr ?_;refine aa 0 ?_;refine aS 5 rfl mA ?_;refine aF.mk rfl ?_;refine aY.mk (au n l v) (by omega) (oE eC) ?_;refine ai (p:=(k:Int)<(au n l v).length) (fun ab=>?_) (fun ak=>?_)
  ·have ab:k<(au n l v).length:=by omega
   obtain⟨b,hb⟩:∃b,(au n l v)[k]=b:=⟨_,rfl⟩
   have sq:b∈au n l v:=hb▸bU ab;have dV:=(kD.1 sq).1;refine .quiet (by kernel_rfl) ?_;refine aa 0 ?_;refine aS 5 rfl mA ?_;refine aF.mk rfl ?_;refine aY.mk (au n l v) (by omega) (oE eC) ?_;refine aS 5 rfl lr ?_;refine aF.mk rfl ?_;refine aY.mk b (by omega) ((get_some ab).trans (congrArg some hb)) ?_;refine aS 5 rfl lr ?_;refine bM 5 rfl vh ?_;refine aa 0 ?_;refine aH ?_;refine aS 1 rfl (eZ rfl dV.1 (by rw[hF.li];omega)) ?_;refine ai (p:=ix.getD b.toNat 0=0) (fun c1=>?_) (fun c1=>?_)
   ·have hN:=hF.new ab hb dV c1;have cq:(aj st).length=st.length*1:=by rw[lF,dH]
    refine .mk [] _ (zQ w bi bl bo n (ck n l) ix lo st on aR _ vp _ b ((bw,bL (wy++[(v,k+1)])++J)::(eJ++σ)) dV.1 dV.2 hF.li hF.ll hF.ko (.af bs st.length (aj st) Js cq) (by omega) (by omega)) ?_;rintro _ _ ⟨rfl,Aq,Cx,fj,rfl⟩;obtain⟨lB,oo,rfl,rfl,_⟩:=fj.pos (by rw[bB];show 0<_+1;omega);intro ax;have GP:(bL (wy++[(v,k+1)])).length=(wy.length+1)*2:=by rw[mb,bB];rfl
    refine xK (k:=wy.length+1) (n:=1) [_,_,_,_,_,_] (.af bw (wy.length+1) (bL (wy++[(v,k+1)])) J GP) (.af 0 ax 0 1 _ rfl (cj rfl)) rfl (by omega) (by decide) (by decide) (fun v' aJ h'=>?_);obtain⟨om,J2,rfl,rfl,_⟩:=h'.pos (by omega);have Mi:(wy++[(v,k+1)]).length+1=wy.length+1+1:=by rw[bB];rfl
    have vz:(b.toNat:Int)=b:=mE dV.1;have qk:=Ju (nx:=au n l) (ix:=ix) (b:=b.toNat) (v:=((aR+1:Nat):Int)) (by omega) c1 (by rw[hF.li];omega) n;rw[az (by omega),vz]at qk;refine .mk ((ix.set b.toNat ((aR+1:Nat):Int),lo.set b.toNat ((aR+1:Nat):Int),on.set b.toNat true,st++[b],aR+1,P),(lB,oo,vp,eJ),(wy++[(v,k+1)],b,0),(om,J2)) rfl ?_ ⟨⟨hN,hP⟩,?_,?_⟩ ⟨rfl,by rw[Mi];rfl,trivial⟩ (.drop 0 1 (aL (by rw[ov (wy++[(v,k+1)])];rfl)))
    ·show iU (au n l) ((wy++[(v,k+1)])++[(b,0)])+im (au n l) (ix.set b.toNat ((aR+1:Nat):Int)) n<iU (au n l) (wy++[(v,k)])+im (au n l) ix n;rw[lG,lG,lG];omega
    ·show (ix.set b.toNat ((aR+1:Nat):Int)).getD a.toNat 0≠0;rw[mc];split
     ·omega
     ·exact hA
    ·intro z hz;show (ix.set b.toNat ((aR+1:Nat):Int)).getD z 0≠0;rw[mc];split
     ·omega
     ·exact hM z hz
   ·have c1:¬(ix.getD b.toNat 0=0):=c1;refine aa 0 ?_;refine aH ?_;have pf:=hF.uZ b dV.1 dV.2;have CN:ef ⟨.int .i64,1,8,[.int .i64 0]⟩ (bL (wy++[(v,k+1)])++J) (0+(IntKind.i64.wrap (((wy.length+1:Nat):Int)-1)).toNat*2+0)=some (.int .i64 v):=gD rfl (by rw[hX];exact rJ rfl);refine ec.jG 3 _ _ rfl (qF rfl dV.1 (by rw[hF.ko];omega)) (fun c2=>?_) (fun c2=>?_)
    ·rw[pf]at c2;have hO:=hF.GM ab hb (eX c2);refine .sched [] (upto [] 28 0) (by kernel_rfl) ?_;refine aa 0 ?_;refine aS 5 rfl CN ?_;refine aa 0 ?_;refine aS 5 rfl CN ?_;refine aH ?_;refine aS 2 rfl (eZ rfl eC.1 (by rw[hF.ll];omega)) ?_;refine aa 0 ?_;refine aH ?_;refine aS 1 rfl (eZ rfl dV.1 (by rw[hF.li];omega)) ?_;refine aH ?_;refine bM 2 rfl (lL rfl _ eC.1 (by rw[hF.ll];omega)) ?_;have jk:(if ix.getD b.toNat 0<lo.getD v.toNat 0 then ix.getD b.toNat 0 else lo.getD v.toNat 0)=min (lo.getD v.toNat 0) (ix.getD b.toNat 0):=by split <;> omega
     refine .mk ((ix,lo.set v.toNat (min (lo.getD v.toNat 0) (ix.getD b.toNat 0)),on,st,aR,P),(bs,Js,vp,eJ),(wy,v,k+1),(bw,J)) rfl ?_ ⟨⟨hO,hP⟩,hA,hM⟩ ⟨rfl,rfl,trivial⟩ (aL (by rw[← jk];rfl));show iU (au n l) (wy++[(v,k+1)])+im (au n l) ix n<iU (au n l) (wy++[(v,k)])+im (au n l) ix n;rw[lG,lG];omega
    ·rw[pf]at c2;have hO:=hF.off ab hb dV.1 c1 (py c2);refine .mk ((ix,lo,on,st,aR,P),(bs,Js,vp,eJ),(wy,v,k+1),(bw,J)) rfl ?_ ⟨⟨hO,hP⟩,hA,hM⟩ ⟨rfl,rfl,trivial⟩ (.refl _);show iU (au n l) (wy++[(v,k+1)])+im (au n l) ix n<iU (au n l) (wy++[(v,k)])+im (au n l) ix n;rw[lG,lG];omega
  ·have ak:k=(au n l v).length:=by omega
   have mz:ef ⟨.bz [(0,3),(1,3)],2,16,[.int .i64 0,.int .i64 0]⟩ (bL (wy++[(v,k)])++J) (0+(IntKind.i64.wrap (((wy.length+1:Nat):Int)-1)).toNat*2)=some (.agg [.int .i64 v,.int .i64 k]):=RN rfl (by rw[hX,fk];show wy.length*2+2≤_;omega) (by rw[hX];exact Ow rfl);refine aS 5 rfl mz ?_;intro bt;refine ah 0 ?_;refine aa 0 ?_;have pR:(IntKind.i64.wrap (((wy.length+1:Nat):Int)-1)).toNat-Int.toNat 0=wy.length:=by rw[mZ];omega
   have bP:0≤(0:Int)∧(0:Int)≤IntKind.i64.wrap (((wy.length+1:Nat):Int)-1)∧IntKind.i64.wrap (((wy.length+1:Nat):Int)-1)≤((wy.length+1:Nat):Int)∧2=2:=⟨by omega,by omega,by omega,rfl⟩
   by_cases he:lo.getD v.toNat 0=ix.getD v.toNat 0
   ·obtain⟨A,B,aq,DR,hB1⟩:=PN hF.tj.inc bY;have L7:v ∉ A:=fun hm=>by have:=DR v hm;omega
    have L6:∀x∈v::B,0≤x∧x<(n:Int):=fun x hx=>hF.tj.node x (by rw[aq];exact iK _ hx);have cm:=tV hF.tj.inc;rw[aq]at cm;have hT:=hF.tell (by omega) aq he (fun x y hy=>(kD.1 hy).1) (Bf (v::B)) (Et (ma.1 cm).2.1);have DJ:=EF hF.tj.prt;subst aq;have cq:(aj (A++v::B)).length=(A++v::B).length*1:=by rw[lF,dH]
    refine .perm _ (vS [_,_,_,_,_] eJ σ _ _) (Sq w bi bl bo n (ck n l) ix lo A B on P aR _ vp _ eJ v _ eC.1 eC.2 hF.li hF.ll hF.ko he L7 L6 (by omega) (by omega) (.af bs (A++v::B).length (aj (A++v::B)) Js cq) hP) ?_;rintro _ _ ⟨rfl,eG,iR,gu,gm,cC,sm,rfl⟩
    have gb:((bt,[AV.int .i64 v,.int .i64 k])::(w,dA (ck n l) bi bl bo n eG aR gu)::(bi,aj ix)::(bl,aj lo)::(bo,bG (eU (v::B) on))::(bw,bL (wy++[(v,k)])++J)::(iR++(gm++σ))).Perm ((w,dA (ck n l) bi bl bo n eG aR gu)::(bi,aj ix)::(bl,aj lo)::(bo,bG (eU (v::B) on))::(iR++(gm++((bt,[AV.int .i64 v,.int .i64 k])::(bw,bL (wy++[(v,k)])++J)::σ)))):=by
     have h1:=(vS [(w,dA (ck n l) bi bl bo n eG aR gu),(bi,aj ix),(bl,aj lo),(bo,bG (eU (v::B) on))] (iR++gm) σ (bt,[AV.int .i64 v,.int .i64 k]) (bw,bL (wy++[(v,k)])++J)).symm;rw[cU,cU]at h1;exact h1
    refine⟨_,gb,?_⟩;refine aF.mk bP ?_
    rcases A4 wy with ej | ⟨w',⟨u,i⟩,ej⟩
    ·have pU:wy.length=0:=by rw[ej];rfl
     rw[ej]at hT;obtain rfl:A=[]:=hT.SH;refine ai (p:=(0:Int)<(((IntKind.i64.wrap (((wy.length+1:Nat):Int)-1)).toNat-Int.toNat 0:Nat):Int)) (fun c3=>?_) (fun c3=>?_)
     ·rw[pR,pU]at c3;exact absurd c3 (by decide)
     ·refine .drop 0 1 (.drop 4 1 (.done ⟨rfl,ix,lo,eU (v::B) on,aR,P++[fA (v::B)],eG,iR,gu,gm,hT,cC,sm,hA,hM,rfl⟩))
    ·have ej:wy=w'++[(u,i)]:=by simpa using ej
     have pU:wy.length=w'.length+1:=by rw[ej,bB];rfl
     have iX:(IntKind.i64.wrap (((wy.length+1:Nat):Int)-1)).toNat-Int.toNat 0=w'.length+1:=pR.trans pU;have nI:IntKind.i64.wrap ((((IntKind.i64.wrap (((wy.length+1:Nat):Int)-1)).toNat-Int.toNat 0:Nat):Int)-1)=((w'.length:Nat):Int):=by rw[iX,jF (by omega)];omega
     have yT:(0+Int.toNat 0*2)+(IntKind.i64.wrap ((((IntKind.i64.wrap (((wy.length+1:Nat):Int)-1)).toNat-Int.toNat 0:Nat):Int)-1)).toNat*2+0=w'.length*2:=by rw[nI,bD];show 0+0*2+_+0=_;omega
     have nR:bL (wy++[(v,k)])++J=bL (w'++[(u,i)])++([.int .i64 v,.int .i64 k]++J):=by rw[ej,ov,cU];rfl
     have qk:ef ⟨.int .i64,1,8,[.int .i64 0]⟩ (bL (wy++[(v,k)])++J) ((0+Int.toNat 0*2)+(IntKind.i64.wrap ((((IntKind.i64.wrap (((wy.length+1:Nat):Int)-1)).toNat-Int.toNat 0:Nat):Int)-1)).toNat*2+0)=some (.int .i64 u):=gD rfl (by rw[yT,nR];exact rJ rfl);have fJ:0≤u∧u<(n:Int):=hF.tj.node u (hF.tj.sub.subset (by rw[ej];simp));have iG:AV.af bw (0+Int.toNat 0*2) ((IntKind.i64.wrap (((wy.length+1:Nat):Int)-1)).toNat-Int.toNat 0) 2=.af bw 0 (w'.length+1) 2:=by rw[iX];rfl
     have KQ:AV.af bw 0 (w'.length+1) 2=AV.af bw (0+Int.toNat 0*2) ((IntKind.i64.wrap (((wy.length+1:Nat):Int)-1)).toNat-Int.toNat 0) 2:=iG.symm;refine ai (p:=(0:Int)<(((IntKind.i64.wrap (((wy.length+1:Nat):Int)-1)).toNat-Int.toNat 0:Nat):Int)) (fun c3=>?_) (fun c3=>?_);rotate_left
     ·rw[iX]at c3;omega
     have x9:2=2∧0≤IntKind.i64.wrap ((((IntKind.i64.wrap (((wy.length+1:Nat):Int)-1)).toNat-Int.toNat 0:Nat):Int)-1)∧IntKind.i64.wrap ((((IntKind.i64.wrap (((wy.length+1:Nat):Int)-1)).toNat-Int.toNat 0:Nat):Int)-1)<(((IntKind.i64.wrap (((wy.length+1:Nat):Int)-1)).toNat-Int.toNat 0:Nat):Int):=⟨rfl,by rw[nI];omega,by rw[nI,iX];omega⟩
     refine aF.mk x9 ?_;refine aS 5 rfl qk ?_;refine .sched [] (upto [] 23 0) (by kernel_rfl) ?_;refine aa 1 ?_;refine aa 1 ?_;refine aH ?_;refine aS 3 rfl (eZ rfl fJ.1 (by rw[hF.ll];omega)) ?_;refine aa 1 ?_;refine aa 0 ?_;refine aH ?_;refine aS 3 rfl (eZ rfl eC.1 (by rw[hF.ll];omega)) ?_;refine aH ?_;refine bM 3 rfl (lL rfl _ fJ.1 (by rw[hF.ll];omega)) ?_;have jk:(if lo.getD v.toNat 0<lo.getD u.toNat 0 then lo.getD v.toNat 0 else lo.getD u.toNat 0)=min (lo.getD u.toNat 0) (lo.getD v.toNat 0):=by split <;> omega
     have DO:0<A.length:=List.length_pos_of_mem (a:=u) (hT.tj.sub.subset (by rw[ej];simp));obtain⟨lB,oo,rfl,rfl,_⟩:=cC.pos DO;have zX:=FI.same (ej▸hF) he;rw[ej]at hT;have hE:(w,dA (ck n l) bi bl bo n (.af lB 0 A.length 1) aR gu)::(bi,aj ix)::(bl,aj (lo.set u.toNat (if lo.getD v.toNat 0<lo.getD u.toNat 0 then lo.getD v.toNat 0 else lo.getD u.toNat 0)))::(bo,bG (eU (v::B) on))::(lB,aj A++oo)::(bw,bL (wy++[(v,k)])++J)::(gm++σ)=(w,dA (ck n l) bi bl bo n (.af lB 0 A.length 1) aR gu)::(bi,aj ix)::(bl,aj (lo))::(bo,bG (eU (v::B) on))::(lB,aj A++oo)::(bw,bL (w'++[(u,i)])++([.int .i64 v,.int .i64 k]++J))::(gm++σ):=by rw[jk,zX,nR]
     refine .mk ((ix,lo,eU (v::B) on,A,aR,P++[fA (v::B)]),(lB,oo,gu,gm),(w',u,i),(bw,[AV.int .i64 v,.int .i64 k]++J)) rfl ?_ ⟨⟨hT,sm⟩,hA,hM⟩ ⟨rfl,iG,trivial⟩ (.drop 0 1 (.pull [4,4,4,4,5] (aL hE)));show iU (au n l) (w'++[(u,i)])+im (au n l) ix n<iU (au n l) (wy++[(v,k)])+im (au n l) ix n;rw[ej,lG (au n l) (w'++[(u,i)])];omega
   ·have MJ:=fun ρ=>Ru w bi bl bo n (ck n l) ix lo on aR (.af bs 0 st.length 1) vp v ρ eC.1 eC.2 hF.li hF.ll he;refine aw [4,4,4,4] (MJ _) ?_;refine aF.mk bP ?_
    rcases A4 wy with ej | ⟨w',⟨u,i⟩,ej⟩
    ·have pU:wy.length=0:=by rw[ej];rfl
     rw[ej]at hF;exact absurd hF.one he
    ·have ej:wy=w'++[(u,i)]:=by simpa using ej
     have pU:wy.length=w'.length+1:=by rw[ej,bB];rfl
     have iX:(IntKind.i64.wrap (((wy.length+1:Nat):Int)-1)).toNat-Int.toNat 0=w'.length+1:=pR.trans pU;have nI:IntKind.i64.wrap ((((IntKind.i64.wrap (((wy.length+1:Nat):Int)-1)).toNat-Int.toNat 0:Nat):Int)-1)=((w'.length:Nat):Int):=by rw[iX,jF (by omega)];omega
     have yT:(0+Int.toNat 0*2)+(IntKind.i64.wrap ((((IntKind.i64.wrap (((wy.length+1:Nat):Int)-1)).toNat-Int.toNat 0:Nat):Int)-1)).toNat*2+0=w'.length*2:=by rw[nI,bD];show 0+0*2+_+0=_;omega
     have nR:bL (wy++[(v,k)])++J=bL (w'++[(u,i)])++([.int .i64 v,.int .i64 k]++J):=by rw[ej,ov,cU];rfl
     have qk:ef ⟨.int .i64,1,8,[.int .i64 0]⟩ (bL (wy++[(v,k)])++J) ((0+Int.toNat 0*2)+(IntKind.i64.wrap ((((IntKind.i64.wrap (((wy.length+1:Nat):Int)-1)).toNat-Int.toNat 0:Nat):Int)-1)).toNat*2+0)=some (.int .i64 u):=gD rfl (by rw[yT,nR];exact rJ rfl);have fJ:0≤u∧u<(n:Int):=hF.tj.node u (hF.tj.sub.subset (by rw[ej];simp));have iG:AV.af bw (0+Int.toNat 0*2) ((IntKind.i64.wrap (((wy.length+1:Nat):Int)-1)).toNat-Int.toNat 0) 2=.af bw 0 (w'.length+1) 2:=by rw[iX];rfl
     have KQ:AV.af bw 0 (w'.length+1) 2=AV.af bw (0+Int.toNat 0*2) ((IntKind.i64.wrap (((wy.length+1:Nat):Int)-1)).toNat-Int.toNat 0) 2:=iG.symm;refine ai (p:=(0:Int)<(((IntKind.i64.wrap (((wy.length+1:Nat):Int)-1)).toNat-Int.toNat 0:Nat):Int)) (fun c3=>?_) (fun c3=>?_);rotate_left
     ·rw[iX]at c3;omega
     have x9:2=2∧0≤IntKind.i64.wrap ((((IntKind.i64.wrap (((wy.length+1:Nat):Int)-1)).toNat-Int.toNat 0:Nat):Int)-1)∧IntKind.i64.wrap ((((IntKind.i64.wrap (((wy.length+1:Nat):Int)-1)).toNat-Int.toNat 0:Nat):Int)-1)<(((IntKind.i64.wrap (((wy.length+1:Nat):Int)-1)).toNat-Int.toNat 0:Nat):Int):=⟨rfl,by rw[nI];omega,by rw[nI,iX];omega⟩
     refine aF.mk x9 ?_;refine aS 6 rfl qk ?_;refine .sched [] (upto [] 23 0) (by kernel_rfl) ?_;refine aa 0 ?_;refine aa 0 ?_;refine aH ?_;refine aS 2 rfl (eZ rfl fJ.1 (by rw[hF.ll];omega)) ?_;refine aa 0 ?_;refine aa 4 ?_;refine aH ?_;refine aS 2 rfl (eZ rfl eC.1 (by rw[hF.ll];omega)) ?_;refine aH ?_;refine bM 2 rfl (lL rfl _ fJ.1 (by rw[hF.ll];omega)) ?_;have jk:(if lo.getD v.toNat 0<lo.getD u.toNat 0 then lo.getD v.toNat 0 else lo.getD u.toNat 0)=min (lo.getD u.toNat 0) (lo.getD v.toNat 0):=by split <;> omega
     have hU:=FI.up (ej▸hF) (by omega) he;have hE:(w,dA (ck n l) bi bl bo n (.af bs 0 st.length 1) aR vp)::(bi,aj ix)::(bl,aj (lo.set u.toNat (if lo.getD v.toNat 0<lo.getD u.toNat 0 then lo.getD v.toNat 0 else lo.getD u.toNat 0)))::(bo,bG (on))::(bs,aj st++Js)::(bw,bL (wy++[(v,k)])++J)::(eJ++σ)=(w,dA (ck n l) bi bl bo n (.af bs 0 st.length 1) aR vp)::(bi,aj ix)::(bl,aj (lo.set u.toNat (min (lo.getD u.toNat 0) (lo.getD v.toNat 0))))::(bo,bG (on))::(bs,aj st++Js)::(bw,bL (w'++[(u,i)])++([.int .i64 v,.int .i64 k]++J))::(eJ++σ):=by rw[jk,nR]
     refine .mk ((ix,lo.set u.toNat (min (lo.getD u.toNat 0) (lo.getD v.toNat 0)),on,st,aR,P),(bs,Js,vp,eJ),(w',u,i),(bw,[AV.int .i64 v,.int .i64 k]++J)) rfl ?_ ⟨⟨hU,hP⟩,hA,hM⟩ ⟨rfl,iG,trivial⟩ (.drop 4 1 (aL hE));show iU (au n l) (w'++[(u,i)])+im (au n l) ix n<iU (au n l) (wy++[(v,k)])+im (au n l) ix n;rw[ej,lG (au n l) (w'++[(u,i)])];omega
 ·intro hr
  obtain⟨ix,lo,on,hF,hA,hM,heq,MP⟩:∃ix lo on,FI n (au n l) ix lo on [a] (dQ+1) P0 [(a,0)]∧ix.getD a.toNat 0≠0∧(∀b:Nat,lp.getD b 0≠0→ix.getD b 0≠0)∧lo.getD a.toNat 0=ix.getD a.toNat 0∧∀ρ,ACalls Tryz.prog 314 [.ptr w 0,.int .i64 a] ((w,dA (ck n l) bi bl bo n tz dQ fR)::(bi,aj lp)::(bl,aj ve)::(bo,bG u0)::(uG++ρ))
    (fun r σ'=>r=.agg [.int .i64 a,.int .i64 0]∧∃bs Js,σ'=(w,dA (ck n l) bi bl bo n (.af bs 0 [a].length 1) (dQ+1) fR)::(bi,aj ix)::(bl,aj lo)::(bo,bG on)::(bs,aj [a]++Js)::ρ):=by
   have h1:=h.enter (way2:=[]) ha hf (fun v hv=>by cases hv) rfl (fun t ht=>by cases ht) (fun t ht=>by cases ht);refine⟨_,_,_,h1,?_,?_,?_,fun ρ=>(zQ w bi bl bo n (ck n l) lp ve [] u0 dQ tz fR uG a ρ ha.1 ha.2 h.li h.ll h.ko hs (aV _) (by omega)).mono ?_⟩
   ·rw[mc,az ⟨rfl,by rw[h.li];omega⟩];omega
   ·intro z hz;rw[mc];split
    ·omega
    ·exact hz
   ·rw[mc,mc,az ⟨rfl,by rw[h.ll];omega⟩,az ⟨rfl,by rw[h.li];omega⟩]
   ·rintro _ _ ⟨rfl,Aq,Cx,fj,rfl⟩;obtain⟨bs,Js,rfl,rfl,_⟩:=fj.pos (by show 0<1;decide);exact⟨rfl,bs,Js,rfl⟩
  clear hf hs h;have hle:=hF.zN;have AD:=vR n l a;refine .mk [] _ (MP (ik++σ)) ?_;rintro _ _ ⟨rfl,bs,Js,rfl⟩;intro bw;refine aF.mk ⟨rfl,by decide,by decide⟩ ?_;refine .quiet (by kernel_rfl) ?_;refine aa 0 ?_;refine aa 1 ?_;refine aa 0 ?_;refine aF.mk rfl ?_;refine aY.mk (au n l a) (by omega) (oE ha) ?_;refine ai (p:=(0:Int)<(au n l a).length) (fun ab=>?_) (fun ak=>?_)
  ·have ab:0<(au n l a).length:=by omega
   obtain⟨b,hb⟩:∃b,(au n l a)[0]=b:=⟨_,rfl⟩
   have sq:b∈au n l a:=hb▸bU ab;have dV:=(kD.1 sq).1;refine .quiet (by kernel_rfl) ?_;refine aa 1 ?_;refine aa 0 ?_;refine aF.mk rfl ?_;refine aY.mk (au n l a) (by omega) (oE ha) ?_;refine aa 0 ?_;refine aF.mk rfl ?_;refine aY.mk b (by decide) ((get_some ab).trans (congrArg some hb)) ?_;refine aa 0 ?_;refine ah 0 ?_;refine aa 1 ?_;refine aH ?_;refine aS 2 rfl (eZ rfl dV.1 (by rw[hF.li];omega)) ?_;refine ai (p:=ix.getD b.toNat 0=0) (fun c1=>?_) (fun c1=>?_)
   ·have hN:=FI.new (w:=[]) hF ab hb dV c1;refine .mk [5,5,5,5,5] _ (zQ w bi bl bo n (ck n l) ix lo [a] on (dQ+1) _ fR _ b ((bw,[.int .i64 a,.int .i64 1])::(ik++σ)) dV.1 dV.2 hF.li hF.ll hF.ko (.af bs 1 (aj [a]) Js rfl) (by show 1≤10000;decide) (by omega)) ?_;rintro _ _ ⟨rfl,Aq,Cx,fj,rfl⟩;obtain⟨lB,oo,rfl,rfl,_⟩:=fj.pos (by show 0<2;decide);intro ax;refine xK (k:=1) (n:=1) [_,_,_,_,_,_] (.af bw 1 (bL [(a,1)]) [] rfl) (.af 0 ax 0 1 _ rfl (cj rfl)) rfl (by decide) (by decide) (by decide) (fun v' aJ h'=>?_);obtain⟨om,J2,rfl,rfl,_⟩:=h'.pos (by decide);refine vV hr ((ix.set b.toNat ((dQ+1+1:Nat):Int),lo.set b.toNat ((dQ+1+1:Nat):Int),on.set b.toNat true,[a]++[b],dQ+1+1,P0),(lB,oo,fR,ik),([(a,1)],b,0),(om,J2)) ⟨rfl,⟨⟨hN,hp⟩,?_,?_⟩,⟨rfl,rfl,trivial⟩,.drop 0 1 (aL rfl)⟩
    ·show (ix.set b.toNat ((dQ+1+1:Nat):Int)).getD a.toNat 0≠0;rw[mc];split
     ·omega
     ·exact hA
    ·intro z hz;show (ix.set b.toNat ((dQ+1+1:Nat):Int)).getD z 0≠0;rw[mc];split
     ·omega
     ·exact hM z hz
   ·have c1:¬(ix.getD b.toNat 0=0):=c1;have pf:=hF.uZ b dV.1 dV.2;refine aa 1 ?_;refine aH ?_;refine ec.jG 4 _ _ rfl (qF rfl dV.1 (by rw[hF.ko];omega)) (fun c2=>?_) (fun c2=>?_)
    ·rw[pf]at c2;have hO:=FI.GM (w:=[]) hF ab hb (eX c2);refine .sched [] (upto [] 28 0) (by kernel_rfl) ?_;refine aa 1 ?_;refine aa 0 ?_;refine aa 1 ?_;refine aa 0 ?_;refine aH ?_;refine aS 3 rfl (eZ rfl ha.1 (by rw[hF.ll];omega)) ?_;refine aa 1 ?_;refine aH ?_;refine aS 2 rfl (eZ rfl dV.1 (by rw[hF.li];omega)) ?_;refine aH ?_;refine bM 3 rfl (lL rfl _ ha.1 (by rw[hF.ll];omega)) ?_;have jk:(if ix.getD b.toNat 0<lo.getD a.toNat 0 then ix.getD b.toNat 0 else lo.getD a.toNat 0)=min (lo.getD a.toNat 0) (ix.getD b.toNat 0):=by split <;> omega
     have hE:(w,dA (ck n l) bi bl bo n (.af bs 0 [a].length 1) (dQ+1) fR)::(bi,aj ix)::(bl,aj (lo.set a.toNat (if ix.getD b.toNat 0<lo.getD a.toNat 0 then ix.getD b.toNat 0 else lo.getD a.toNat 0)))::(bo,bG on)::(bs,aj [a]++Js)::(bw,bL [(a,1)]++[])::(ik++σ)=(w,dA (ck n l) bi bl bo n (.af bs 0 [a].length 1) (dQ+1) fR)::(bi,aj ix)::(bl,aj (lo.set a.toNat (min (lo.getD a.toNat 0) (ix.getD b.toNat 0))))::(bo,bG on)::(bs,aj [a]++Js)::(bw,bL [(a,1)]++[])::(ik++σ):=by rw[jk]
     exact vV hr ((ix,lo.set a.toNat (min (lo.getD a.toNat 0) (ix.getD b.toNat 0)),on,[a],dQ+1,P0),(bs,Js,fR,ik),([],a,1),(bw,[])) ⟨rfl,⟨⟨hO,hp⟩,hA,hM⟩,⟨rfl,rfl,trivial⟩,.pull [5,5,5,5,5] (aL hE)⟩
    ·rw[pf]at c2;have hO:=FI.off (w:=[]) hF ab hb dV.1 c1 (py c2);exact vV hr ((ix,lo,on,[a],dQ+1,P0),(bs,Js,fR,ik),([],a,1),(bw,[])) ⟨rfl,⟨⟨hO,hp⟩,hA,hM⟩,⟨rfl,rfl,trivial⟩,.pull [5,5,5,5,5] (aL rfl)⟩
  ·have ak:(au n l a).length=0:=by omega
   refine aa 0 ?_;intro ax;refine ah 0 ?_;refine aa 0 ?_;have hT:=FI.tell (w:=[]) (A:=[]) (B:=[]) (part:=fA [a]) hF (by omega) rfl heq (fun x y hy=>(kD.1 hy).1) (Bf [a]) (Et (by simp));have DJ:=EF hF.tj.prt
   have Lg:((w,dA (ck n l) bi bl bo n (.af bs 0 [a].length 1) (dQ+1) fR)::(bi,aj ix)::(bl,aj lo)::(bo,bG on)::(bs,aj [a]++Js)::(ik++((ax,[AV.int .i64 a,.int .i64 0])::(bw,[AV.int .i64 a,.int .i64 0])::σ))).Perm ((ax,[AV.int .i64 a,.int .i64 0])::(bw,[AV.int .i64 a,.int .i64 0])::(w,dA (ck n l) bi bl bo n (.af bs 0 [a].length 1) (dQ+1) fR)::(bi,aj ix)::(bl,aj lo)::(bo,bG on)::(bs,aj [a]++Js)::(ik++σ)):=by
    have h1:=vS [(w,dA (ck n l) bi bl bo n (.af bs 0 [a].length 1) (dQ+1) fR),(bi,aj ix),(bl,aj lo),(bo,bG on),(bs,aj [a]++Js)] ik σ (ax,[AV.int .i64 a,.int .i64 0]) (bw,[AV.int .i64 a,.int .i64 0]);exact h1.trans (List.Perm.cons _ (ns (l₁:=[(w,dA (ck n l) bi bl bo n (.af bs 0 [a].length 1) (dQ+1) fR),(bi,aj ix),(bl,aj lo),(bo,bG on),(bs,aj [a]++Js)])))
   refine .perm _ Lg (Sq w bi bl bo n (ck n l) ix lo [] [] on P0 (dQ+1) _ fR _ ik a _ ha.1 ha.2 hF.li hF.ll hF.ko heq (by simp) (fun x hx=>by rw[List.mem_singleton.1 hx];exact ha) (by show 1≤10000;decide) (by omega) (.af bs 1 (aj [a]) Js rfl) hp) ?_;rintro _ _ ⟨rfl,eG,iR,gu,gm,cC,sm,rfl⟩
   have gb:((ax,[AV.int .i64 a,.int .i64 0])::(w,dA (ck n l) bi bl bo n eG (dQ+1) gu)::(bi,aj ix)::(bl,aj lo)::(bo,bG (eU [a] on))::(bw,[AV.int .i64 a,.int .i64 0])::(iR++(gm++σ))).Perm ((w,dA (ck n l) bi bl bo n eG (dQ+1) gu)::(bi,aj ix)::(bl,aj lo)::(bo,bG (eU [a] on))::(iR++(gm++((ax,[AV.int .i64 a,.int .i64 0])::(bw,[AV.int .i64 a,.int .i64 0])::σ)))):=by
    have h1:=(vS [(w,dA (ck n l) bi bl bo n eG (dQ+1) gu),(bi,aj ix),(bl,aj lo),(bo,bG (eU [a] on))] (iR++gm) σ (ax,[AV.int .i64 a,.int .i64 0]) (bw,[AV.int .i64 a,.int .i64 0])).symm;rw[cU,cU]at h1;exact h1
   refine⟨_,gb,?_⟩;refine aF.mk (by decide) ?_;exact .drop 0 1 (.drop 4 1 (.done ⟨rfl,ix,lo,eU [a] on,dQ+1,P0++[fA [a]],eG,iR,gu,gm,hT,cC,sm,hA,hM,rfl⟩))
set_option maxHeartbeats 4000000
theorem Ch{P:List (List Int)}{rw:List (Nat×List Int)}{i:Nat}{p:List Int}(h:rw.map Prod.snd=P)(hp:P[i]?=some p):∃b,rw[i]?=some (b,p):=by
 rw[← h,fD]at hp;cases hr:rw[i]? with
 |none=>rw[hr]at hp;cases hp
 |some r=>rw[hr]at hp;cases hp;exact⟨r.1,rfl⟩
theorem B7{i:TI}(hw:i.wide=false){rw:List (Nat×List Int)}{z:Int}{b:Nat}{p:List Int}(_hz:0≤z)(h:rw[z.toNat]?=some (b,p)):ef i (fh rw) (0+z.toNat*1)=some (.af b 0 p.length 1):=
 gD hw (by rw[dD,dH];unfold fh;rw[fD,h];rfl)
theorem FT{rw:List (Nat×List Int)}{i b:Nat}{p:List Int}{σ:Hp}(h:rw[i]?=some (b,p)):(eL rw++σ)[i]?=some (b,aj p):=by
 have hi:i<(eL rw).length:=by unfold eL;rw[cN];exact (cW.1 h).1
 rw[ku hi];unfold eL;rw[fD,h];rfl
theorem PR{p:List Int}{x:Int}(h:p[((0:Int)).toNat]?=some x):p.getD ((0:Int)).toNat 0=x:=by rw[bK,h];rfl
theorem OE:∀{ro:List (Nat×List Int)},(ro.map Prod.snd).flatten.Nodup→(∀r∈ro,r.2≠[])→ro.Nodup
 | [],_,_=>H7
 |r::ro,h,bf=>by
  have h:(r.2++(ro.map Prod.snd).flatten).Nodup:=h;have h:=ma.1 h;refine mD.2 ⟨fun hm=>?_,OE h.2.1 fun q hq=>bf q (dq _ hq)⟩;obtain⟨x,hx⟩:=List.exists_mem_of_ne_nil _ (bf r (cF ..));exact h.2.2 x hx x (nr.2 ⟨r.2,eW.2 ⟨r,hm,rfl⟩,hx⟩) rfl
theorem Oa{α:Type}[DecidableEq α]:∀{A B:List α},A.Nodup→(∀x∈A,x∈B)→B.length≤A.length→A.Perm B
 | [],B,_,_,h=>by rw[fE.1 (Nat.le_zero.1 h)]
 |a::A,B,hn,hs,hl=>by
  have hn:=mD.1 hn;have ha:=hs a (cF ..);have hp:=List.perm_cons_erase ha;have hle:=hp.length_eq;refine (List.Perm.cons a (Oa hn.2 (fun x hx=>?_) ?_)).trans hp.symm
  ·exact (M4 (fun e:x=a=>hn.1 (e▸hx))).2 (hs x (dq _ hx))
  ·rw[gH]at hle hl;omega
theorem Zb(n:Nat)(l:List aO)(P:List (List Int))(rw:List (Nat×List Int))(bq:Nat)(σ:Hp)(h:n0 n l P)(mz:rw.map Prod.snd=P)(tH:0<P.length)(hl:l.length≤100000)(hn:n≤1000)(hr:∀e∈l,(0≤e.1∧e.1<(n:Int))∧0≤e.2.1∧e.2.1<(n:Int)):
  ACalls Tryz.prog 291 [.int .i64 n,.ae cg l,.af bq 0 P.length 1] ((bq,fh rw)::(eL rw++σ)) (fun r σ'=>∃bo eK,r=.af bo 0 eK.length 1∧eK.map Prod.snd=gv n l∧σ'=(bo,fh eK)::(eL eK++σ)∧(gv n l).Perm P):=by
 have rb:rw.length=P.length:=by rw[← mz,cN]
 obtain⟨lu,hpf⟩:=Bv h.ok;have hNt:((n:Nat):Int).toNat=n:=bD n;refine ao Tryz.func291 ?_;intro bl;refine a8 ?_;intro bw;intro bW;refine ah 0 ?_;refine bc (S:=Nat) (fun k=>[(2,.af bq 0 P.length 1),(4,.ptr bl 0),(7,.ptr bW 0),(20,.af bq 0 P.length 1),(21,.int .i64 P.length),(22,.int .i64 k)]) (fun k=>(bW,[.af bw 0 n 1])::(bw,aj (mn P k (List.replicate n 0)))::(bl,[.ae cg l])::(bq,fh rw)::(eL rw++σ)) (fun k=>k≤P.length) (fun k=>P.length-k) 0 ⟨aV _,⟨rfl,rfl,rfl,rfl,rfl,rfl,trivial⟩,by rw[show aj (mn P 0 (List.replicate n 0))=cP [.int .i64 0] n from (ua n).symm];rfl⟩ ?_;intro k g aK;have hk:k≤P.length:=aK;clear aK;refine ai (p:=(k:Int)<P.length) (fun ab=>?_) (fun ak=>?_)
 ·have ab:k<P.length:=by omega
  obtain⟨p,hp⟩:∃p,P[k]=p:=⟨_,rfl⟩
  have cY:P[k]?=some p:=(bu ab).trans (congrArg some hp);have re:=h.ok.node p (dz cY);have GR:p.length≤n:=Bx n p ((h.ok.Ar p (dz cY)).imp fun h=>by omega) re;have rz:=Bi P k (List.replicate n 0);rw[gh]at rz;have tC:mn P (k+1) (List.replicate n 0)=kP k p (mn P k (List.replicate n 0)):=by show kP k (P.getD k []) _=_;rw[uq cY]
  generalize mn P k (List.replicate n 0)=W at rz tC;obtain⟨bk,xe⟩:=Ch mz cY;refine aH ?_;refine aS 3 rfl (B7 rfl (by omega) (by rw[bD];exact xe)) ?_;refine bc (S:=Nat) (fun j=>[(2,.af bq 0 P.length 1),(4,.ptr bl 0),(7,.ptr bW 0),(8,.int .i64 k),(20,.af bq 0 P.length 1),(21,.int .i64 P.length),(22,.int .i64 k),(27,.af bk 0 p.length 1),(28,.int .i64 p.length),(29,.int .i64 j)]) (fun j=>(bW,[.af bw 0 n 1])::(bw,aj (kP k (p.take j) W))::(bl,[.ae cg l])::(bq,fh rw)::(eL rw++σ)) (fun j=>j≤p.length) (fun j=>p.length-j) 0 ⟨aV _,⟨rfl,rfl,rfl,rfl,rfl,rfl,rfl,rfl,rfl,rfl,trivial⟩,rfl⟩ ?_;intro j g2 gx;have hj:j≤p.length:=gx;clear gx;refine ai (p:=(j:Int)<p.length) (fun da=>?_) (fun jl=>?_)
  ·have da:j<p.length:=by omega
   obtain⟨a,ha⟩:∃a,p[j]=a:=⟨_,rfl⟩
   have su:=re a (ha▸bU da);have aq:(kP k (p.take j) W).set a.toNat k=kP k (p.take (j+1)) W:=by unfold kP;rw[eM da,ha,rE];rfl
   have qh:=EB k (p.take j) W;refine aH ?_;refine ec.mk (k+4) _ _ (FT xe) (eZ rfl (by omega) (by omega)) ?_;rw[bD,show p.getD j 0=a by rw[bK,bu da,ha];rfl];refine aa 0 ?_;refine aH ?_;refine bM 1 rfl (lL rfl _ su.1 (by omega)) ?_;exact aM (j+1) (by show p.length-(j+1)<p.length-j;omega) da ⟨rfl,rfl,rfl,rfl,rfl,rfl,rfl,rfl,rfl,aI (by omega),trivial⟩ (aL (by rw[← aq];rfl))
  ·have jl:j=p.length:=by omega
   subst jl;exact aM (k+1) (by show P.length-(k+1)<P.length-k;omega) ab ⟨rfl,rfl,rfl,rfl,rfl,aI (by omega),trivial⟩ (aL (by rw[er,tC]))
 ·have ak:k=P.length:=by omega
  subst ak
  have MA:∀j:Nat,j<n→0≤(bE n P).getD j 0∧(bE n P).getD j 0<(P.length:Int):=fun j hj=>by
   obtain⟨i,p,hi,_,hw⟩:=h.idx (x:=(j:Int)) (by omega);rw[bD]at hw;have:=xO hi;rw[hw];omega
  have rz:=Ov n P;have CQ:=fun k hk=>(Ft h hr k hk)
  have nS:=Kj h hr
  have bf:∀(i:Nat) (p:List Int),P[i]?=some p→p[((0:Int)).toNat]?=some (ig P i):=fun i p hi=>by
   unfold ig;rw[uq hi];exact J0 (l9.2 (h.ok.ne p (dz hi)))
  rw[show mn P P.length (List.replicate n 0)=bE n P from rfl];refine aF.mk ⟨by omega,by omega,by show ((P.length:Nat):Int)≤1048576;omega,by decide⟩ ?_;intro bt;intro bT;refine ah 0 ?_;obtain⟨m,hm⟩:∃m,P.length=m:=⟨_,rfl⟩
  refine .wrap 14 _ rfl rfl ?_;refine .dT (.pull [0,2,3,3] (.refl _)) ?_;refine bc (S:=Nat×(AV×Hp)×List (Nat×List Int)) (fun x=>[(2,.af bq 0 P.length 1),(12,.ptr bT 0),(13,.fn (.func 316) [] [.ptr bT 0,.ptr bl 0,.ptr bW 0]),(14,.via x.2.1.1),(44,.int .i64 P.length),(45,.int .i64 x.1)]) (fun x=>(bT,[.af bt 0 P.length 1])::(bW,[.af bw 0 n 1])::(bw,aj (bE n P))::(bt,bG (dO P l (bE n P) x.1).1)::(bl,[.ae cg l])::(bq,fh rw)::(eL rw++(x.2.1.2++σ))) (fun x=>x.1≤P.length∧Acc 1 x.1 x.2.1.1 x.2.1.2 (fh x.2.2)∧x.2.2.map Prod.snd=(dO P l (bE n P) x.1).2∧∀r∈x.2.2,r∈rw) (fun x=>P.length-x.1) (0,(.ag,[]),[]) ⟨⟨Nat.zero_le _,.nil,rfl,fun r hr=>absurd hr (by simp)⟩,⟨rfl,rfl,rfl,rfl,rfl,rfl,trivial⟩,by rw[show bG (dO P l (bE n P) 0).1=cP [.bool false] P.length from (zu P.length).symm];rfl⟩ ?_;rintro⟨k,⟨v,acc⟩,ro⟩ g2 ⟨aK,fX,Ur,TO⟩;have hk:k≤P.length:=aK;have bF:Acc 1 k v acc (fh ro):=fX;have mw:ro.map Prod.snd=(dO P l (bE n P) k).2:=Ur;have lU:∀r∈ro,r∈rw:=TO;clear aK fX Ur TO;refine ai (p:=(k:Int)<P.length) (fun ab=>?_) (fun ak=>?_)
  ·have ab:k<P.length:=by omega
   obtain⟨hO,Cp,_⟩:=CQ k hk;obtain⟨b,hb,rq⟩:=Cp ab;have DE:=hO.tl
   have fj:(dO P l (bE n P) (k+1)).1=(dO P l (bE n P) k).1.set b true:=by
    show (dO P l (bE n P) k).1.set (fo P l (bE n P) (dO P l (bE n P) k).1 P.length).toNat true=_;rw[hb,bD]
   have dw:(dO P l (bE n P) (k+1)).2=(dO P l (bE n P) k).2++[P.getD b []]:=by
    show (dO P l (bE n P) k).2++[P.getD (fo P l (bE n P) (dO P l (bE n P) k).1 P.length).toNat []]=_;rw[hb,bD]
   generalize (dO P l (bE n P) k).1=T at hb DE fj;rw[← mw]at dw;clear hO Cp;have uN:=EK P l (bE n P) T;refine bc (S:=Nat) (fun i=>[(2,.af bq 0 P.length 1),(12,.ptr bT 0),(13,.fn (.func 316) [] [.ptr bT 0,.ptr bl 0,.ptr bW 0]),(14,.via v),(15,.int .i64 (fo P l (bE n P) T i)),(44,.int .i64 P.length),(45,.int .i64 k),(47,.af bq 0 P.length 1),(48,.int .i64 P.length),(49,.int .i64 i)]) (fun _=>(bT,[.af bt 0 P.length 1])::(bW,[.af bw 0 n 1])::(bw,aj (bE n P))::(bt,bG T)::(bl,[.ae cg l])::(bq,fh rw)::(eL rw++(acc++σ))) (fun i=>i≤P.length) (fun i=>P.length-i) 0 ⟨aV _,⟨rfl,rfl,rfl,rfl,rfl,rfl,rfl,rfl,rfl,rfl,trivial⟩,rfl⟩ ?_;intro i g3 dK;have hi:i≤P.length:=dK;clear dK;refine ai (p:=(i:Int)<P.length) (fun da=>?_) (fun jl=>?_)
   ·have da:i<P.length:=by omega
    obtain⟨p,hp⟩:∃p,P[i]=p:=⟨_,rfl⟩
    have cY:P[i]?=some p:=(bu da).trans (congrArg some hp);have vD:=fun ρ=>Ue bW bw bl bT bt n P.length l (bE n P) T i ρ hl (by omega) hr rz DE MA;have gZ:fo P l (bE n P) T (i+1)=if mR l (bE n P) T i=true∧(fo P l (bE n P) T i<0∨ig P i<ig P (fo P l (bE n P) T i).toNat) then (i:Int) else fo P l (bE n P) T i:=rfl
    have DD:=uN i;obtain⟨bi,hbi⟩:=Ch mz cY;have pc:0<p.length:=l9.2 (h.ok.ne p (dz cY));refine aH ?_;refine aS 5 rfl (B7 rfl (by omega) (by rw[bD];exact hbi)) ?_;cases hf:mR l (bE n P) T i with
    |false=>
     rw[hf]at vD gZ;rw[aB (fun h=>by cases h.1)]at gZ;refine .quiet (by kernel_rfl) ?_;refine aN [] (vD _) ?_;exact aM (i+1) (by show P.length-(i+1)<P.length-i;omega) da ⟨rfl,rfl,rfl,rfl,by rw[gZ];rfl,rfl,rfl,rfl,rfl,aI (by omega),trivial⟩ (.refl _)
    |true=>
     rw[hf]at vD gZ;refine .quiet (by kernel_rfl) ?_;refine aN [] (vD _) ?_;refine ai (p:=fo P l (bE n P) T i<0) (fun c1=>?_) (fun c1=>?_)
     ·rw[az ⟨rfl,.inl c1⟩]at gZ;exact aM (i+1) (by show P.length-(i+1)<P.length-i;omega) da ⟨rfl,rfl,rfl,rfl,by rw[gZ];rfl,rfl,rfl,rfl,rfl,aI (by omega),trivial⟩ (.refl _)
     ·obtain⟨b2,e2,l2,_⟩:=DD.resolve_left fun h=>c1 (by rw[h.1];decide);obtain⟨p2,dJ⟩:∃p,P[b2]?=some p:=⟨P[b2],bu (by omega)⟩
      have Uu:P[(fo P l (bE n P) T i).toNat]?=some p2:=by rw[e2,bD];exact dJ
      have ry:0≤fo P l (bE n P) T i:=by omega
      rw[e2,bD,← e2]at gZ;obtain⟨bb,sr⟩:=Ch mz dJ;have hp20:0<p2.length:=l9.2 (h.ok.ne p2 (dz dJ));refine aF.mk ⟨rfl,by decide,by omega⟩ ?_;refine ec.mk (i+6) _ _ (FT hbi) (eZ rfl (by decide) (by omega)) ?_;refine aH ?_;refine aS 5 rfl (B7 rfl (by omega) (by rw[e2,bD];exact sr)) ?_;refine aF.mk ⟨rfl,by decide,by omega⟩ ?_;refine ec.mk (b2+6) _ _ (FT sr) (eZ rfl (by decide) (by omega)) ?_;rw[show p.getD (0:Int).toNat 0=ig P i from PR (bf i p cY),show p2.getD (0:Int).toNat 0=ig P b2 from PR (bf b2 p2 dJ)];refine ai (p:=ig P i<ig P b2) (fun c2=>?_) (fun c2=>?_)
      ·rw[az ⟨rfl,.inr c2⟩]at gZ;exact aM (i+1) (by show P.length-(i+1)<P.length-i;omega) da ⟨rfl,rfl,rfl,rfl,by rw[gZ];rfl,rfl,rfl,rfl,rfl,aI (by omega),trivial⟩ (.refl _)
      ·rw[aB (fun h=>h.2.elim c1 c2)]at gZ;exact aM (i+1) (by show P.length-(i+1)<P.length-i;omega) da ⟨rfl,rfl,rfl,rfl,by rw[gZ];rfl,rfl,rfl,rfl,rfl,aI (by omega),trivial⟩ (.refl _)
   ·have jl:i=P.length:=by omega
    subst jl;refine aa 0 ?_;refine aH ?_;refine bM 3 rfl (tZ rfl true (by omega) (by omega)) ?_;obtain⟨pb,qm⟩:∃p,P[b]?=some p:=⟨P[b],bu rq⟩
    obtain⟨bb,sr⟩:=Ch mz qm;rw[uq qm]at dw;refine aH ?_;refine aS 5 rfl (B7 rfl (by omega) (by rw[hb,bD];exact sr)) ?_;intro bs;refine eS (_::_::_::_::_::_::_::eL rw) bF (.af 0 bs 0 1 _ rfl (cj rfl)) rfl (by omega) (by decide) (by decide) (fun v' aJ h'=>?_);refine aM (k+1,(v',aJ),ro++[(bb,pb)]) (by show P.length-(k+1)<P.length-k;omega) ⟨ab,?_,?_,fun r hr=>?_⟩ ⟨rfl,rfl,rfl,rfl,rfl,aI (by omega),trivial⟩ (.drop 0 1 (aL (by rw[fj,hb,bD];rfl)))
    ·show Acc 1 (k+1) v' aJ (fh (ro++[(bb,pb)]));rw[show fh (ro++[(bb,pb)])=fh ro++[.af bb 0 pb.length 1] from cE];exact h'
    ·show (ro++[(bb,pb)]).map Prod.snd=(dO P l (bE n P) (k+1)).2;rw[dw,cE];rfl
    ·rcases bQ.1 hr with hr | hr
     ·exact lU r hr
     ·rw[bj.1 hr];exact dz sr
  ·have ak:k=P.length:=by omega
   subst ak;have hOI:=(CQ P.length (bg _)).1;have jn:=hOI.ol;have cm:=hOI.nd;rw[← mw]at jn cm;rw[nS]at mw;rw[cN]at jn;have agj:∀r∈ro,r.2≠[]:=fun r hr=>h.ok.ne r.2 (by rw[← mz];exact eW.2 ⟨r,lU r hr,rfl⟩);have af6:ro.Nodup:=OE cm agj;have nH:ro.Perm rw:=Oa af6 lU (by omega);obtain⟨bo,rfl,rfl⟩:=sS (by omega) bF
   have hH:((bo,fh ro)::(eL ro++σ)).Perm (eL rw++([(bo,fh ro)]++σ)):=by
    refine (List.Perm.cons _ (List.Perm.append_right σ (List.Perm.map _ nH))).trans ns.symm
   exact .drop 0 6 (.perm hH (.done ⟨bo,ro,by rw[jn];rfl,mw,rfl,by rw[← mw,← mz];exact List.Perm.map _ nH⟩))
set_option maxHeartbeats 4000000
theorem acP(n:Nat)(l:List aO)(σ:Hp)(hl:l.length≤100000)(ek:eA n l=true):ACalls Tryz.prog 258 [.int .i64 n,.ae cg l] σ (fun r σ'=>∃bo eK,r=.tup [.af bo 0 eK.length 1,.int .i64 0]∧eK.map Prod.snd=gv n l∧σ'=(bo,fh eK)::(eL eK++σ)∧∃P,n0 n l P∧(gv n l).Perm P):=by
 have hn:1≤n∧n≤256:=by
  unfold eA at ek;simp only[bS,decide_eq_true_eq]at ek;omega
 have AM:∀e∈l,(0≤e.1∧e.1<(n:Int))∧0≤e.2.1∧e.2.1<(n:Int):=fun e he=>by
  unfold eA at ek;simp only[bS,fq]at ek;have:=ek.2 e he;exact⟨kA.1 this.1,kA.1 this.2⟩
 refine ao Tryz.func258 ?_;refine dc [] (Cd n l _ (by omega)) (fun _=>?_) (fun c=>absurd c (by rw[ek];decide));refine gn.Gm (S:=Nat×Nat×Nat×Nat) [] (kl [0,2,4] (.alt 1 (.alt 3 (.alt 5 (ca [6,7,8]) (ca [7,5,6,8])) (.alt 5 (.alt 3 (ca [6,7,8]) (ca [7,3,6,8])) (.one 7 false (.alt 3 (ca [5,6,8]) (ca [5,3,6,8]))))) (.alt 3 (.alt 1 (.alt 5 (ca [6,7,8]) (ca [7,5,6,8])) (.alt 5 (.alt 1 (ca [6,7,8]) (ca [7,1,6,8])) (.one 7 false (.alt 1 (ca [5,6,8]) (ca [5,1,6,8]))))) (.alt 5 (.alt 1 (.alt 3 (ca [6,7,8]) (ca [7,3,6,8])) (.alt 3 (.alt 1 (ca [6,7,8]) (ca [7,1,6,8])) (.one 7 false (.alt 1 (ca [3,6,8]) (ca [3,1,6,8]))))) (.one 7 false (.alt 1 (.alt 3 (ca [5,6,8]) (ca [5,3,6,8])) (.alt 3 (.alt 1 (ca [5,6,8]) (ca [5,1,6,8])) (.one 5 false (.alt 1 (ca [3,6,8]) (ca [3,1,6,8])))))))))) (fun x=>[(0,.int .i64 n),(1,.ae cg l),(6,.ptr x.1 0)]) (fun x=>(x.1,[.ag,.af x.2.1 0 n 1,.af x.2.2.1 0 n 1,.af x.2.2.2 0 n 1,.ag,.int .i64 0,.ag])::(x.2.1,cP [.int .i64 0] n)::(x.2.2.1,cP [.int .i64 0] n)::(x.2.2.2,cP [.bool false] n)::σ) (by kernel_rfl) ?_ ?_
 ·refine And.intro ?_ ?_
  ·refine a8 ?_;intro bi;refine And.intro ?_ ?_
   ·refine a8 ?_;intro bl;refine And.intro ?_ ?_
    ·refine a8 ?_;intro bo;intro w;refine ah 0 ?_;exact cX.mk (w,bi,bl,bo) ⟨rfl,rfl,rfl,trivial⟩ (.pull [3,3,2,1] (aL rfl))
    ·intro w;refine a8 ?_;intro bo;refine ah 1 ?_;exact cX.mk (w,bi,bl,bo) ⟨rfl,rfl,rfl,trivial⟩ (.pull [3,3,2,0] (aL rfl))
   ·refine And.intro ?_ ?_
    ·refine a8 ?_;intro bo;refine And.intro ?_ ?_
     ·refine a8 ?_;intro bl;intro w;refine ah 0 ?_;exact cX.mk (w,bi,bl,bo) ⟨rfl,rfl,rfl,trivial⟩ (.pull [3,3,2,2] (aL rfl))
     ·intro w;refine a8 ?_;intro bl;refine ah 1 ?_;exact cX.mk (w,bi,bl,bo) ⟨rfl,rfl,rfl,trivial⟩ (.pull [3,3,1,2] (aL rfl))
    ·intro w;refine And.intro ?_ ?_
     ·refine a8 ?_;intro bl;refine a8 ?_;intro bo;refine ah 2 ?_;exact cX.mk (w,bi,bl,bo) ⟨rfl,rfl,rfl,trivial⟩ (.pull [3,3,1,0] (aL rfl))
     ·refine a8 ?_;intro bo;refine a8 ?_;intro bl;refine ah 2 ?_;exact cX.mk (w,bi,bl,bo) ⟨rfl,rfl,rfl,trivial⟩ (.pull [3,3,1,1] (aL rfl))
  ·refine And.intro ?_ ?_
   ·refine a8 ?_;intro bl;refine And.intro ?_ ?_
    ·refine a8 ?_;intro bi;refine And.intro ?_ ?_
     ·refine a8 ?_;intro bo;intro w;refine ah 0 ?_;exact cX.mk (w,bi,bl,bo) ⟨rfl,rfl,rfl,trivial⟩ (.pull [3,3,3,1] (aL rfl))
     ·intro w;refine a8 ?_;intro bo;refine ah 1 ?_;exact cX.mk (w,bi,bl,bo) ⟨rfl,rfl,rfl,trivial⟩ (.pull [3,3,3,0] (aL rfl))
    ·refine And.intro ?_ ?_
     ·refine a8 ?_;intro bo;refine And.intro ?_ ?_
      ·refine a8 ?_;intro bi;intro w;refine ah 0 ?_;exact cX.mk (w,bi,bl,bo) ⟨rfl,rfl,rfl,trivial⟩ (.pull [3,3,3,2] (aL rfl))
      ·intro w;refine a8 ?_;intro bi;refine ah 1 ?_;exact cX.mk (w,bi,bl,bo) ⟨rfl,rfl,rfl,trivial⟩ (.pull [3,2,3,2] (aL rfl))
     ·intro w;refine And.intro ?_ ?_
      ·refine a8 ?_;intro bi;refine a8 ?_;intro bo;refine ah 2 ?_;exact cX.mk (w,bi,bl,bo) ⟨rfl,rfl,rfl,trivial⟩ (.pull [3,2,3,0] (aL rfl))
      ·refine a8 ?_;intro bo;refine a8 ?_;intro bi;refine ah 2 ?_;exact cX.mk (w,bi,bl,bo) ⟨rfl,rfl,rfl,trivial⟩ (.pull [3,2,3,1] (aL rfl))
   ·refine And.intro ?_ ?_
    ·refine a8 ?_;intro bo;refine And.intro ?_ ?_
     ·refine a8 ?_;intro bi;refine And.intro ?_ ?_
      ·refine a8 ?_;intro bl;intro w;refine ah 0 ?_;exact cX.mk (w,bi,bl,bo) ⟨rfl,rfl,rfl,trivial⟩ (.pull [3,3,2,3] (aL rfl))
      ·intro w;refine a8 ?_;intro bl;refine ah 1 ?_;exact cX.mk (w,bi,bl,bo) ⟨rfl,rfl,rfl,trivial⟩ (.pull [3,3,1,3] (aL rfl))
     ·refine And.intro ?_ ?_
      ·refine a8 ?_;intro bl;refine And.intro ?_ ?_
       ·refine a8 ?_;intro bi;intro w;refine ah 0 ?_;exact cX.mk (w,bi,bl,bo) ⟨rfl,rfl,rfl,trivial⟩ (.pull [3,3,3,3] (aL rfl))
       ·intro w;refine a8 ?_;intro bi;refine ah 1 ?_;exact cX.mk (w,bi,bl,bo) ⟨rfl,rfl,rfl,trivial⟩ (.pull [3,2,3,3] (aL rfl))
      ·intro w;refine And.intro ?_ ?_
       ·refine a8 ?_;intro bi;refine a8 ?_;intro bl;refine ah 2 ?_;exact cX.mk (w,bi,bl,bo) ⟨rfl,rfl,rfl,trivial⟩ (.pull [3,2,1,3] (aL rfl))
       ·refine a8 ?_;intro bl;refine a8 ?_;intro bi;refine ah 2 ?_;exact cX.mk (w,bi,bl,bo) ⟨rfl,rfl,rfl,trivial⟩ (.pull [3,2,2,3] (aL rfl))
    ·intro w;refine And.intro ?_ ?_
     ·refine a8 ?_;intro bi;refine And.intro ?_ ?_
      ·refine a8 ?_;intro bl;refine a8 ?_;intro bo;refine ah 3 ?_;exact cX.mk (w,bi,bl,bo) ⟨rfl,rfl,rfl,trivial⟩ (.pull [3,2,1,0] (aL rfl))
      ·refine a8 ?_;intro bo;refine a8 ?_;intro bl;refine ah 3 ?_;exact cX.mk (w,bi,bl,bo) ⟨rfl,rfl,rfl,trivial⟩ (.pull [3,2,1,1] (aL rfl))
     ·refine And.intro ?_ ?_
      ·refine a8 ?_;intro bl;refine And.intro ?_ ?_
       ·refine a8 ?_;intro bi;refine a8 ?_;intro bo;refine ah 3 ?_;exact cX.mk (w,bi,bl,bo) ⟨rfl,rfl,rfl,trivial⟩ (.pull [3,2,2,0] (aL rfl))
       ·refine a8 ?_;intro bo;refine a8 ?_;intro bi;refine ah 3 ?_;exact cX.mk (w,bi,bl,bo) ⟨rfl,rfl,rfl,trivial⟩ (.pull [3,2,2,1] (aL rfl))
      ·refine a8 ?_;intro bo;refine And.intro ?_ ?_
       ·refine a8 ?_;intro bi;refine a8 ?_;intro bl;refine ah 3 ?_;exact cX.mk (w,bi,bl,bo) ⟨rfl,rfl,rfl,trivial⟩ (.pull [3,2,1,2] (aL rfl))
       ·refine a8 ?_;intro bl;refine a8 ?_;intro bi;refine ah 3 ?_;exact cX.mk (w,bi,bl,bo) ⟨rfl,rfl,rfl,trivial⟩ (.pull [3,2,2,2] (aL rfl))
 rintro⟨w,bi,bl,bo⟩ g;have cz:∀(a:Nat) (σ:Hp),ACalls Tryz.prog 289 [.int .i64 n,.ae cg l,.int .i64 a] σ (ay (.ae (.int .i64) (au n l a)) σ):=fun a σ=>Ab n l a σ hl;have yH:∀k,cD ((List.range (k+1)).map fun a:Nat=>au n l a)=cD ((List.range k).map fun a:Nat=>au n l a)++[.ae (.int .i64) (au n l k)]:=fun k=>by rw[pz,cE];exact cE
 have cQ:∀k,(cD ((List.range k).map fun a:Nat=>au n l a)).length=k:=fun k=>by rw[tX,cN,og]
 refine bc (S:=Nat×AV×Hp) (fun x=>[(0,.int .i64 n),(1,.ae cg l),(6,.ptr w 0),(20,.int .i64 n),(21,.int .i64 x.1)]) (fun x=>(w,[x.2.1,.af bi 0 n 1,.af bl 0 n 1,.af bo 0 n 1,.ag,.int .i64 0,.ag])::(bi,cP [.int .i64 0] n)::(bl,cP [.int .i64 0] n)::(bo,cP [.bool false] n)::(x.2.2++σ)) (fun x=>x.1≤n∧(x.1<n→Acc 1 x.1 x.2.1 x.2.2 (cD ((List.range x.1).map fun a:Nat=>au n l a)))∧(x.1=n→x.2.1=.ae (.slice (.int .i64)) (ck n l)∧x.2.2=[])) (fun x=>n-x.1) (0,.ag,[]) ⟨⟨aV _,fun _=>.nil,fun h=>by have h:0=n:=h;omega⟩,⟨rfl,rfl,rfl,rfl,rfl,trivial⟩,rfl⟩ ?_;rintro⟨k,v,acc⟩ g ⟨aK,fX,Co⟩;have hk:k≤n:=aK;have bF:k<n→Acc 1 k v acc (cD ((List.range k).map fun a:Nat=>au n l a)):=fX;have na:k=n→v=.ae (.slice (.int .i64)) (ck n l)∧acc=[]:=Co;clear aK fX Co;refine ai (p:=(k:Int)<n) (fun ab=>?_) (fun ak=>?_)
 ·have ab:k<n:=by omega
  have bF:=bF ab;clear na;have kR:(ck n l).length=n:=by unfold ck;rw[cN,og]
  have AI:∀k,k+1=n→((cD ((List.range k).map fun a:Nat=>au n l a)++[AV.ae (.int .i64) (au n l k)]).drop 0).take ((k+1)*1)=(ck n l).flatMap (Sh.cells (.slice (.int .i64))):=fun k hk=>by
   rw[← yH,fy,dZ (by rw[cQ,dH];exact bg _),hk];exact ub _
  refine .sched [5] (kl [0,2,3,4] (.one 5 true (.alt 1 (ca [6,7,8,9]) (ca [6,1,7,8,9])))) (by kernel_rfl) ?_;refine aN [] (Ab n l _ _ hl) ?_;refine And.intro ?_ ?_
  ·refine aa 0 ?_;intro ax;refine zd [_,_,_,_,_] bF.wX (.af 0 ax 0 1 _ rfl (cj rfl)) rfl (by omega) (by decide) (by decide) (fun v' aJ h'=>?_);obtain⟨b5,rfl,rfl⟩:=sS (by omega) h';refine ah 1 ?_
   by_cases gF:k+1=n
   ·refine .jZ 5 b5 0 (k+1) 1 _ (.slice (.int .i64)) (ck n l) rfl (AI k gF) ⟨(kR.trans gF.symm),rfl,by decide⟩ 1 0 w _ rfl rfl ?_;exact aM (k+1,.ae (.slice (.int .i64)) (ck n l),[]) (by show n-(k+1)<n-k;omega) ⟨ab,fun h=>absurd gF (by have h:k+1<n:=h;omega),fun _=>⟨rfl,rfl⟩⟩ ⟨rfl,rfl,rfl,rfl,aI (by omega),trivial⟩ (.drop 0 1 (aL rfl))
   ·exact aM (k+1,.af b5 0 (k+1) 1,[(b5,cD ((List.range k).map fun a:Nat=>au n l a)++[.ae (.int .i64) (au n l k)])]) (by show n-(k+1)<n-k;omega) ⟨ab,fun _=>by show Acc 1 (k+1) _ _ (cD ((List.range (k+1)).map fun a:Nat=>au n l a));rw[yH];exact h',fun h=>absurd h gF⟩ ⟨rfl,rfl,rfl,rfl,aI (by omega),trivial⟩ (.drop 0 1 (aL rfl))
  ·intro bX;refine aa 1 ?_;refine zd [_,_,_,_,_] bF.wX (.af 0 bX 0 1 _ rfl (cj rfl)) rfl (by omega) (by decide) (by decide) (fun v' aJ h'=>?_);obtain⟨b5,rfl,rfl⟩:=sS (by omega) h';refine ah 1 ?_
   by_cases gF:k+1=n
   ·refine .jZ 5 b5 0 (k+1) 1 _ (.slice (.int .i64)) (ck n l) rfl (AI k gF) ⟨(kR.trans gF.symm),rfl,by decide⟩ 1 0 w _ rfl rfl ?_;exact aM (k+1,.ae (.slice (.int .i64)) (ck n l),[]) (by show n-(k+1)<n-k;omega) ⟨ab,fun h=>absurd gF (by have h:k+1<n:=h;omega),fun _=>⟨rfl,rfl⟩⟩ ⟨rfl,rfl,rfl,rfl,aI (by omega),trivial⟩ (.drop 0 1 (aL rfl))
   ·exact aM (k+1,.af b5 0 (k+1) 1,[(b5,cD ((List.range k).map fun a:Nat=>au n l a)++[.ae (.int .i64) (au n l k)])]) (by show n-(k+1)<n-k;omega) ⟨ab,fun _=>by show Acc 1 (k+1) _ _ (cD ((List.range (k+1)).map fun a:Nat=>au n l a));rw[yH];exact h',fun h=>absurd h gF⟩ ⟨rfl,rfl,rfl,rfl,aI (by omega),trivial⟩ (.drop 0 1 (aL rfl))
 ·have ak:k=n:=by omega
  obtain⟨rfl,rfl⟩:=na ak;clear bF na;refine bc (S:=Nat×(List Int×List Int×List Bool×Nat×List (List Int))×(AV×Hp×AV×Hp)) (fun x=>[(0,.int .i64 n),(1,.ae cg l),(6,.ptr w 0),(34,.int .i64 n),(35,.int .i64 x.1)]) (fun x=>(w,dA (ck n l) bi bl bo n x.2.2.1 x.2.1.2.2.2.1 x.2.2.2.2.1)::(bi,aj x.2.1.1)::(bl,aj x.2.1.2.1)::(bo,bG x.2.1.2.2.1)::(x.2.2.2.1++(x.2.2.2.2.2++σ))) (fun x=>x.1≤n∧FI n (au n l) x.2.1.1 x.2.1.2.1 x.2.1.2.2.1 [] x.2.1.2.2.2.1 x.2.1.2.2.2.2 []∧iv 1 0 x.2.2.1 x.2.2.2.1 []∧PO x.2.1.2.2.2.2 x.2.2.2.2.1 x.2.2.2.2.2∧∀b:Nat,b<x.1→x.2.1.1.getD b 0≠0) (fun x=>n-x.1) (0,(List.replicate n 0,List.replicate n 0,List.replicate n false,0,[]),(.ag,[],.ag,[])) ⟨⟨aV _,.start n (au n l),.nil,⟨[],[],rfl,.nil,rfl⟩,fun _ h=>absurd h (vH _)⟩,⟨rfl,rfl,rfl,rfl,rfl,trivial⟩,by rw[ua,zu];rfl⟩ ?_;clear ak;rintro⟨k,⟨ix,lo,on,aR,P⟩,⟨vs,lh,vp,eJ⟩⟩ g2 ⟨aK,pj,oc,pc,oa⟩;have hk:k≤n:=aK;have hF:FI n (au n l) ix lo on [] aR P []:=pj;have hs:iv 1 0 vs lh []:=oc;have hp:PO P vp eJ:=pc;have hv:∀b:Nat,b<k→ix.getD b 0≠0:=oa;clear aK pj oc pc oa;have Du:((k:Nat):Int).toNat=k:=bD k;refine ai (p:=(k:Int)<n) (fun ab=>?_) (fun ak=>?_)
  ·have ab:k<n:=by omega
   refine aa 0 ?_;refine aH ?_;refine aS 1 rfl (eZ rfl (by omega) (by rw[hF.li];omega)) ?_;refine ai (p:=ix.getD ((k:Nat):Int).toNat 0=0) (fun c1=>?_) (fun c1=>?_)
   ·refine .mk [] _ (aeE n w bi bl bo l ix lo on aR P vs vp lh eJ k σ (by omega) hF (by omega) c1 hs hp) ?_;rintro _ _ ⟨rfl,LR,LQ,LO,Lw,P2,G9,KX,LH,KZ,MN,dw,dJ,nq,rf,rfl⟩;rw[Du]at nq;refine aM (k+1,(LR,LQ,LO,Lw,P2),(G9,KX,LH,KZ)) (by show n-(k+1)<n-k;omega) ⟨ab,MN,dw,dJ,fun b hb=>?_⟩ ⟨rfl,rfl,rfl,rfl,aI (by omega),trivial⟩ (.refl _);have hb:b<k+1:=hb
    by_cases e:b=k
    ·subst e;exact nq
    ·exact rf b (hv b (by omega))
   ·rw[Du]at c1;refine aM (k+1,(ix,lo,on,aR,P),(vs,lh,vp,eJ)) (by show n-(k+1)<n-k;omega) ⟨ab,hF,hs,hp,fun b hb=>?_⟩ ⟨rfl,rfl,rfl,rfl,aI (by omega),trivial⟩ (.refl _);have hb:b<k+1:=hb
    by_cases e:b=k
    ·subst e;exact c1
    ·exact hv b (by omega)
  ·have ak:k=n:=by omega
   subst ak
   have bh:n0 k l P:=⟨hF.tj.prt,fun x h0 h1=>by
    have h2:=hv x.toNat (by omega);have h3:=(hF.tj.wV x h0 h1).1 (by rw[lP h0];exact h2)
    exact h3.resolve_left (by simp)⟩
   have DJ:=Bv hF.tj.prt;refine aa 0 ?_;obtain⟨x,hx,_⟩:=bh.all 0 (by omega) (by omega);have tH:=Ba hx;obtain⟨ac,rw,rfl,Mx,mz⟩:=hp;have rb:rw.length=P.length:=by rw[← mz,cN]
   obtain⟨b5,rfl,rfl⟩:=sS (by omega) Mx;have hO:=fun τ=>Zb k l P rw b5 τ bh mz tH hl (by omega) AM;rw[← rb]at hO
   rcases hs.zero with ⟨rfl,rfl⟩ | ⟨bs,J,rfl,rfl⟩
   ·refine .perm _ (we [_,_,_,_] ((b5,fh rw)::eL rw) σ) (hO _) ?_;rintro _ _ ⟨Ek,eK,rfl,mw,rfl,w9⟩;exact⟨_,(we [_,_,_,_] ((Ek,fh eK)::eL eK) σ).symm,.drop 0 4 (.done ⟨Ek,eK,rfl,mw,rfl,P,bh,w9⟩)⟩
   ·refine .perm _ (we [_,_,_,_,_] ((b5,fh rw)::eL rw) σ) (hO _) ?_;rintro _ _ ⟨Ek,eK,rfl,mw,rfl,w9⟩;exact⟨_,(we [_,_,_,_,_] ((Ek,fh eK)::eL eK) σ).symm,.drop 0 5 (.done ⟨Ek,eK,rfl,mw,rfl,P,bh,w9⟩)⟩
end Go.Proofs.YtnikdflhefijbaaGreat
