import Derived.Test.YtnikdflhefijbaaGreatBq16
import Derived.Test.YtnikdflhefijbaaGreatBq15
namespace Go.Proofs.YtnikdflhefijbaaGreat
open Go.RowKit
set_option maxRecDepth 100000
theorem iT.zero{e:Nat}{v:AV}{acc:Hp}{cs:List AV}(h:iT e 0 v acc cs):(v=.an∧acc=[])∨∃b J,v=.ae b 0 0 e∧acc=[(b,J)]:=by
 generalize hz:(0:Nat)=z at h;cases h with
 |nil=>exact .inl ⟨rfl,rfl⟩
 |ae b k cs J h=>subst hz;exact .inr ⟨b,_,rfl,rfl⟩
def yg(W:List Int)(T:List Bool)(i:Int)(x:bE):Bool:=decide (W.getD x.2.1.toNat 0=i)&&decide (W.getD x.1.toNat 0≠i)&&!T.getD (W.getD x.1.toNat 0).toNat false
theorem ahJ(bW bw bI bT bt n m:Nat)(W:List Int)(T:List Bool)(i:Int)(x:bE)(σ:Hp)(h1:0≤x.1∧x.1<n)(h2:0≤x.2.1∧x.2.1<n)(hW:W.length=n)(hT:T.length=m)(hr:0≤W.getD x.1.toNat 0∧W.getD x.1.toNat 0<m):
  ACalls Tryz.prog 317 (BY x::[.ptr bW 0,.ptr bI 0,.ptr bT 0]) ((bI,[.int .i64 i])::(bT,[.ae bt 0 m 1])::(bW,[.ae bw 0 n 1])::(bw,ai W)::(bt,bN T)::σ) (aC (.bool (yg W T i x)) ((bI,[.int .i64 i])::(bT,[.ae bt 0 m 1])::(bW,[.ae bw 0 n 1])::(bw,ai W)::(bt,bN T)::σ)):=by
 obtain⟨x1,x2,xu⟩:=x;have h1:0≤x1∧x1<n:=h1;have h2:0≤x2∧x2<n:=h2;have hr:0≤W.getD x1.toNat 0∧W.getD x1.toNat 0<m:=hr;refine ay Tryz.func317 ?_;intro bx;refine .quiet (by kernel_rfl) ?_;refine aa 3 ?_;refine aa 0 ?_;refine aO ?_;refine aW 4 rfl (fy rfl h2.1 (by omega)) ?_;refine aa 1 ?_;refine ao (fun c1=>?_) (fun c1=>?_)
 ·have c1:W.getD x2.toNat 0=i:=c1;refine aa 3 ?_;refine aa 0 ?_;refine aO ?_;refine aW 4 rfl (fy rfl h1.1 (by omega)) ?_;refine aa 1 ?_;refine dX (fun c2=>?_) (fun c2=>?_)
  ·have c2:¬(W.getD x1.toNat 0=i):=by simpa using c2
   refine aa 2 ?_;refine aa 3 ?_;refine aa 0 ?_;refine aO ?_
   have hL:∀b,T.getD (W.getD x1.toNat 0).toNat false=b→yg W T i (x1,x2,xu) = !b:=fun b hb=>by
    unfold yg;rw[bu (show W.getD x2.toNat 0=i from c1),bu (show W.getD x1.toNat 0≠i from c2)];show (true&&true&&!T.getD (W.getD x1.toNat 0).toNat false)=_;rw[hb];rfl
   refine aW 4 rfl (fy rfl h1.1 (by omega)) ?_;refine aO ?_;refine fg.kZ 5 _ _ rfl (ua rfl hr.1 (by omega)) (fun c3=>?_) (fun c3=>?_)
   ·exact .drop 0 1 (.done ⟨cY (hL true c3).symm,rfl⟩)
   ·exact .drop 0 1 (.done ⟨cY (hL false c3).symm,rfl⟩)
  ·have c2:W.getD x1.toNat 0=i:=by simpa using c2
   refine .drop 0 1 (.done ⟨cY ?_,rfl⟩);unfold yg;rw[cf (show ¬(W.getD x1.toNat 0≠i) from fun h=>h c2),KG];rfl
 ·have c1:¬(W.getD x2.toNat 0=i):=c1;refine .drop 0 1 (.done ⟨cY ?_,rfl⟩);unfold yg;rw[cf (show ¬(W.getD x2.toNat 0=i) from c1)];rfl
theorem XB(bW bw bl bT bt n m:Nat)(l:List bE)(W:List Int)(T:List Bool)(i:Int)(σ:Hp)(hl:l.length≤100000)(hi:0≤i∧i<m)(hr:∀e∈l,(0≤e.1∧e.1<(n:Int))∧0≤e.2.1∧e.2.1<(n:Int))(hW:W.length=n)(hT:T.length=m)(hw:∀k:Nat,k<n→0≤W.getD k 0∧W.getD k 0<m):
  ACalls Tryz.prog 316 [.int .i64 i,.ptr bT 0,.ptr bl 0,.ptr bW 0] ((bT,[.ae bt 0 m 1])::(bW,[.ae bw 0 n 1])::(bw,ai W)::(bt,bN T)::(bl,[.ah dO l])::σ) (aC (.bool (nY l W T i)) ((bT,[.ae bt 0 m 1])::(bW,[.ae bw 0 n 1])::(bw,ai W)::(bt,bN T)::(bl,[.ah dO l])::σ)):=by
 have hF:∀b,T.getD i.toNat false=b→nY l W T i=(!b&&!l.any (yg W T i)):=fun b hb=>by unfold nY;rw[hb];rfl
 refine ay Tryz.func316 ?_;intro bI;refine aa 1 ?_;refine aa 0 ?_;refine aO ?_;refine fg.kZ 4 _ _ rfl (ua rfl hi.1 (by omega)) (fun c1=>?_) (fun c1=>?_)
 ·exact .drop 0 1 (.done ⟨cY (hF true c1).symm,rfl⟩)
 ·refine aa 5 ?_
  have hg:∀(k:Nat) (hk:k<l.length),ACalls Tryz.prog 317 (BY l[k]::[.ptr bW 0,.ptr bI 0,.ptr bT 0]) ((bI,[.int .i64 i])::(bT,[.ae bt 0 m 1])::(bW,[.ae bw 0 n 1])::(bw,ai W)::(bt,bN T)::(bl,[.ah dO l])::σ) (aC (.bool (yg W T i l[k])) ((bI,[.int .i64 i])::(bT,[.ae bt 0 m 1])::(bW,[.ae bw 0 n 1])::(bw,ai W)::(bt,bN T)::(bl,[.ah dO l])::σ)):=fun k hk=>by
   obtain⟨h1,h2⟩:=hr _ (cq hk);exact ahJ bW bw bI bT bt n m W T i l[k] _ h1 h2 hW hT (hw _ (by omega))
  refine ax [] (Rp 317 _ l (yg W T i) _ (ff hl (by decide)) hg) ?_;exact .drop 0 1 (.done ⟨cY (hF false c1).symm,rfl⟩)
theorem zt:∀n:Nat,cI [.int .i64 0] n=ai (List.replicate n 0)
 | 0=>rfl
 |n+1=>by
  show [AV.int .i64 0]++cI [.int .i64 0] n=_;rw[zt n];rfl
theorem UZ(n:Nat)(l:List bE)(P:List (List Int))(σ:Hp)(h:px n l P)(hl:l.length≤100000)(hn:n≤1000)(hr:∀e∈l,(0≤e.1∧e.1<(n:Int))∧0≤e.2.1∧e.2.1<(n:Int)):
  ACalls Tryz.prog 291 [.int .i64 n,.ah dO l,.ah (.slice (.int .i64)) P] σ (aC (.ah (.slice (.int .i64)) (kG n l)) σ):=by
 obtain⟨tG,hpf⟩:=DA h.ok;have hNt:((n:Nat):Int).toNat=n:=bG n;refine ay Tryz.func291 ?_;intro bl;refine bf ?_;intro bw;intro bW;refine aj 0 ?_;refine ca (S:=Nat) (fun k=>[(2,.ah (.slice (.int .i64)) P),(4,.ptr bl 0),(7,.ptr bW 0),(20,.ah (.slice (.int .i64)) P),(21,.int .i64 P.length),(22,.int .i64 k)]) (fun k=>(bW,[.ae bw 0 n 1])::(bw,ai (nu P k (List.replicate n 0)))::(bl,[.ah dO l])::σ) (fun k=>k≤P.length) (fun k=>P.length-k) 0 ⟨bC _,⟨rfl,rfl,rfl,rfl,rfl,rfl,trivial⟩,by rw[show ai (nu P 0 (List.replicate n 0))=cI [.int .i64 0] n from (zt n).symm];rfl⟩ ?_;intro k g aP;have hk:k≤P.length:=aP;clear aP;refine ao (p:=(k:Int)<P.length) (fun ab=>?_) (fun au=>?_)
 ·have ab:k<P.length:=by omega
  obtain⟨p,hp⟩:∃p,P[k]=p:=⟨_,rfl⟩
  have fp:P[k]?=some p:=(bB ab).trans (congrArg some hp);have tF:=h.ok.node p (bU fp);have aje:p.length≤n:=DD n p ((h.ok.Cq p (bU fp)).imp fun h=>by omega) tF;have sG:=Di P k (List.replicate n 0);rw[fQ]at sG;have sx:nu P (k+1) (List.replicate n 0)=lN k p (nu P k (List.replicate n 0)):=by show lN k (P.getD k []) _=_;rw[wh fp]
  generalize nu P k (List.replicate n 0)=W at sG sx;refine aJ.mk rfl (bO.mk p (by omega) (show P[((k:Nat):Int).toNat]?=some p by rw[bG];exact fp) ?_);refine ca (S:=Nat) (fun j=>[(2,.ah (.slice (.int .i64)) P),(4,.ptr bl 0),(7,.ptr bW 0),(8,.int .i64 k),(20,.ah (.slice (.int .i64)) P),(21,.int .i64 P.length),(22,.int .i64 k),(27,.ah (.int .i64) p),(28,.int .i64 p.length),(29,.int .i64 j)]) (fun j=>(bW,[.ae bw 0 n 1])::(bw,ai (lN k (p.take j) W))::(bl,[.ah dO l])::σ) (fun j=>j≤p.length) (fun j=>p.length-j) 0 ⟨bC _,⟨rfl,rfl,rfl,rfl,rfl,rfl,rfl,rfl,rfl,rfl,trivial⟩,rfl⟩ ?_;intro j g2 qy;have hj:j≤p.length:=qy;clear qy;refine ao (p:=(j:Int)<p.length) (fun dE=>?_) (fun jF=>?_)
  ·have dE:j<p.length:=by omega
   obtain⟨a,ha⟩:∃a,p[j]=a:=⟨_,rfl⟩
   have tK:=tF a (ha▸cq dE);have aq:(lN k (p.take j) W).set a.toNat k=lN k (p.take (j+1)) W:=by unfold lN;rw[ft dE,ha,sK];rfl
   have pA:=Hb k (p.take j) W;refine aJ.mk rfl (bO.mk a (by omega) ((get_some dE).trans (congrArg some ha)) ?_);refine aa 0 ?_;refine aO ?_;refine cU 1 rfl (nU rfl _ tK.1 (by omega)) ?_;exact a8 (j+1) (by show p.length-(j+1)<p.length-j;omega) dE ⟨rfl,rfl,rfl,rfl,rfl,rfl,rfl,rfl,rfl,aX (by omega),trivial⟩ (aL (by rw[← aq];rfl))
  ·have jF:j=p.length:=by omega
   subst jF;exact a8 (k+1) (by show P.length-(k+1)<P.length-k;omega) ab ⟨rfl,rfl,rfl,rfl,rfl,aX (by omega),trivial⟩ (aL (by rw[ga,sx]))
 ·have au:k=P.length:=by omega
  subst au
  have PQ:∀j:Nat,j<n→0≤(bF n P).getD j 0∧(bF n P).getD j 0<(P.length:Int):=fun j hj=>by
   obtain⟨i,p,hi,_,hw⟩:=h.idx (x:=(j:Int)) (by omega);rw[bG]at hw;have:=zn hi;rw[hw];omega
  have sG:=Rt n P;have Fm:=fun k hk=>(Ik h hr k hk)
  have yB:=Nt h hr
  have aS:∀(i:Nat) (p:List Int),P[i]?=some p→p[((0:Int)).toNat]?=some (iP P i):=fun i p hi=>by
   unfold iP;rw[wh hi];exact VC (mX.2 (h.ok.ne p (bU hi)))
  rw[show nu P P.length (List.replicate n 0)=bF n P from rfl];refine aJ.mk ⟨by omega,by omega,by show ((P.length:Nat):Int)≤1048576;omega,by decide⟩ ?_;intro bt;intro bT;refine aj 0 ?_;obtain⟨m,hm⟩:∃m,P.length=m:=⟨_,rfl⟩
  refine .wrap 14 _ rfl rfl ?_;refine .eb (.pull [0,2,3,3] (.refl _)) ?_;refine ca (S:=Nat×AV×Hp) (fun x=>[(2,.ah (.slice (.int .i64)) P),(12,.ptr bT 0),(13,.fn (.func 316) [] [.ptr bT 0,.ptr bl 0,.ptr bW 0]),(14,.via x.2.1),(44,.int .i64 P.length),(45,.int .i64 x.1)]) (fun x=>(bT,[.ae bt 0 P.length 1])::(bW,[.ae bw 0 n 1])::(bw,ai (bF n P))::(bt,bN (dL P l (bF n P) x.1).1)::(bl,[.ah dO l])::(x.2.2++σ)) (fun x=>x.1≤P.length∧Acc 1 x.1 x.2.1 x.2.2 (cE (dL P l (bF n P) x.1).2)) (fun x=>P.length-x.1) (0,.an,[]) ⟨⟨bC _,.nil⟩,⟨rfl,rfl,rfl,rfl,rfl,rfl,trivial⟩,by rw[show bN (dL P l (bF n P) 0).1=cI [.bool false] P.length from (Ea P.length).symm];rfl⟩ ?_;rintro⟨k,v,acc⟩ g2 ⟨aP,ig⟩;have hk:k≤P.length:=aP;have cj:Acc 1 k v acc (cE (dL P l (bF n P) k).2):=ig;clear aP ig;refine ao (p:=(k:Int)<P.length) (fun ab=>?_) (fun au=>?_)
  ·have ab:k<P.length:=by omega
   obtain⟨hO,zW,_⟩:=Fm k hk;obtain⟨b,hb,pF⟩:=zW ab;have Gk:=hO.tl
   have fD:(dL P l (bF n P) (k+1)).1=(dL P l (bF n P) k).1.set b true:=by
    show (dL P l (bF n P) k).1.set (fI P l (bF n P) (dL P l (bF n P) k).1 P.length).toNat true=_;rw[hb,bG]
   have gQ:(dL P l (bF n P) (k+1)).2=(dL P l (bF n P) k).2++[P.getD b []]:=by
    show (dL P l (bF n P) k).2++[P.getD (fI P l (bF n P) (dL P l (bF n P) k).1 P.length).toNat []]=_;rw[hb,bG]
   generalize (dL P l (bF n P) k).1=T at hb Gk fD;generalize (dL P l (bF n P) k).2=out at cj gQ;clear hO zW;have OL:=Hm P l (bF n P) T;refine ca (S:=Nat) (fun i=>[(2,.ah (.slice (.int .i64)) P),(12,.ptr bT 0),(13,.fn (.func 316) [] [.ptr bT 0,.ptr bl 0,.ptr bW 0]),(14,.via v),(15,.int .i64 (fI P l (bF n P) T i)),(44,.int .i64 P.length),(45,.int .i64 k),(47,.ah (.slice (.int .i64)) P),(48,.int .i64 P.length),(49,.int .i64 i)]) (fun _=>(bT,[.ae bt 0 P.length 1])::(bW,[.ae bw 0 n 1])::(bw,ai (bF n P))::(bt,bN T)::(bl,[.ah dO l])::(acc++σ)) (fun i=>i≤P.length) (fun i=>P.length-i) 0 ⟨bC _,⟨rfl,rfl,rfl,rfl,rfl,rfl,rfl,rfl,rfl,rfl,trivial⟩,rfl⟩ ?_;intro i g3 fE;have hi:i≤P.length:=fE;clear fE;refine ao (p:=(i:Int)<P.length) (fun dE=>?_) (fun jF=>?_)
   ·have dE:i<P.length:=by omega
    obtain⟨p,hp⟩:∃p,P[i]=p:=⟨_,rfl⟩
    have fp:P[i]?=some p:=(bB dE).trans (congrArg some hp);have xo:=fun ρ=>XB bW bw bl bT bt n P.length l (bF n P) T i ρ hl (by omega) hr sG Gk PQ;have eX:fI P l (bF n P) T (i+1)=if nY l (bF n P) T i=true∧(fI P l (bF n P) T i<0∨iP P i<iP P (fI P l (bF n P) T i).toNat) then (i:Int) else fI P l (bF n P) T i:=rfl
    have Gj:=OL i;refine aJ.mk rfl (bO.mk p (by omega) (show P[((i:Nat):Int).toNat]?=some p by rw[bG];exact fp) ?_);cases hf:nY l (bF n P) T i with
    |false=>
     rw[hf]at xo eX;rw[ag (fun h=>by cases h.1)]at eX;refine .quiet (by kernel_rfl) ?_;refine aK [] (xo _) ?_;exact a8 (i+1) (by show P.length-(i+1)<P.length-i;omega) dE ⟨rfl,rfl,rfl,rfl,by rw[eX];rfl,rfl,rfl,rfl,rfl,aX (by omega),trivial⟩ (.refl _)
    |true=>
     rw[hf]at xo eX;refine .quiet (by kernel_rfl) ?_;refine aK [] (xo _) ?_;refine ao (p:=fI P l (bF n P) T i<0) (fun c1=>?_) (fun c1=>?_)
     ·rw[af ⟨rfl,.inl c1⟩]at eX;exact a8 (i+1) (by show P.length-(i+1)<P.length-i;omega) dE ⟨rfl,rfl,rfl,rfl,by rw[eX];rfl,rfl,rfl,rfl,rfl,aX (by omega),trivial⟩ (.refl _)
     ·obtain⟨b2,e2,l2,_⟩:=Gj.resolve_left fun h=>c1 (by rw[h.1];decide);obtain⟨p2,dH⟩:∃p,P[b2]?=some p:=⟨P[b2],bB (by omega)⟩
      have XZ:P[(fI P l (bF n P) T i).toNat]?=some p2:=by rw[e2,bG];exact dH
      have Kv:0≤fI P l (bF n P) T i:=by omega
      rw[e2,bG,← e2]at eX;refine aJ.mk rfl ?_;refine bO.mk (iP P i) (by decide) (aS i p fp) ?_;refine aJ.mk rfl ?_;refine bO.mk p2 Kv XZ ?_;refine aJ.mk rfl ?_;refine bO.mk (iP P b2) (by decide) (aS b2 p2 dH) ?_;refine ao (p:=iP P i<iP P b2) (fun c2=>?_) (fun c2=>?_)
      ·rw[af ⟨rfl,.inr c2⟩]at eX;exact a8 (i+1) (by show P.length-(i+1)<P.length-i;omega) dE ⟨rfl,rfl,rfl,rfl,by rw[eX];rfl,rfl,rfl,rfl,rfl,aX (by omega),trivial⟩ (.refl _)
      ·rw[ag (fun h=>h.2.elim c1 c2)]at eX;exact a8 (i+1) (by show P.length-(i+1)<P.length-i;omega) dE ⟨rfl,rfl,rfl,rfl,by rw[eX];rfl,rfl,rfl,rfl,rfl,aX (by omega),trivial⟩ (.refl _)
   ·have jF:i=P.length:=by omega
    subst jF;refine aa 0 ?_;refine aO ?_;refine cU 3 rfl (zr rfl true (by omega) (by omega)) ?_;refine aJ.mk rfl ?_;obtain⟨pb,rJ⟩:∃p,P[b]?=some p:=⟨P[b],bB pF⟩
    have ajf:P[(fI P l (bF n P) T P.length).toNat]?=some pb:=by rw[hb,bG];exact rJ
    rw[wh rJ]at gQ;refine bO.mk pb (by omega) ajf ?_;intro bs;refine iC [_,_,_,_,_,_] cj (.ae 0 bs 0 1 _ rfl (cy rfl)) rfl (by omega) (by decide) (by decide) (fun v' aY h'=>?_);refine a8 (k+1,v',aY) (by show P.length-(k+1)<P.length-k;omega) ⟨ab,?_⟩ ⟨rfl,rfl,rfl,rfl,rfl,aX (by omega),trivial⟩ (.drop 0 1 (aL (by rw[fD,hb,bG];rfl)));show Acc 1 (k+1) v' aY (cE (dL P l (bF n P) (k+1)).2);rw[gQ,show cE (out++[pb])=cE out++[.ah (.int .i64) pb] from cF];exact h'
  ·have au:k=P.length:=by omega
   subst au;rw[yB]at cj;have oE:=(Fm P.length (aQ _)).1.ol;rw[yB]at oE;exact rX (s:=.slice (.int .i64)) [_,_,_,_,_] cj oE.symm (xT _) (by decide) (.drop 0 5 (.done ⟨rfl,rfl⟩))
theorem aga(n:Nat)(l:List bE)(σ:Hp)(hl:l.length≤100000)(ey:fL n l=true):ACalls Tryz.prog 258 [.int .i64 n,.ah dO l] σ (fun r σ'=>r=.tup [.ah (.slice (.int .i64)) (kG n l),.int .i64 0]∧σ'=σ∧∃P,px n l P):=by
 have hn:1≤n∧n≤256:=by
  unfold fL at ey;simp only[bS,decide_eq_true_eq]at ey;omega
 have CL:∀e∈l,(0≤e.1∧e.1<(n:Int))∧0≤e.2.1∧e.2.1<(n:Int):=fun e he=>by
  unfold fL at ey;simp only[bS,fG]at ey;have:=ey.2 e he;exact⟨lB.1 this.1,lB.1 this.2⟩
 refine ay Tryz.func258 ?_;refine eY [] (EC n l _ (by omega)) (fun _=>?_) (fun c=>absurd c (by rw[ey];decide));refine gZ.NX (S:=Nat×Nat×Nat×Nat) [] (ru [0,2,4] (.alt 1 (.alt 3 (.alt 5 (cJ [6,7,8]) (cJ [7,5,6,8])) (.alt 5 (.alt 3 (cJ [6,7,8]) (cJ [7,3,6,8])) (.one 7 false (.alt 3 (cJ [5,6,8]) (cJ [5,3,6,8]))))) (.alt 3 (.alt 1 (.alt 5 (cJ [6,7,8]) (cJ [7,5,6,8])) (.alt 5 (.alt 1 (cJ [6,7,8]) (cJ [7,1,6,8])) (.one 7 false (.alt 1 (cJ [5,6,8]) (cJ [5,1,6,8]))))) (.alt 5 (.alt 1 (.alt 3 (cJ [6,7,8]) (cJ [7,3,6,8])) (.alt 3 (.alt 1 (cJ [6,7,8]) (cJ [7,1,6,8])) (.one 7 false (.alt 1 (cJ [3,6,8]) (cJ [3,1,6,8]))))) (.one 7 false (.alt 1 (.alt 3 (cJ [5,6,8]) (cJ [5,3,6,8])) (.alt 3 (.alt 1 (cJ [5,6,8]) (cJ [5,1,6,8])) (.one 5 false (.alt 1 (cJ [3,6,8]) (cJ [3,1,6,8])))))))))) (fun x=>[(0,.int .i64 n),(1,.ah dO l),(6,.ptr x.1 0)]) (fun x=>(x.1,[.an,.ae x.2.1 0 n 1,.ae x.2.2.1 0 n 1,.ae x.2.2.2 0 n 1,.an,.int .i64 0,.an])::(x.2.1,cI [.int .i64 0] n)::(x.2.2.1,cI [.int .i64 0] n)::(x.2.2.2,cI [.bool false] n)::σ) (by kernel_rfl) ?_ ?_
 ·refine And.intro ?_ ?_
  ·refine bf ?_;intro bi;refine And.intro ?_ ?_
   ·refine bf ?_;intro bl;refine And.intro ?_ ?_
    ·refine bf ?_;intro bo;intro w;refine aj 0 ?_;exact dh.mk (w,bi,bl,bo) ⟨rfl,rfl,rfl,trivial⟩ (.pull [3,3,2,1] (aL rfl))
    ·intro w;refine bf ?_;intro bo;refine aj 1 ?_;exact dh.mk (w,bi,bl,bo) ⟨rfl,rfl,rfl,trivial⟩ (.pull [3,3,2,0] (aL rfl))
   ·refine And.intro ?_ ?_
    ·refine bf ?_;intro bo;refine And.intro ?_ ?_
     ·refine bf ?_;intro bl;intro w;refine aj 0 ?_;exact dh.mk (w,bi,bl,bo) ⟨rfl,rfl,rfl,trivial⟩ (.pull [3,3,2,2] (aL rfl))
     ·intro w;refine bf ?_;intro bl;refine aj 1 ?_;exact dh.mk (w,bi,bl,bo) ⟨rfl,rfl,rfl,trivial⟩ (.pull [3,3,1,2] (aL rfl))
    ·intro w;refine And.intro ?_ ?_
     ·refine bf ?_;intro bl;refine bf ?_;intro bo;refine aj 2 ?_;exact dh.mk (w,bi,bl,bo) ⟨rfl,rfl,rfl,trivial⟩ (.pull [3,3,1,0] (aL rfl))
     ·refine bf ?_;intro bo;refine bf ?_;intro bl;refine aj 2 ?_;exact dh.mk (w,bi,bl,bo) ⟨rfl,rfl,rfl,trivial⟩ (.pull [3,3,1,1] (aL rfl))
  ·refine And.intro ?_ ?_
   ·refine bf ?_;intro bl;refine And.intro ?_ ?_
    ·refine bf ?_;intro bi;refine And.intro ?_ ?_
     ·refine bf ?_;intro bo;intro w;refine aj 0 ?_;exact dh.mk (w,bi,bl,bo) ⟨rfl,rfl,rfl,trivial⟩ (.pull [3,3,3,1] (aL rfl))
     ·intro w;refine bf ?_;intro bo;refine aj 1 ?_;exact dh.mk (w,bi,bl,bo) ⟨rfl,rfl,rfl,trivial⟩ (.pull [3,3,3,0] (aL rfl))
    ·refine And.intro ?_ ?_
     ·refine bf ?_;intro bo;refine And.intro ?_ ?_
      ·refine bf ?_;intro bi;intro w;refine aj 0 ?_;exact dh.mk (w,bi,bl,bo) ⟨rfl,rfl,rfl,trivial⟩ (.pull [3,3,3,2] (aL rfl))
      ·intro w;refine bf ?_;intro bi;refine aj 1 ?_;exact dh.mk (w,bi,bl,bo) ⟨rfl,rfl,rfl,trivial⟩ (.pull [3,2,3,2] (aL rfl))
     ·intro w;refine And.intro ?_ ?_
      ·refine bf ?_;intro bi;refine bf ?_;intro bo;refine aj 2 ?_;exact dh.mk (w,bi,bl,bo) ⟨rfl,rfl,rfl,trivial⟩ (.pull [3,2,3,0] (aL rfl))
      ·refine bf ?_;intro bo;refine bf ?_;intro bi;refine aj 2 ?_;exact dh.mk (w,bi,bl,bo) ⟨rfl,rfl,rfl,trivial⟩ (.pull [3,2,3,1] (aL rfl))
   ·refine And.intro ?_ ?_
    ·refine bf ?_;intro bo;refine And.intro ?_ ?_
     ·refine bf ?_;intro bi;refine And.intro ?_ ?_
      ·refine bf ?_;intro bl;intro w;refine aj 0 ?_;exact dh.mk (w,bi,bl,bo) ⟨rfl,rfl,rfl,trivial⟩ (.pull [3,3,2,3] (aL rfl))
      ·intro w;refine bf ?_;intro bl;refine aj 1 ?_;exact dh.mk (w,bi,bl,bo) ⟨rfl,rfl,rfl,trivial⟩ (.pull [3,3,1,3] (aL rfl))
     ·refine And.intro ?_ ?_
      ·refine bf ?_;intro bl;refine And.intro ?_ ?_
       ·refine bf ?_;intro bi;intro w;refine aj 0 ?_;exact dh.mk (w,bi,bl,bo) ⟨rfl,rfl,rfl,trivial⟩ (.pull [3,3,3,3] (aL rfl))
       ·intro w;refine bf ?_;intro bi;refine aj 1 ?_;exact dh.mk (w,bi,bl,bo) ⟨rfl,rfl,rfl,trivial⟩ (.pull [3,2,3,3] (aL rfl))
      ·intro w;refine And.intro ?_ ?_
       ·refine bf ?_;intro bi;refine bf ?_;intro bl;refine aj 2 ?_;exact dh.mk (w,bi,bl,bo) ⟨rfl,rfl,rfl,trivial⟩ (.pull [3,2,1,3] (aL rfl))
       ·refine bf ?_;intro bl;refine bf ?_;intro bi;refine aj 2 ?_;exact dh.mk (w,bi,bl,bo) ⟨rfl,rfl,rfl,trivial⟩ (.pull [3,2,2,3] (aL rfl))
    ·intro w;refine And.intro ?_ ?_
     ·refine bf ?_;intro bi;refine And.intro ?_ ?_
      ·refine bf ?_;intro bl;refine bf ?_;intro bo;refine aj 3 ?_;exact dh.mk (w,bi,bl,bo) ⟨rfl,rfl,rfl,trivial⟩ (.pull [3,2,1,0] (aL rfl))
      ·refine bf ?_;intro bo;refine bf ?_;intro bl;refine aj 3 ?_;exact dh.mk (w,bi,bl,bo) ⟨rfl,rfl,rfl,trivial⟩ (.pull [3,2,1,1] (aL rfl))
     ·refine And.intro ?_ ?_
      ·refine bf ?_;intro bl;refine And.intro ?_ ?_
       ·refine bf ?_;intro bi;refine bf ?_;intro bo;refine aj 3 ?_;exact dh.mk (w,bi,bl,bo) ⟨rfl,rfl,rfl,trivial⟩ (.pull [3,2,2,0] (aL rfl))
       ·refine bf ?_;intro bo;refine bf ?_;intro bi;refine aj 3 ?_;exact dh.mk (w,bi,bl,bo) ⟨rfl,rfl,rfl,trivial⟩ (.pull [3,2,2,1] (aL rfl))
      ·refine bf ?_;intro bo;refine And.intro ?_ ?_
       ·refine bf ?_;intro bi;refine bf ?_;intro bl;refine aj 3 ?_;exact dh.mk (w,bi,bl,bo) ⟨rfl,rfl,rfl,trivial⟩ (.pull [3,2,1,2] (aL rfl))
       ·refine bf ?_;intro bl;refine bf ?_;intro bi;refine aj 3 ?_;exact dh.mk (w,bi,bl,bo) ⟨rfl,rfl,rfl,trivial⟩ (.pull [3,2,2,2] (aL rfl))
 rintro⟨w,bi,bl,bo⟩ g;have cP:∀(a:Nat) (σ:Hp),ACalls Tryz.prog 289 [.int .i64 n,.ah dO l,.int .i64 a] σ (aC (.ah (.int .i64) (aw n l a)) σ):=fun a σ=>B4 n l a σ hl;have mj:∀k,cE ((List.range (k+1)).map fun a:Nat=>aw n l a)=cE ((List.range k).map fun a:Nat=>aw n l a)++[.ah (.int .i64) (aw n l k)]:=fun k=>by rw[sM,cF];exact cF
 have gi:∀k,(cE ((List.range k).map fun a:Nat=>aw n l a)).length=k:=fun k=>by rw[vR,bX,oL]
 refine ca (S:=Nat×AV×Hp) (fun x=>[(0,.int .i64 n),(1,.ah dO l),(6,.ptr w 0),(20,.int .i64 n),(21,.int .i64 x.1)]) (fun x=>(w,[x.2.1,.ae bi 0 n 1,.ae bl 0 n 1,.ae bo 0 n 1,.an,.int .i64 0,.an])::(bi,cI [.int .i64 0] n)::(bl,cI [.int .i64 0] n)::(bo,cI [.bool false] n)::(x.2.2++σ)) (fun x=>x.1≤n∧(x.1<n→Acc 1 x.1 x.2.1 x.2.2 (cE ((List.range x.1).map fun a:Nat=>aw n l a)))∧(x.1=n→x.2.1=.ah (.slice (.int .i64)) (cd n l)∧x.2.2=[])) (fun x=>n-x.1) (0,.an,[]) ⟨⟨bC _,fun _=>.nil,fun h=>by have h:0=n:=h;omega⟩,⟨rfl,rfl,rfl,rfl,rfl,trivial⟩,rfl⟩ ?_;rintro⟨k,v,acc⟩ g ⟨aP,ig,EU⟩;have hk:k≤n:=aP;have cj:k<n→Acc 1 k v acc (cE ((List.range k).map fun a:Nat=>aw n l a)):=ig;have kB:k=n→v=.ah (.slice (.int .i64)) (cd n l)∧acc=[]:=EU;clear aP ig EU;refine ao (p:=(k:Int)<n) (fun ab=>?_) (fun au=>?_)
 ·have ab:k<n:=by omega
  have cj:=cj ab;clear kB;have mR:(cd n l).length=n:=by unfold cd;rw[bX,oL]
  have CI:∀k,k+1=n→((cE ((List.range k).map fun a:Nat=>aw n l a)++[AV.ah (.int .i64) (aw n l k)]).drop 0).take ((k+1)*1)=(cd n l).flatMap (Sh.cells (.slice (.int .i64))):=fun k hk=>by
   rw[← mj,gR,eR (by rw[gi,dS];exact aQ _),hk];exact xT _
  refine .sched [5] (ru [0,2,3,4] (.one 5 true (.alt 1 (cJ [6,7,8,9]) (cJ [6,1,7,8,9])))) (by kernel_rfl) ?_;refine aK [] (B4 n l _ _ hl) ?_;refine And.intro ?_ ?_
  ·refine aa 0 ?_;intro aF;refine A5 [_,_,_,_,_] cj.yK (.ae 0 aF 0 1 _ rfl (cy rfl)) rfl (by omega) (by decide) (by decide) (fun v' aY h'=>?_);obtain⟨b5,rfl,rfl⟩:=ub (by omega) h';refine aj 1 ?_
   by_cases j0:k+1=n
   ·refine .kV 5 b5 0 (k+1) 1 _ (.slice (.int .i64)) (cd n l) rfl (CI k j0) ⟨(mR.trans j0.symm),rfl,by decide⟩ 1 0 w _ rfl rfl ?_;exact a8 (k+1,.ah (.slice (.int .i64)) (cd n l),[]) (by show n-(k+1)<n-k;omega) ⟨ab,fun h=>absurd j0 (by have h:k+1<n:=h;omega),fun _=>⟨rfl,rfl⟩⟩ ⟨rfl,rfl,rfl,rfl,aX (by omega),trivial⟩ (.drop 0 1 (aL rfl))
   ·exact a8 (k+1,.ae b5 0 (k+1) 1,[(b5,cE ((List.range k).map fun a:Nat=>aw n l a)++[.ah (.int .i64) (aw n l k)])]) (by show n-(k+1)<n-k;omega) ⟨ab,fun _=>by show Acc 1 (k+1) _ _ (cE ((List.range (k+1)).map fun a:Nat=>aw n l a));rw[mj];exact h',fun h=>absurd h j0⟩ ⟨rfl,rfl,rfl,rfl,aX (by omega),trivial⟩ (.drop 0 1 (aL rfl))
  ·intro dJ;refine aa 1 ?_;refine A5 [_,_,_,_,_] cj.yK (.ae 0 dJ 0 1 _ rfl (cy rfl)) rfl (by omega) (by decide) (by decide) (fun v' aY h'=>?_);obtain⟨b5,rfl,rfl⟩:=ub (by omega) h';refine aj 1 ?_
   by_cases j0:k+1=n
   ·refine .kV 5 b5 0 (k+1) 1 _ (.slice (.int .i64)) (cd n l) rfl (CI k j0) ⟨(mR.trans j0.symm),rfl,by decide⟩ 1 0 w _ rfl rfl ?_;exact a8 (k+1,.ah (.slice (.int .i64)) (cd n l),[]) (by show n-(k+1)<n-k;omega) ⟨ab,fun h=>absurd j0 (by have h:k+1<n:=h;omega),fun _=>⟨rfl,rfl⟩⟩ ⟨rfl,rfl,rfl,rfl,aX (by omega),trivial⟩ (.drop 0 1 (aL rfl))
   ·exact a8 (k+1,.ae b5 0 (k+1) 1,[(b5,cE ((List.range k).map fun a:Nat=>aw n l a)++[.ah (.int .i64) (aw n l k)])]) (by show n-(k+1)<n-k;omega) ⟨ab,fun _=>by show Acc 1 (k+1) _ _ (cE ((List.range (k+1)).map fun a:Nat=>aw n l a));rw[mj];exact h',fun h=>absurd h j0⟩ ⟨rfl,rfl,rfl,rfl,aX (by omega),trivial⟩ (.drop 0 1 (aL rfl))
 ·have au:k=n:=by omega
  obtain⟨rfl,rfl⟩:=kB au;clear cj kB;refine ca (S:=Nat×(List Int×List Int×List Bool×Nat×List (List Int))×(AV×Hp×AV×Hp)) (fun x=>[(0,.int .i64 n),(1,.ah dO l),(6,.ptr w 0),(34,.int .i64 n),(35,.int .i64 x.1)]) (fun x=>(w,dw (cd n l) bi bl bo n x.2.2.1 x.2.1.2.2.2.1 x.2.2.2.2.1)::(bi,ai x.2.1.1)::(bl,ai x.2.1.2.1)::(bo,bN x.2.1.2.2.1)::(x.2.2.2.1++(x.2.2.2.2.2++σ))) (fun x=>x.1≤n∧FI n (aw n l) x.2.1.1 x.2.1.2.1 x.2.1.2.2.1 [] x.2.1.2.2.2.1 x.2.1.2.2.2.2 []∧iT 1 0 x.2.2.1 x.2.2.2.1 []∧Acc 1 x.2.1.2.2.2.2.length x.2.2.2.2.1 x.2.2.2.2.2 (cE x.2.1.2.2.2.2)∧∀b:Nat,b<x.1→x.2.1.1.getD b 0≠0) (fun x=>n-x.1) (0,(List.replicate n 0,List.replicate n 0,List.replicate n false,0,[]),(.an,[],.an,[])) ⟨⟨bC _,.start n (aw n l),.nil,.nil,fun _ h=>absurd h (oJ _)⟩,⟨rfl,rfl,rfl,rfl,rfl,trivial⟩,by rw[zt,Ea];rfl⟩ ?_;clear au;rintro⟨k,⟨ix,lo,on,aH,P⟩,⟨vs,mf,vp,e8⟩⟩ g2 ⟨aP,pG,ox,ve,sy⟩;have hk:k≤n:=aP;have hF:FI n (aw n l) ix lo on [] aH P []:=pG;have hs:iT 1 0 vs mf []:=ox;have hp:Acc 1 P.length vp e8 (cE P):=ve;have hv:∀b:Nat,b<k→ix.getD b 0≠0:=sy;clear aP pG ox ve sy;have Gd:((k:Nat):Int).toNat=k:=bG k;refine ao (p:=(k:Int)<n) (fun ab=>?_) (fun au=>?_)
  ·have ab:k<n:=by omega
   refine aa 0 ?_;refine aO ?_;refine aW 1 rfl (fy rfl (by omega) (by rw[hF.li];omega)) ?_;refine ao (p:=ix.getD ((k:Nat):Int).toNat 0=0) (fun c1=>?_) (fun c1=>?_)
   ·refine .mk [] _ (aiN n w bi bl bo l ix lo on aH P vs vp mf e8 k σ (by omega) hF (by omega) c1 hs hp) ?_;rintro _ _ ⟨rfl,Pa,O9,O7,OV,P2,J8,Og,O3,Oh,P5,gQ,dH,tL,sA,rfl⟩;rw[Gd]at tL;refine a8 (k+1,(Pa,O9,O7,OV,P2),(J8,Og,O3,Oh)) (by show n-(k+1)<n-k;omega) ⟨ab,P5,gQ,dH,fun b hb=>?_⟩ ⟨rfl,rfl,rfl,rfl,aX (by omega),trivial⟩ (.refl _);have hb:b<k+1:=hb
    by_cases e:b=k
    ·subst e;exact tL
    ·exact sA b (hv b (by omega))
   ·rw[Gd]at c1;refine a8 (k+1,(ix,lo,on,aH,P),(vs,mf,vp,e8)) (by show n-(k+1)<n-k;omega) ⟨ab,hF,hs,hp,fun b hb=>?_⟩ ⟨rfl,rfl,rfl,rfl,aX (by omega),trivial⟩ (.refl _);have hb:b<k+1:=hb
    by_cases e:b=k
    ·subst e;exact c1
    ·exact hv b (by omega)
  ·have au:k=n:=by omega
   subst au
   have cx:px k l P:=⟨hF.tj.prt,fun x h0 h1=>by
    have h2:=hv x.toNat (by omega);have h3:=(hF.tj.yJ x h0 h1).1 (by rw[mH h0];exact h2)
    exact h3.resolve_left (by simp)⟩
   have Gr:=DA hF.tj.prt;refine aa 0 ?_;obtain⟨x,hx,_⟩:=cx.all 0 (by omega) (by omega);have vt:=C9 hx;obtain⟨b5,rfl,rfl⟩:=ub vt hp
   rcases hs.zero with ⟨rfl,rfl⟩ | ⟨bs,J,rfl,rfl⟩
   ·skip
    refine .cN (args':=[.int .i64 k,.ah dO l,.ah (.slice (.int .i64)) P]) 4 b5 0 P.length 1 _ (.slice (.int .i64)) P rfl (by rw[gR,eR (by rw[vR,dS];exact aQ _)];exact xT _) ⟨rfl,rfl,by decide⟩ (eF (.refl _) (eF (.refl _) (eF .here (.refl _)))) ?_;refine ax [] (UZ k l P _ cx hl (by omega) CL) ?_;exact .drop 0 4 (.done ⟨rfl,rfl,P,cx⟩)
   ·skip
    refine .cN (args':=[.int .i64 k,.ah dO l,.ah (.slice (.int .i64)) P]) 5 b5 0 P.length 1 _ (.slice (.int .i64)) P rfl (by rw[gR,eR (by rw[vR,dS];exact aQ _)];exact xT _) ⟨rfl,rfl,by decide⟩ (eF (.refl _) (eF (.refl _) (eF .here (.refl _)))) ?_;refine ax [] (UZ k l P _ cx hl (by omega) CL) ?_;exact .drop 0 5 (.done ⟨rfl,rfl,P,cx⟩)
set_option maxHeartbeats 4000000
def fC(rw:List (Nat×List Int)):List AV:=rw.map fun r=>.ae r.1 0 r.2.length 1
def fe(rw:List (Nat×List Int)):Hp:=rw.map fun r=>(r.1,ai r.2)
theorem ZO(rw:List (Nat×List Int)):(fC rw).length=rw.length:=bX _
def PO(P:List (List Int))(v:AV)(acc:Hp):Prop:=∃(ac:Hp) (rw:List (Nat×List Int)),acc=ac++fe rw∧Acc 1 rw.length v ac (fC rw)∧rw.map Prod.snd=P
theorem VZ(w bi bl bo n:Nat)(N:List (List Int))(ix lo A B:List Int)(on:List Bool)(P:List (List Int))(aH:Nat)(vs vp:AV)(mf e8:Hp)(a:Int)(σ:Hp)(h0:0≤a)(hn:a<n)(hi:ix.length=n)(hl:lo.length=n)(ho:on.length=n)(he:lo.getD a.toNat 0=ix.getD a.toNat 0)(PN:a ∉ A)(hB:∀x∈a::B,0≤x∧x<n)(cT:(A++a::B).length≤10000)(tG:P.length≤10000)
  (hs:iT 1 (A++a::B).length vs mf (ai (A++a::B))) (hp:PO P vp e8) :
  ACalls Tryz.prog 315 [.ptr w 0,.int .i64 a] ((w,dw N bi bl bo n vs aH vp)::(bi,ai ix)::(bl,ai lo)::(bo,bN on)::(mf++(e8++σ)))
   (fun r σ'=>r=.tup []∧∃eW jB gO gM,iT 1 A.length eW jB (ai A)∧PO (P++[fU (a::B)]) gO gM∧σ'=(w,dw N bi bl bo n eW aH gO)::(bi,ai ix)::(bl,ai lo)::(bo,bN (fo (a::B) on))::(jB++(gM++σ))):=by
 obtain⟨ac,rw,rfl,hp,nA⟩:=hp;have tG:rw.length≤10000:=by rw[← nA,bX]at tG;exact tG
 rw[dW];obtain⟨K,hK⟩:∃K,(A++a::B).length=K:=⟨_,rfl⟩
 obtain⟨L,hL⟩:∃L:List Int,a::B=L:=⟨_,rfl⟩
 obtain⟨q,hq⟩:∃q,L.length=q:=⟨_,rfl⟩
 have hKA:K=A.length+q:=by rw[← hK,bQ,hL,hq]
 have hq0:0<q:=by rw[← hq,← hL,gj];omega
 rw[hK]at hs cT;obtain⟨bs,J,rfl,rfl,P3⟩:=hs.pos (by omega)
 have jh:((ai (A++a::B)++J).drop A.length).take (q*1)=ai L:=by
  rw[hL];unfold ai;rw[cF,dW,La (by rw[bX];exact aQ _),C5 (by rw[bX];exact aQ _),vD,Lf (by rw[bX];omega),eR (by rw[bX];omega)]
 have eQ:A.length+q*1≤(ai (A++a::B)++J).length:=by rw[bQ,P3];omega
 refine ay Tryz.func315 ?_;refine .quiet (by kernel_rfl) ?_;refine aa 0 ?_;refine aO ?_;refine aW 2 rfl (fy rfl h0 (by omega)) ?_;refine aa 0 ?_;refine aO ?_;refine aW 1 rfl (fy rfl h0 (by omega)) ?_;refine dX (fun c=>?_) (fun c=>?_)
 ·exact absurd he (by simpa using c)
 clear c;refine aa 0 ?_;refine ax [4] (V0 bs K A B J a _ hK PN (by omega)) ?_;refine aa 1 ?_;refine aJ.mk ⟨by omega,by omega,by omega,rfl⟩ ?_
 have hC:∀σ,ACalls Tryz.prog 220 [.ae bs (0+((A.length:Nat):Int).toNat*1) (((K:Nat):Int).toNat-((A.length:Nat):Int).toNat) 1] ((bs,ai (A++a::B)++J)::σ) (fun x σ'=>∃b',x=.ae b' 0 q 1∧σ'=(b',ai L)::(bs,ai (A++a::B)++J)::σ):=fun σ=>by
  rw[show 0+((A.length:Nat):Int).toNat*1=A.length by omega,show ((K:Nat):Int).toNat-((A.length:Nat):Int).toNat=q by omega];exact V2 bs A.length q _ _ σ jh eQ (by omega)
 refine .mk [0] _ (hC _) ?_;rintro _ _ ⟨bp,rfl,rfl⟩;refine aa 2 ?_;refine aJ.mk ⟨by omega,by omega,by omega,by omega,rfl⟩ ?_;refine aj 2 ?_;refine ca (S:=Nat) (fun i=>[(0,.ptr w 0),(5,.ae bp 0 q 1),(46,.ae bp 0 q 1),(47,.int .i64 q),(48,.int .i64 i)]) (fun i=>(bp,ai L)::(bs,ai (A++a::B)++J)::(w,dw N bi bl bo n (.ae bs 0 A.length 1) aH vp)::(bi,ai ix)::(bl,ai lo)::(bo,bN (fo (L.take i) on))::(ac++(fe rw++σ))) (fun i=>i≤q) (fun i=>q-i) 0 ⟨bC _,⟨rfl,rfl,rfl,rfl,rfl,trivial⟩,rfl⟩ ?_;rintro i g fE;have hiq:i≤q:=fE;clear fE;refine ao (p:=(i:Int)<q) (fun ab=>?_) (fun au=>?_)
 ·have ab:i<L.length:=by omega
  obtain⟨x,hx⟩:∃x,L[i]=x:=⟨_,rfl⟩
  have FT:=hB x (by rw[hL,← hx];exact cq ab);have oE:=G7 (L.take i) on;have OC:(fo (L.take i) on).set x.toNat false=fo (L.take (i+1)) on:=by unfold fo;rw[ft ab,hx,sK];rfl
  have oy:ei ⟨.int .i64,1,8,[.int .i64 0]⟩ (ai L) (0+((i:Nat):Int).toNat*1)=some (.int .i64 x):=by
   rw[fy rfl (by omega) (by omega),bG,aZ,bB ab,hx];rfl
  refine aO ?_;refine aW 0 rfl oy ?_;refine aa 2 ?_;refine aO ?_;refine cU 5 rfl (zr rfl false FT.1 (by omega)) ?_;exact a8 (i+1) (by show q-(i+1)<q-i;omega) (by show i+1≤q;omega) ⟨rfl,rfl,rfl,rfl,aX (by omega),trivial⟩ (aL (by rw[OC];rfl))
 ·have au:i=q:=by omega
  subst au;refine ax [0] (NI bp L i _ hq (by omega)) ?_;refine aa 2 ?_;intro dJ;refine A5 [_,_,_,_,_,_,_] hp.yK (.ae 0 dJ 0 1 _ rfl (cy rfl)) rfl (by omega) (by decide) (by decide) (fun v' aY h'=>?_);obtain⟨b5,rfl,rfl⟩:=ub (by omega) h';refine aj 3 ?_
  have fN:((w,dw N bi bl bo n (.ae bs 0 A.length 1) aH (.ae b5 0 (rw.length+1) 1))::(bi,ai ix)::(bl,ai lo)::(bo,bN (fo (L.take i) on))::(bs,ai (A++a::B)++J)::([(b5,fC rw++[.ae bp 0 i 1])]++((fe rw++[(bp,ai (fU L))])++σ))).Perm ((bp,ai (fU L))::(bs,ai (A++a::B)++J)::(w,dw N bi bl bo n (.ae bs 0 A.length 1) aH (.ae b5 0 (rw.length+1) 1))::(bi,ai ix)::(bl,ai lo)::(bo,bN (fo (L.take i) on))::([(b5,fC rw++[.ae bp 0 i 1])]++(fe rw++σ))):=by
   have h1:∀(X:Hp) (x y:Nat×List AV),(X++(x::([(b5,fC rw++[.ae bp 0 i 1])]++((fe rw++[y])++σ)))).Perm (y::x::(X++([(b5,fC rw++[.ae bp 0 i 1])]++(fe rw++σ)))):=fun X x y=>by
    refine oK.trans ?_;refine (List.Perm.cons x ?_).trans (List.Perm.swap _ _ _);rw[dW]
    have h2:([(b5,fC rw++[AV.ae bp 0 i 1])]++(fe rw++([y]++σ))).Perm (y::([(b5,fC rw++[.ae bp 0 i 1])]++(fe rw++σ))):=by
     have h3:=oK (l₁:=[(b5,fC rw++[AV.ae bp 0 i 1])]++fe rw) (a:=y) (l₂:=σ);rw[dW,dW]at h3;exact h3
    exact (List.Perm.append_left X h2).trans oK
   exact h1 [_,_,_,_] _ _
  refine .drop 0 1 (.perm fN (.done ⟨rfl,.ae bs 0 A.length 1,[(bs,ai A++(ai L++J))],.ae b5 0 (rw.length+1) 1,[(b5,fC rw++[.ae bp 0 i 1])]++fe (rw++[(bp,fU L)]),.ae bs A.length (ai A) (ai L++J) (by rw[ju,dS]),⟨_,rw++[(bp,fU L)],rfl,?_,?_⟩,?_⟩))
  ·rw[bQ]
   have e:fC (rw++[(bp,fU L)])=fC rw++[.ae bp 0 i 1]:=by
    unfold fC;rw[cF];show _++[AV.ae bp 0 (fU L).length 1]=_;rw[A2,hq]
   rw[e];exact .ae b5 (rw.length+1) _ (by rw[bQ,ZO,dS];rfl)
  ·rw[cF,nA];subst hL;rfl
  ·rw[eR (y5 hq)];subst hL;have e1:ai (A++a::B)++J=ai A++(ai (a::B)++J):=by unfold ai;rw[cF,dW]
   have e3:fe (rw++[(bp,fU (a::B))])=fe rw++[(bp,ai (fU (a::B)))]:=cF;rw[e1,e3];simp only[dW,CW,vD]
theorem ahO(n w bi bl bo:Nat)(l:List bE)(mh xc:List Int)(w9:List Bool)(dQ:Nat)(P0:List (List Int))(uX gr:AV)(wK iQ:Hp)(a:Int)(σ:Hp)(hn:n≤1000)(h:FI n (aw n l) mh xc w9 [] dQ P0 [])(ha:0≤a∧a<n)(hf:mh.getD a.toNat 0=0)(hs:iT 1 0 uX wK [])(hp:PO P0 gr iQ):
  ACalls Tryz.prog 290 [.ptr w 0,.int .i64 a] ((w,dw (cd n l) bi bl bo n uX dQ gr)::(bi,ai mh)::(bl,ai xc)::(bo,bN w9)::(wK++(iQ++σ)))
   (fun r σ'=>r=.tup []∧∃ix lo on aH P vs mf vp e8,FI n (aw n l) ix lo on [] aH P []∧iT 1 0 vs mf []∧PO P vp e8∧ix.getD a.toNat 0≠0∧(∀b:Nat,mh.getD b 0≠0→ix.getD b 0≠0)∧σ'=(w,dw (cd n l) bi bl bo n vs aH vp)::(bi,ai ix)::(bl,ai lo)::(bo,bN on)::(mf++(e8++σ))):=by
 have hle:=h.BJ;refine ay Tryz.func290 ?_
 refine Rs (S:=FrS) rfl (fun _=>0)
  (fun x=>[(0,.ptr w 0),(4,.ae x.2.2.2.1 0 (x.2.2.1.1.length+1) 2)])
  (fun x=>(w,dw (cd n l) bi bl bo n (.ae x.2.1.1 0 x.1.2.2.2.1.length 1) x.1.2.2.2.2.1 x.2.1.2.2.1)::(bi,ai x.1.1)::(bl,ai x.1.2.1)::(bo,bN x.1.2.2.1)::(x.2.1.1,ai x.1.2.2.2.1++x.2.1.2.1)::(x.2.2.2.1,bL (x.2.2.1.1++[(x.2.2.1.2.1,x.2.2.1.2.2)])++x.2.2.2.2)::(x.2.1.2.2.2++σ))
  (fun x=>(FI n (aw n l) x.1.1 x.1.2.1 x.1.2.2.1 x.1.2.2.2.1 x.1.2.2.2.2.1 x.1.2.2.2.2.2 (x.2.2.1.1++[(x.2.2.1.2.1,x.2.2.1.2.2)])∧PO x.1.2.2.2.2.2 x.2.1.2.2.1 x.2.1.2.2.2)∧x.1.1.getD a.toNat 0≠0∧∀b:Nat,mh.getD b 0≠0→x.1.1.getD b 0≠0)
  (fun x=>jD (aw n l) (x.2.2.1.1++[(x.2.2.1.2.1,x.2.2.1.2.2)])+iR (aw n l) x.1.1 n) ?_ ?_
 ·rintro⟨⟨ix,lo,on,st,aH,P⟩,⟨bs,Js,vp,e8⟩,⟨wy,v,k⟩,⟨bw,J⟩⟩ g ⟨⟨pG,vt⟩,mu,yZ⟩;have hF:FI n (aw n l) ix lo on st aH P (wy++[(v,k)]):=pG;have hP:PO P vp e8:=vt;have hA:ix.getD a.toNat 0≠0:=mu;have hM:∀b:Nat,mh.getD b 0≠0→ix.getD b 0≠0:=yZ;clear pG vt mu yZ;have hle:=hF.BJ;have bP:=hF.mem;have dv:=hF.tj.node v bP;have CC:k≤(aw n l v).length:=hF.tn (v,k) (jP _ (bD.2 rfl));have mR:=zj n l v
  have pA:wy.length+1≤st.length:=by
   have:=hF.tj.sub.length_le;rw[bX,bQ]at this;exact this
  have oe:IntKind.i64.wrap (((wy.length+1:Nat):Int)-1)=((wy.length:Nat):Int):=by rw[cC (by omega)];omega
  have hX:0+(IntKind.i64.wrap (((wy.length+1:Nat):Int)-1)).toNat*2=wy.length*2:=by rw[oe];omega
  have nD:ei ⟨.int .i64,1,8,[.int .i64 0]⟩ (bL (wy++[(v,k)])++J) (0+(IntKind.i64.wrap (((wy.length+1:Nat):Int)-1)).toNat*2+0)=some (.int .i64 v):=jz rfl (by rw[hX];exact sQ rfl);have ml:ei ⟨.int .i64,1,8,[.int .i64 0]⟩ (bL (wy++[(v,k)])++J) (0+(IntKind.i64.wrap (((wy.length+1:Nat):Int)-1)).toNat*2+1)=some (.int .i64 k):=jz rfl (by rw[hX];exact Du rfl);have eQ:(bL (wy++[(v,k)])++J).length=wy.length*2+2+J.length:=by rw[bQ,ng,bQ];show (wy.length+1)*2+_=_;omega
  have mr:IntKind.i64.wrap ((k:Int)+1)=((k+1:Nat):Int):=by rw[cC (by omega)];omega
  have xf:kO ⟨.int .i64,1,8,[.int .i64 0]⟩ (bL (wy++[(v,k)])++J) (0+(IntKind.i64.wrap (((wy.length+1:Nat):Int)-1)).toNat*2+1) (.int .i64 (IntKind.i64.wrap ((k:Int)+1)))=some (bL (wy++[(v,k+1)])++J):=by
   rw[ug rfl rfl (by rw[hX,eQ];omega),hX,mr,DO rfl]
  have wE:2=2∧0≤IntKind.i64.wrap (((wy.length+1:Nat):Int)-1)∧IntKind.i64.wrap (((wy.length+1:Nat):Int)-1)<((wy.length+1:Nat):Int):=⟨rfl,by omega,by omega⟩
  refine aJ.mk wE ?_;refine .quiet (by kernel_rfl) ?_;refine aW 5 rfl ml ?_;refine aa 0 ?_;refine aW 5 rfl nD ?_;refine aJ.mk rfl ?_;refine bO.mk (aw n l v) (by omega) (pZ dv) ?_;refine ao (p:=(k:Int)<(aw n l v).length) (fun ab=>?_) (fun au=>?_)
  ·have ab:k<(aw n l v).length:=by omega
   obtain⟨b,hb⟩:∃b,(aw n l v)[k]=b:=⟨_,rfl⟩
   have tI:b∈aw n l v:=hb▸cq ab;have dV:=(lZ.1 tI).1;refine .quiet (by kernel_rfl) ?_;refine aa 0 ?_;refine aW 5 rfl nD ?_;refine aJ.mk rfl ?_;refine bO.mk (aw n l v) (by omega) (pZ dv) ?_;refine aW 5 rfl ml ?_;refine aJ.mk rfl ?_;refine bO.mk b (by omega) ((get_some ab).trans (congrArg some hb)) ?_;refine aW 5 rfl ml ?_;refine cU 5 rfl xf ?_;refine aa 0 ?_;refine aO ?_;refine aW 1 rfl (fy rfl dV.1 (by rw[hF.li];omega)) ?_;refine ao (p:=ix.getD b.toNat 0=0) (fun c1=>?_) (fun c1=>?_)
   ·have hN:=hF.new ab hb dV c1;have eE:(ai st).length=st.length*1:=by rw[ju,dS]
    refine .mk [] _ (BK w bi bl bo n (cd n l) ix lo st on aH _ vp _ b ((bw,bL (wy++[(v,k+1)])++J)::(e8++σ)) dV.1 dV.2 hF.li hF.ll hF.k8 (.ae bs st.length (ai st) Js eE) (by omega) (by omega)) ?_;rintro _ _ ⟨rfl,Cn,E3,fD,rfl⟩;obtain⟨mA,pO,rfl,rfl,_⟩:=fD.pos (by rw[bQ];show 0<_+1;omega);intro aF;have JD:(bL (wy++[(v,k+1)])).length=(wy.length+1)*2:=by rw[ng,bQ];rfl
    refine zh (k:=wy.length+1) (n:=1) [_,_,_,_,_,_] (.ae bw (wy.length+1) (bL (wy++[(v,k+1)])) J JD) (.ae 0 aF 0 1 _ rfl (cy rfl)) rfl (by omega) (by decide) (by decide) (fun v' aY h'=>?_);obtain⟨pN,J2,rfl,rfl,_⟩:=h'.pos (by omega);have Pw:(wy++[(v,k+1)]).length+1=wy.length+1+1:=by rw[bQ];rfl
    have xm:(b.toNat:Int)=b:=lW dV.1;have tE:=Mn (nx:=aw n l) (ix:=ix) (b:=b.toNat) (v:=((aH+1:Nat):Int)) (by omega) c1 (by rw[hF.li];omega) n;rw[af (by omega),xm]at tE;refine .mk ((ix.set b.toNat ((aH+1:Nat):Int),lo.set b.toNat ((aH+1:Nat):Int),on.set b.toNat true,st++[b],aH+1,P),(mA,pO,vp,e8),(wy++[(v,k+1)],b,0),(pN,J2)) rfl ?_ ⟨⟨hN,hP⟩,?_,?_⟩ ⟨rfl,by rw[Pw];rfl,trivial⟩ (.drop 0 1 (aL (by rw[pQ (wy++[(v,k+1)])];rfl)))
    ·show jD (aw n l) ((wy++[(v,k+1)])++[(b,0)])+iR (aw n l) (ix.set b.toNat ((aH+1:Nat):Int)) n<jD (aw n l) (wy++[(v,k)])+iR (aw n l) ix n;rw[mB,mB,mB];omega
    ·show (ix.set b.toNat ((aH+1:Nat):Int)).getD a.toNat 0≠0;rw[nh];split
     ·omega
     ·exact hA
    ·intro z hz;show (ix.set b.toNat ((aH+1:Nat):Int)).getD z 0≠0;rw[nh];split
     ·omega
     ·exact hM z hz
   ·have c1:¬(ix.getD b.toNat 0=0):=c1;refine aa 0 ?_;refine aO ?_;have mn:=hF.w8 b dV.1 dV.2;have Fk:ei ⟨.int .i64,1,8,[.int .i64 0]⟩ (bL (wy++[(v,k+1)])++J) (0+(IntKind.i64.wrap (((wy.length+1:Nat):Int)-1)).toNat*2+0)=some (.int .i64 v):=jz rfl (by rw[hX];exact sQ rfl);refine fg.kZ 3 _ _ rfl (ua rfl dV.1 (by rw[hF.k8];omega)) (fun c2=>?_) (fun c2=>?_)
    ·rw[mn]at c2;have hO:=hF.Jz ab hb (fP c2);refine .sched [] (upto [] 28 0) (by kernel_rfl) ?_;refine aa 0 ?_;refine aW 5 rfl Fk ?_;refine aa 0 ?_;refine aW 5 rfl Fk ?_;refine aO ?_;refine aW 2 rfl (fy rfl dv.1 (by rw[hF.ll];omega)) ?_;refine aa 0 ?_;refine aO ?_;refine aW 1 rfl (fy rfl dV.1 (by rw[hF.li];omega)) ?_;refine aO ?_;refine cU 2 rfl (nU rfl _ dv.1 (by rw[hF.ll];omega)) ?_;have jg:(if ix.getD b.toNat 0<lo.getD v.toNat 0 then ix.getD b.toNat 0 else lo.getD v.toNat 0)=min (lo.getD v.toNat 0) (ix.getD b.toNat 0):=by split <;> omega
     refine .mk ((ix,lo.set v.toNat (min (lo.getD v.toNat 0) (ix.getD b.toNat 0)),on,st,aH,P),(bs,Js,vp,e8),(wy,v,k+1),(bw,J)) rfl ?_ ⟨⟨hO,hP⟩,hA,hM⟩ ⟨rfl,rfl,trivial⟩ (aL (by rw[← jg];rfl));show jD (aw n l) (wy++[(v,k+1)])+iR (aw n l) ix n<jD (aw n l) (wy++[(v,k)])+iR (aw n l) ix n;rw[mB,mB];omega
    ·rw[mn]at c2;have hO:=hF.off ab hb dV.1 c1 (qE c2);refine .mk ((ix,lo,on,st,aH,P),(bs,Js,vp,e8),(wy,v,k+1),(bw,J)) rfl ?_ ⟨⟨hO,hP⟩,hA,hM⟩ ⟨rfl,rfl,trivial⟩ (.refl _);show jD (aw n l) (wy++[(v,k+1)])+iR (aw n l) ix n<jD (aw n l) (wy++[(v,k)])+iR (aw n l) ix n;rw[mB,mB];omega
  ·have au:k=(aw n l v).length:=by omega
   have nA:ei ⟨.bA [(0,3),(1,3)],2,16,[.int .i64 0,.int .i64 0]⟩ (bL (wy++[(v,k)])++J) (0+(IntKind.i64.wrap (((wy.length+1:Nat):Int)-1)).toNat*2)=some (.agg [.int .i64 v,.int .i64 k]):=Vj rfl (by rw[hX,eQ];show wy.length*2+2≤_;omega) (by rw[hX];exact Ru rfl);refine aW 5 rfl nA ?_;intro bt;refine aj 0 ?_;refine aa 0 ?_;have qZ:(IntKind.i64.wrap (((wy.length+1:Nat):Int)-1)).toNat-Int.toNat 0=wy.length:=by rw[oe];omega
   have cT:0≤(0:Int)∧(0:Int)≤IntKind.i64.wrap (((wy.length+1:Nat):Int)-1)∧IntKind.i64.wrap (((wy.length+1:Nat):Int)-1)≤((wy.length+1:Nat):Int)∧2=2:=⟨by omega,by omega,by omega,rfl⟩
   by_cases he:lo.getD v.toNat 0=ix.getD v.toNat 0
   ·obtain⟨A,B,aq,Gw,hB1⟩:=S4 hF.tj.inc bP;have Pp:v ∉ A:=fun hm=>by have:=Gw v hm;omega
    have Po:∀x∈v::B,0≤x∧x<(n:Int):=fun x hx=>hF.tj.node x (by rw[aq];exact jP _ hx);have cg:=vO hF.tj.inc;rw[aq]at cg;have hT:=hF.tell (by omega) aq he (fun x y hy=>(lZ.1 hy).1) (Dd (v::B)) (G3 (pM.1 cg).2.1);have Gr:=He hF.tj.prt;subst aq;have eE:(ai (A++v::B)).length=(A++v::B).length*1:=by rw[ju,dS]
    refine .perm _ (xJ [_,_,_,_,_] e8 σ _ _) (VZ w bi bl bo n (cd n l) ix lo A B on P aH _ vp _ e8 v _ dv.1 dv.2 hF.li hF.ll hF.k8 he Pp Po (by omega) (by omega) (.ae bs (A++v::B).length (ai (A++v::B)) Js eE) hP) ?_;rintro _ _ ⟨rfl,eW,jB,gO,gM,eg,oz,rfl⟩
    have fN:((bt,[AV.int .i64 v,.int .i64 k])::(w,dw (cd n l) bi bl bo n eW aH gO)::(bi,ai ix)::(bl,ai lo)::(bo,bN (fo (v::B) on))::(bw,bL (wy++[(v,k)])++J)::(jB++(gM++σ))).Perm ((w,dw (cd n l) bi bl bo n eW aH gO)::(bi,ai ix)::(bl,ai lo)::(bo,bN (fo (v::B) on))::(jB++(gM++((bt,[AV.int .i64 v,.int .i64 k])::(bw,bL (wy++[(v,k)])++J)::σ)))):=by
     have h1:=(xJ [(w,dw (cd n l) bi bl bo n eW aH gO),(bi,ai ix),(bl,ai lo),(bo,bN (fo (v::B) on))] (jB++gM) σ (bt,[AV.int .i64 v,.int .i64 k]) (bw,bL (wy++[(v,k)])++J)).symm;rw[dW,dW]at h1;exact h1
    refine⟨_,fN,?_⟩;refine aJ.mk cT ?_
    rcases GM wy with eu | ⟨w',⟨u,i⟩,eu⟩
    ·have rf:wy.length=0:=by rw[eu];rfl
     rw[eu]at hT;obtain rfl:A=[]:=hT.Wb;refine ao (p:=(0:Int)<(((IntKind.i64.wrap (((wy.length+1:Nat):Int)-1)).toNat-Int.toNat 0:Nat):Int)) (fun c3=>?_) (fun c3=>?_)
     ·rw[qZ,rf]at c3;exact absurd c3 (by decide)
     ·refine .drop 0 1 (.drop 4 1 (.done ⟨rfl,ix,lo,fo (v::B) on,aH,P++[fU (v::B)],eW,jB,gO,gM,hT,eg,oz,hA,hM,rfl⟩))
    ·have eu:wy=w'++[(u,i)]:=by simpa using eu
     have rf:wy.length=w'.length+1:=by rw[eu,bQ];rfl
     have jE:(IntKind.i64.wrap (((wy.length+1:Nat):Int)-1)).toNat-Int.toNat 0=w'.length+1:=qZ.trans rf;have o0:IntKind.i64.wrap ((((IntKind.i64.wrap (((wy.length+1:Nat):Int)-1)).toNat-Int.toNat 0:Nat):Int)-1)=((w'.length:Nat):Int):=by rw[jE,cC (by omega)];omega
     have AG:(0+Int.toNat 0*2)+(IntKind.i64.wrap ((((IntKind.i64.wrap (((wy.length+1:Nat):Int)-1)).toNat-Int.toNat 0:Nat):Int)-1)).toNat*2+0=w'.length*2:=by rw[o0,bG];show 0+0*2+_+0=_;omega
     have pg:bL (wy++[(v,k)])++J=bL (w'++[(u,i)])++([.int .i64 v,.int .i64 k]++J):=by rw[eu,pQ,dW];rfl
     have tE:ei ⟨.int .i64,1,8,[.int .i64 0]⟩ (bL (wy++[(v,k)])++J) ((0+Int.toNat 0*2)+(IntKind.i64.wrap ((((IntKind.i64.wrap (((wy.length+1:Nat):Int)-1)).toNat-Int.toNat 0:Nat):Int)-1)).toNat*2+0)=some (.int .i64 u):=jz rfl (by rw[AG,pg];exact sQ rfl);have fh:0≤u∧u<(n:Int):=hF.tj.node u (hF.tj.sub.subset (by rw[eu];simp));have jh:AV.ae bw (0+Int.toNat 0*2) ((IntKind.i64.wrap (((wy.length+1:Nat):Int)-1)).toNat-Int.toNat 0) 2=.ae bw 0 (w'.length+1) 2:=by rw[jE];rfl
     have N9:AV.ae bw 0 (w'.length+1) 2=AV.ae bw (0+Int.toNat 0*2) ((IntKind.i64.wrap (((wy.length+1:Nat):Int)-1)).toNat-Int.toNat 0) 2:=jh.symm;refine ao (p:=(0:Int)<(((IntKind.i64.wrap (((wy.length+1:Nat):Int)-1)).toNat-Int.toNat 0:Nat):Int)) (fun c3=>?_) (fun c3=>?_);rotate_left
     ·rw[jE]at c3;omega
     have zL:2=2∧0≤IntKind.i64.wrap ((((IntKind.i64.wrap (((wy.length+1:Nat):Int)-1)).toNat-Int.toNat 0:Nat):Int)-1)∧IntKind.i64.wrap ((((IntKind.i64.wrap (((wy.length+1:Nat):Int)-1)).toNat-Int.toNat 0:Nat):Int)-1)<(((IntKind.i64.wrap (((wy.length+1:Nat):Int)-1)).toNat-Int.toNat 0:Nat):Int):=⟨rfl,by rw[o0];omega,by rw[o0,jE];omega⟩
     refine aJ.mk zL ?_;refine aW 5 rfl tE ?_;refine .sched [] (upto [] 23 0) (by kernel_rfl) ?_;refine aa 1 ?_;refine aa 1 ?_;refine aO ?_;refine aW 3 rfl (fy rfl fh.1 (by rw[hF.ll];omega)) ?_;refine aa 1 ?_;refine aa 0 ?_;refine aO ?_;refine aW 3 rfl (fy rfl dv.1 (by rw[hF.ll];omega)) ?_;refine aO ?_;refine cU 3 rfl (nU rfl _ fh.1 (by rw[hF.ll];omega)) ?_;have jg:(if lo.getD v.toNat 0<lo.getD u.toNat 0 then lo.getD v.toNat 0 else lo.getD u.toNat 0)=min (lo.getD u.toNat 0) (lo.getD v.toNat 0):=by split <;> omega
     have P8:0<A.length:=List.length_pos_of_mem (a:=u) (hT.tj.sub.subset (by rw[eu];simp));obtain⟨mA,pO,rfl,rfl,_⟩:=eg.pos P8;have N5:=FI.same (eu▸hF) he;rw[eu]at hT;have hE:(w,dw (cd n l) bi bl bo n (.ae mA 0 A.length 1) aH gO)::(bi,ai ix)::(bl,ai (lo.set u.toNat (if lo.getD v.toNat 0<lo.getD u.toNat 0 then lo.getD v.toNat 0 else lo.getD u.toNat 0)))::(bo,bN (fo (v::B) on))::(mA,ai A++pO)::(bw,bL (wy++[(v,k)])++J)::(gM++σ)=(w,dw (cd n l) bi bl bo n (.ae mA 0 A.length 1) aH gO)::(bi,ai ix)::(bl,ai (lo))::(bo,bN (fo (v::B) on))::(mA,ai A++pO)::(bw,bL (w'++[(u,i)])++([.int .i64 v,.int .i64 k]++J))::(gM++σ):=by rw[jg,N5,pg]
     refine .mk ((ix,lo,fo (v::B) on,A,aH,P++[fU (v::B)]),(mA,pO,gO,gM),(w',u,i),(bw,[AV.int .i64 v,.int .i64 k]++J)) rfl ?_ ⟨⟨hT,oz⟩,hA,hM⟩ ⟨rfl,jh,trivial⟩ (.drop 0 1 (.pull [4,4,4,4,5] (aL hE)));show jD (aw n l) (w'++[(u,i)])+iR (aw n l) ix n<jD (aw n l) (wy++[(v,k)])+iR (aw n l) ix n;rw[eu,mB (aw n l) (w'++[(u,i)])];omega
   ·have PY:=fun ρ=>U0 w bi bl bo n (cd n l) ix lo on aH (.ae bs 0 st.length 1) vp v ρ dv.1 dv.2 hF.li hF.ll he;refine ax [4,4,4,4] (PY _) ?_;refine aJ.mk cT ?_
    rcases GM wy with eu | ⟨w',⟨u,i⟩,eu⟩
    ·have rf:wy.length=0:=by rw[eu];rfl
     rw[eu]at hF;exact absurd hF.one he
    ·have eu:wy=w'++[(u,i)]:=by simpa using eu
     have rf:wy.length=w'.length+1:=by rw[eu,bQ];rfl
     have jE:(IntKind.i64.wrap (((wy.length+1:Nat):Int)-1)).toNat-Int.toNat 0=w'.length+1:=qZ.trans rf;have o0:IntKind.i64.wrap ((((IntKind.i64.wrap (((wy.length+1:Nat):Int)-1)).toNat-Int.toNat 0:Nat):Int)-1)=((w'.length:Nat):Int):=by rw[jE,cC (by omega)];omega
     have AG:(0+Int.toNat 0*2)+(IntKind.i64.wrap ((((IntKind.i64.wrap (((wy.length+1:Nat):Int)-1)).toNat-Int.toNat 0:Nat):Int)-1)).toNat*2+0=w'.length*2:=by rw[o0,bG];show 0+0*2+_+0=_;omega
     have pg:bL (wy++[(v,k)])++J=bL (w'++[(u,i)])++([.int .i64 v,.int .i64 k]++J):=by rw[eu,pQ,dW];rfl
     have tE:ei ⟨.int .i64,1,8,[.int .i64 0]⟩ (bL (wy++[(v,k)])++J) ((0+Int.toNat 0*2)+(IntKind.i64.wrap ((((IntKind.i64.wrap (((wy.length+1:Nat):Int)-1)).toNat-Int.toNat 0:Nat):Int)-1)).toNat*2+0)=some (.int .i64 u):=jz rfl (by rw[AG,pg];exact sQ rfl);have fh:0≤u∧u<(n:Int):=hF.tj.node u (hF.tj.sub.subset (by rw[eu];simp));have jh:AV.ae bw (0+Int.toNat 0*2) ((IntKind.i64.wrap (((wy.length+1:Nat):Int)-1)).toNat-Int.toNat 0) 2=.ae bw 0 (w'.length+1) 2:=by rw[jE];rfl
     have N9:AV.ae bw 0 (w'.length+1) 2=AV.ae bw (0+Int.toNat 0*2) ((IntKind.i64.wrap (((wy.length+1:Nat):Int)-1)).toNat-Int.toNat 0) 2:=jh.symm;refine ao (p:=(0:Int)<(((IntKind.i64.wrap (((wy.length+1:Nat):Int)-1)).toNat-Int.toNat 0:Nat):Int)) (fun c3=>?_) (fun c3=>?_);rotate_left
     ·rw[jE]at c3;omega
     have zL:2=2∧0≤IntKind.i64.wrap ((((IntKind.i64.wrap (((wy.length+1:Nat):Int)-1)).toNat-Int.toNat 0:Nat):Int)-1)∧IntKind.i64.wrap ((((IntKind.i64.wrap (((wy.length+1:Nat):Int)-1)).toNat-Int.toNat 0:Nat):Int)-1)<(((IntKind.i64.wrap (((wy.length+1:Nat):Int)-1)).toNat-Int.toNat 0:Nat):Int):=⟨rfl,by rw[o0];omega,by rw[o0,jE];omega⟩
     refine aJ.mk zL ?_;refine aW 6 rfl tE ?_;refine .sched [] (upto [] 23 0) (by kernel_rfl) ?_;refine aa 0 ?_;refine aa 0 ?_;refine aO ?_;refine aW 2 rfl (fy rfl fh.1 (by rw[hF.ll];omega)) ?_;refine aa 0 ?_;refine aa 4 ?_;refine aO ?_;refine aW 2 rfl (fy rfl dv.1 (by rw[hF.ll];omega)) ?_;refine aO ?_;refine cU 2 rfl (nU rfl _ fh.1 (by rw[hF.ll];omega)) ?_;have jg:(if lo.getD v.toNat 0<lo.getD u.toNat 0 then lo.getD v.toNat 0 else lo.getD u.toNat 0)=min (lo.getD u.toNat 0) (lo.getD v.toNat 0):=by split <;> omega
     have hU:=FI.up (eu▸hF) (by omega) he;have hE:(w,dw (cd n l) bi bl bo n (.ae bs 0 st.length 1) aH vp)::(bi,ai ix)::(bl,ai (lo.set u.toNat (if lo.getD v.toNat 0<lo.getD u.toNat 0 then lo.getD v.toNat 0 else lo.getD u.toNat 0)))::(bo,bN (on))::(bs,ai st++Js)::(bw,bL (wy++[(v,k)])++J)::(e8++σ)=(w,dw (cd n l) bi bl bo n (.ae bs 0 st.length 1) aH vp)::(bi,ai ix)::(bl,ai (lo.set u.toNat (min (lo.getD u.toNat 0) (lo.getD v.toNat 0))))::(bo,bN (on))::(bs,ai st++Js)::(bw,bL (w'++[(u,i)])++([.int .i64 v,.int .i64 k]++J))::(e8++σ):=by rw[jg,pg]
     refine .mk ((ix,lo.set u.toNat (min (lo.getD u.toNat 0) (lo.getD v.toNat 0)),on,st,aH,P),(bs,Js,vp,e8),(w',u,i),(bw,[AV.int .i64 v,.int .i64 k]++J)) rfl ?_ ⟨⟨hU,hP⟩,hA,hM⟩ ⟨rfl,jh,trivial⟩ (.drop 4 1 (aL hE));show jD (aw n l) (w'++[(u,i)])+iR (aw n l) ix n<jD (aw n l) (wy++[(v,k)])+iR (aw n l) ix n;rw[eu,mB (aw n l) (w'++[(u,i)])];omega
 ·intro hr
  obtain⟨ix,lo,on,hF,hA,hM,heq,P7⟩:∃ix lo on,FI n (aw n l) ix lo on [a] (dQ+1) P0 [(a,0)]∧ix.getD a.toNat 0≠0∧(∀b:Nat,mh.getD b 0≠0→ix.getD b 0≠0)∧lo.getD a.toNat 0=ix.getD a.toNat 0∧∀ρ,ACalls Tryz.prog 314 [.ptr w 0,.int .i64 a] ((w,dw (cd n l) bi bl bo n uX dQ gr)::(bi,ai mh)::(bl,ai xc)::(bo,bN w9)::(wK++ρ))
    (fun r σ'=>r=.agg [.int .i64 a,.int .i64 0]∧∃bs Js,σ'=(w,dw (cd n l) bi bl bo n (.ae bs 0 [a].length 1) (dQ+1) gr)::(bi,ai ix)::(bl,ai lo)::(bo,bN on)::(bs,ai [a]++Js)::ρ):=by
   have h1:=h.enter (way2:=[]) ha hf (fun v hv=>by cases hv) rfl (fun t ht=>by cases ht) (fun t ht=>by cases ht);refine⟨_,_,_,h1,?_,?_,?_,fun ρ=>(BK w bi bl bo n (cd n l) mh xc [] w9 dQ uX gr wK a ρ ha.1 ha.2 h.li h.ll h.k8 hs (bC _) (by omega)).mono ?_⟩
   ·rw[nh,af ⟨rfl,by rw[h.li];omega⟩];omega
   ·intro z hz;rw[nh];split
    ·omega
    ·exact hz
   ·rw[nh,nh,af ⟨rfl,by rw[h.ll];omega⟩,af ⟨rfl,by rw[h.li];omega⟩]
   ·rintro _ _ ⟨rfl,Cn,E3,fD,rfl⟩;obtain⟨bs,Js,rfl,rfl,_⟩:=fD.pos (by show 0<1;decide);exact⟨rfl,bs,Js,rfl⟩
  clear hf hs h;have hle:=hF.BJ;have CC:=zj n l a;refine .mk [] _ (P7 (iQ++σ)) ?_;rintro _ _ ⟨rfl,bs,Js,rfl⟩;intro bw;refine aJ.mk ⟨rfl,by decide,by decide⟩ ?_;refine .quiet (by kernel_rfl) ?_;refine aa 0 ?_;refine aa 1 ?_;refine aa 0 ?_;refine aJ.mk rfl ?_;refine bO.mk (aw n l a) (by omega) (pZ ha) ?_;refine ao (p:=(0:Int)<(aw n l a).length) (fun ab=>?_) (fun au=>?_)
  ·have ab:0<(aw n l a).length:=by omega
   obtain⟨b,hb⟩:∃b,(aw n l a)[0]=b:=⟨_,rfl⟩
   have tI:b∈aw n l a:=hb▸cq ab;have dV:=(lZ.1 tI).1;refine .quiet (by kernel_rfl) ?_;refine aa 1 ?_;refine aa 0 ?_;refine aJ.mk rfl ?_;refine bO.mk (aw n l a) (by omega) (pZ ha) ?_;refine aa 0 ?_;refine aJ.mk rfl ?_;refine bO.mk b (by decide) ((get_some ab).trans (congrArg some hb)) ?_;refine aa 0 ?_;refine aj 0 ?_;refine aa 1 ?_;refine aO ?_;refine aW 2 rfl (fy rfl dV.1 (by rw[hF.li];omega)) ?_;refine ao (p:=ix.getD b.toNat 0=0) (fun c1=>?_) (fun c1=>?_)
   ·have hN:=FI.new (w:=[]) hF ab hb dV c1;refine .mk [5,5,5,5,5] _ (BK w bi bl bo n (cd n l) ix lo [a] on (dQ+1) _ gr _ b ((bw,[.int .i64 a,.int .i64 1])::(iQ++σ)) dV.1 dV.2 hF.li hF.ll hF.k8 (.ae bs 1 (ai [a]) Js rfl) (by show 1≤10000;decide) (by omega)) ?_;rintro _ _ ⟨rfl,Cn,E3,fD,rfl⟩;obtain⟨mA,pO,rfl,rfl,_⟩:=fD.pos (by show 0<2;decide);intro aF;refine zh (k:=1) (n:=1) [_,_,_,_,_,_] (.ae bw 1 (bL [(a,1)]) [] rfl) (.ae 0 aF 0 1 _ rfl (cy rfl)) rfl (by decide) (by decide) (by decide) (fun v' aY h'=>?_);obtain⟨pN,J2,rfl,rfl,_⟩:=h'.pos (by decide);refine xM hr ((ix.set b.toNat ((dQ+1+1:Nat):Int),lo.set b.toNat ((dQ+1+1:Nat):Int),on.set b.toNat true,[a]++[b],dQ+1+1,P0),(mA,pO,gr,iQ),([(a,1)],b,0),(pN,J2)) ⟨rfl,⟨⟨hN,hp⟩,?_,?_⟩,⟨rfl,rfl,trivial⟩,.drop 0 1 (aL rfl)⟩
    ·show (ix.set b.toNat ((dQ+1+1:Nat):Int)).getD a.toNat 0≠0;rw[nh];split
     ·omega
     ·exact hA
    ·intro z hz;show (ix.set b.toNat ((dQ+1+1:Nat):Int)).getD z 0≠0;rw[nh];split
     ·omega
     ·exact hM z hz
   ·have c1:¬(ix.getD b.toNat 0=0):=c1;have mn:=hF.w8 b dV.1 dV.2;refine aa 1 ?_;refine aO ?_;refine fg.kZ 4 _ _ rfl (ua rfl dV.1 (by rw[hF.k8];omega)) (fun c2=>?_) (fun c2=>?_)
    ·rw[mn]at c2;have hO:=FI.Jz (w:=[]) hF ab hb (fP c2);refine .sched [] (upto [] 28 0) (by kernel_rfl) ?_;refine aa 1 ?_;refine aa 0 ?_;refine aa 1 ?_;refine aa 0 ?_;refine aO ?_;refine aW 3 rfl (fy rfl ha.1 (by rw[hF.ll];omega)) ?_;refine aa 1 ?_;refine aO ?_;refine aW 2 rfl (fy rfl dV.1 (by rw[hF.li];omega)) ?_;refine aO ?_;refine cU 3 rfl (nU rfl _ ha.1 (by rw[hF.ll];omega)) ?_;have jg:(if ix.getD b.toNat 0<lo.getD a.toNat 0 then ix.getD b.toNat 0 else lo.getD a.toNat 0)=min (lo.getD a.toNat 0) (ix.getD b.toNat 0):=by split <;> omega
     have hE:(w,dw (cd n l) bi bl bo n (.ae bs 0 [a].length 1) (dQ+1) gr)::(bi,ai ix)::(bl,ai (lo.set a.toNat (if ix.getD b.toNat 0<lo.getD a.toNat 0 then ix.getD b.toNat 0 else lo.getD a.toNat 0)))::(bo,bN on)::(bs,ai [a]++Js)::(bw,bL [(a,1)]++[])::(iQ++σ)=(w,dw (cd n l) bi bl bo n (.ae bs 0 [a].length 1) (dQ+1) gr)::(bi,ai ix)::(bl,ai (lo.set a.toNat (min (lo.getD a.toNat 0) (ix.getD b.toNat 0))))::(bo,bN on)::(bs,ai [a]++Js)::(bw,bL [(a,1)]++[])::(iQ++σ):=by rw[jg]
     exact xM hr ((ix,lo.set a.toNat (min (lo.getD a.toNat 0) (ix.getD b.toNat 0)),on,[a],dQ+1,P0),(bs,Js,gr,iQ),([],a,1),(bw,[])) ⟨rfl,⟨⟨hO,hp⟩,hA,hM⟩,⟨rfl,rfl,trivial⟩,.pull [5,5,5,5,5] (aL hE)⟩
    ·rw[mn]at c2;have hO:=FI.off (w:=[]) hF ab hb dV.1 c1 (qE c2);exact xM hr ((ix,lo,on,[a],dQ+1,P0),(bs,Js,gr,iQ),([],a,1),(bw,[])) ⟨rfl,⟨⟨hO,hp⟩,hA,hM⟩,⟨rfl,rfl,trivial⟩,.pull [5,5,5,5,5] (aL rfl)⟩
  ·have au:(aw n l a).length=0:=by omega
   refine aa 0 ?_;intro aF;refine aj 0 ?_;refine aa 0 ?_;have hT:=FI.tell (w:=[]) (A:=[]) (B:=[]) (part:=fU [a]) hF (by omega) rfl heq (fun x y hy=>(lZ.1 hy).1) (Dd [a]) (G3 (by simp));have Gr:=He hF.tj.prt
   have OB:((w,dw (cd n l) bi bl bo n (.ae bs 0 [a].length 1) (dQ+1) gr)::(bi,ai ix)::(bl,ai lo)::(bo,bN on)::(bs,ai [a]++Js)::(iQ++((aF,[AV.int .i64 a,.int .i64 0])::(bw,[AV.int .i64 a,.int .i64 0])::σ))).Perm ((aF,[AV.int .i64 a,.int .i64 0])::(bw,[AV.int .i64 a,.int .i64 0])::(w,dw (cd n l) bi bl bo n (.ae bs 0 [a].length 1) (dQ+1) gr)::(bi,ai ix)::(bl,ai lo)::(bo,bN on)::(bs,ai [a]++Js)::(iQ++σ)):=by
    have h1:=xJ [(w,dw (cd n l) bi bl bo n (.ae bs 0 [a].length 1) (dQ+1) gr),(bi,ai ix),(bl,ai lo),(bo,bN on),(bs,ai [a]++Js)] iQ σ (aF,[AV.int .i64 a,.int .i64 0]) (bw,[AV.int .i64 a,.int .i64 0]);exact h1.trans (List.Perm.cons _ (oK (l₁:=[(w,dw (cd n l) bi bl bo n (.ae bs 0 [a].length 1) (dQ+1) gr),(bi,ai ix),(bl,ai lo),(bo,bN on),(bs,ai [a]++Js)])))
   refine .perm _ OB (VZ w bi bl bo n (cd n l) ix lo [] [] on P0 (dQ+1) _ gr _ iQ a _ ha.1 ha.2 hF.li hF.ll hF.k8 heq (by simp) (fun x hx=>by rw[List.mem_singleton.1 hx];exact ha) (by show 1≤10000;decide) (by omega) (.ae bs 1 (ai [a]) Js rfl) hp) ?_;rintro _ _ ⟨rfl,eW,jB,gO,gM,eg,oz,rfl⟩
   have fN:((aF,[AV.int .i64 a,.int .i64 0])::(w,dw (cd n l) bi bl bo n eW (dQ+1) gO)::(bi,ai ix)::(bl,ai lo)::(bo,bN (fo [a] on))::(bw,[AV.int .i64 a,.int .i64 0])::(jB++(gM++σ))).Perm ((w,dw (cd n l) bi bl bo n eW (dQ+1) gO)::(bi,ai ix)::(bl,ai lo)::(bo,bN (fo [a] on))::(jB++(gM++((aF,[AV.int .i64 a,.int .i64 0])::(bw,[AV.int .i64 a,.int .i64 0])::σ)))):=by
    have h1:=(xJ [(w,dw (cd n l) bi bl bo n eW (dQ+1) gO),(bi,ai ix),(bl,ai lo),(bo,bN (fo [a] on))] (jB++gM) σ (aF,[AV.int .i64 a,.int .i64 0]) (bw,[AV.int .i64 a,.int .i64 0])).symm;rw[dW,dW]at h1;exact h1
   refine⟨_,fN,?_⟩;refine aJ.mk (by decide) ?_;exact .drop 0 1 (.drop 4 1 (.done ⟨rfl,ix,lo,fo [a] on,dQ+1,P0++[fU [a]],eW,jB,gO,gM,hT,eg,oz,hA,hM,rfl⟩))
end Go.Proofs.YtnikdflhefijbaaGreat
