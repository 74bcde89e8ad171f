import Derived.Test.YtnikdflhefijbaaGreatBn15
import Derived.Test.YtnikdflhefijbaaGreatBn14
namespace Go.Proofs.YtnikdflhefijbaaGreat
open Go.RowKit
set_option maxRecDepth 100000
theorem iN.zero{e:Nat}{v:AV}{acc:Hp}{cs:List AV}(h:iN e 0 v acc cs):(v=.ai∧acc=[])∨∃b J,v=.af b 0 0 e∧acc=[(b,J)]:=by
 generalize hz:(0:Nat)=z at h
 cases h with
 |nil=>exact .inl ⟨rfl,rfl⟩
 |af b k cs J h=>subst hz;exact .inr ⟨b,_,rfl,rfl⟩
def xH(W:List Int)(T:List Bool)(i:Int)(x:bK):Bool:=decide (W.getD x.2.1.toNat 0=i)&&decide (W.getD x.1.toNat 0≠i)&&!T.getD (W.getD x.1.toNat 0).toNat false
theorem agI(bW bw bI bT bt n m:Nat)(W:List Int)(T:List Bool)(i:Int)(x:bK)(σ:Hp)(h1:0≤x.1∧x.1<n)(h2:0≤x.2.1∧x.2.1<n)(hW:W.length=n)(hT:T.length=m)(hr:0≤W.getD x.1.toNat 0∧W.getD x.1.toNat 0<m):
  ACalls Tryz.prog 317 (Bw x::[.ptr bW 0,.ptr bI 0,.ptr bT 0]) ((bI,[.int .i64 i])::(bT,[.af bt 0 m 1])::(bW,[.af bw 0 n 1])::(bw,ao W)::(bt,bN T)::σ) (ay (.bool (xH W T i x)) ((bI,[.int .i64 i])::(bT,[.af bt 0 m 1])::(bW,[.af bw 0 n 1])::(bw,ao W)::(bt,bN T)::σ)):=by
 obtain⟨x1,x2,xu⟩:=x
 have h1:0≤x1∧x1<n:=h1
 have h2:0≤x2∧x2<n:=h2
 have hr:0≤W.getD x1.toNat 0∧W.getD x1.toNat 0<m:=hr
 refine ar Tryz.func317 ?_
 intro bx
 refine .quiet (by kernel_rfl) ?_
 refine aa 3 ?_
 refine aa 0 ?_
 refine aM ?_
 refine bf 4 rfl (fq rfl h2.1 (by omega)) ?_
 refine aa 1 ?_
 refine ak (fun c1=>?_) (fun c1=>?_)
 ·have c1:W.getD x2.toNat 0=i:=c1
  refine aa 3 ?_
  refine aa 0 ?_
  refine aM ?_
  refine bf 4 rfl (fq rfl h1.1 (by omega)) ?_
  refine aa 1 ?_
  refine cX (fun c2=>?_) (fun c2=>?_)
  ·have c2:¬(W.getD x1.toNat 0=i):=by simpa using c2
   refine aa 2 ?_
   refine aa 3 ?_
   refine aa 0 ?_
   refine aM ?_
   have hL:∀b,T.getD (W.getD x1.toNat 0).toNat false=b→xH W T i (x1,x2,xu) = !b:=fun b hb=>by
    unfold xH
    rw[aT (show W.getD x2.toNat 0=i from c1),aT (show W.getD x1.toNat 0≠i from c2)]
    show (true&&true&&!T.getD (W.getD x1.toNat 0).toNat false)=_
    rw[hb];rfl
   refine bf 4 rfl (fq rfl h1.1 (by omega)) ?_
   refine aM ?_
   refine eY.kL 5 _ _ rfl (tE rfl hr.1 (by omega)) (fun c3=>?_) (fun c3=>?_)
   ·exact .drop 0 1 (.done ⟨cy (hL true c3).symm,rfl⟩)
   ·exact .drop 0 1 (.done ⟨cy (hL false c3).symm,rfl⟩)
  ·have c2:W.getD x1.toNat 0=i:=by simpa using c2
   refine .drop 0 1 (.done ⟨cy ?_,rfl⟩)
   unfold xH
   rw[bS (show ¬(W.getD x1.toNat 0≠i) from fun h=>h c2),Kd];rfl
 ·have c1:¬(W.getD x2.toNat 0=i):=c1
  refine .drop 0 1 (.done ⟨cy ?_,rfl⟩)
  unfold xH
  rw[bS (show ¬(W.getD x2.toNat 0=i) from c1)];rfl
theorem WH(bW bw bl bT bt n m:Nat)(l:List bK)(W:List Int)(T:List Bool)(i:Int)(σ:Hp)(hl:l.length≤100000)(hi:0≤i∧i<m)(hr:∀e∈l,(0≤e.1∧e.1<(n:Int))∧0≤e.2.1∧e.2.1<(n:Int))(hW:W.length=n)(hT:T.length=m)(hw:∀k:Nat,k<n→0≤W.getD k 0∧W.getD k 0<m):
  ACalls Tryz.prog 316 [.int .i64 i,.ptr bT 0,.ptr bl 0,.ptr bW 0] ((bT,[.af bt 0 m 1])::(bW,[.af bw 0 n 1])::(bw,ao W)::(bt,bN T)::(bl,[.ae dB l])::σ) (ay (.bool (nD l W T i)) ((bT,[.af bt 0 m 1])::(bW,[.af bw 0 n 1])::(bw,ao W)::(bt,bN T)::(bl,[.ae dB l])::σ)):=by
 have hF:∀b,T.getD i.toNat false=b→nD l W T i=(!b&&!l.any (xH W T i)):=fun b hb=>by unfold nD;rw[hb];rfl
 refine ar Tryz.func316 ?_
 intro bI
 refine aa 1 ?_
 refine aa 0 ?_
 refine aM ?_
 refine eY.kL 4 _ _ rfl (tE rfl hi.1 (by omega)) (fun c1=>?_) (fun c1=>?_)
 ·exact .drop 0 1 (.done ⟨cy (hF true c1).symm,rfl⟩)
 ·refine aa 5 ?_
  have hg:∀(k:Nat) (hk:k<l.length),ACalls Tryz.prog 317 (Bw l[k]::[.ptr bW 0,.ptr bI 0,.ptr bT 0]) ((bI,[.int .i64 i])::(bT,[.af bt 0 m 1])::(bW,[.af bw 0 n 1])::(bw,ao W)::(bt,bN T)::(bl,[.ae dB l])::σ) (ay (.bool (xH W T i l[k])) ((bI,[.int .i64 i])::(bT,[.af bt 0 m 1])::(bW,[.af bw 0 n 1])::(bw,ao W)::(bt,bN T)::(bl,[.ae dB l])::σ)):=fun k hk=>by
   obtain⟨h1,h2⟩:=hr _ (bP hk)
   exact agI bW bw bI bT bt n m W T i l[k] _ h1 h2 hW hT (hw _ (by omega))
  refine aw [] (QH 317 _ l (xH W T i) _ (eH hl (by decide)) hg) ?_
  exact .drop 0 1 (.done ⟨cy (hF false c1).symm,rfl⟩)
theorem yW:∀n:Nat,cD [.int .i64 0] n=ao (List.replicate n 0)
 | 0=>rfl
 |n+1=>by
  show [AV.int .i64 0]++cD [.int .i64 0] n=_
  rw[yW n];rfl
theorem TX(n:Nat)(l:List bK)(P:List (List Int))(σ:Hp)(h:oZ n l P)(hl:l.length≤100000)(hn:n≤1000)(hr:∀e∈l,(0≤e.1∧e.1<(n:Int))∧0≤e.2.1∧e.2.1<(n:Int)):
  ACalls Tryz.prog 291 [.int .i64 n,.ae dB l,.ae (.slice (.int .i64)) P] σ (ay (.ae (.slice (.int .i64)) (kq n l)) σ):=by
 obtain⟨s7,hpf⟩:=C3 h.ok
 have hNt:((n:Nat):Int).toNat=n:=bC n
 refine ar Tryz.func291 ?_
 intro bl
 refine bc ?_
 intro bw
 intro bW
 refine aj 0 ?_
 refine bQ (S:=Nat) (fun k=>[(2,.ae (.slice (.int .i64)) P),(4,.ptr bl 0),(7,.ptr bW 0),(20,.ae (.slice (.int .i64)) P),(21,.int .i64 P.length),(22,.int .i64 k)]) (fun k=>(bW,[.af bw 0 n 1])::(bw,ao (mV P k (List.replicate n 0)))::(bl,[.ae dB l])::σ) (fun k=>k≤P.length) (fun k=>P.length-k) 0 ⟨bA _,⟨rfl,rfl,rfl,rfl,rfl,rfl,trivial⟩,by rw[show ao (mV P 0 (List.replicate n 0))=cD [.int .i64 0] n from (yW n).symm];rfl⟩ ?_
 intro k g aK
 have hk:k≤P.length:=aK
 clear aK
 refine ak (p:=(k:Int)<P.length) (fun ab=>?_) (fun aq=>?_)
 ·have ab:k<P.length:=by omega
  obtain⟨p,hp⟩:∃p,P[k]=p:=⟨_,rfl⟩
  have e9:P[k]?=some p:=(bh ab).trans (congrArg some hp)
  have s6:=h.ok.node p (cx e9)
  have aic:p.length≤n:=C5 n p ((h.ok.BV p (cx e9)).imp fun h=>by omega) s6
  have sg:=CM P k (List.replicate n 0)
  rw[gl]at sg
  have sY:mV P (k+1) (List.replicate n 0)=lC k p (mV P k (List.replicate n 0)):=by show lC k (P.getD k []) _=_;rw[vm e9]
  generalize mV P k (List.replicate n 0)=W at sg sY
  refine aG.mk rfl (bE.mk p (by omega) (show P[((k:Nat):Int).toNat]?=some p by rw[bC];exact e9) ?_)
  refine bQ (S:=Nat) (fun j=>[(2,.ae (.slice (.int .i64)) P),(4,.ptr bl 0),(7,.ptr bW 0),(8,.int .i64 k),(20,.ae (.slice (.int .i64)) P),(21,.int .i64 P.length),(22,.int .i64 k),(27,.ae (.int .i64) p),(28,.int .i64 p.length),(29,.int .i64 j)]) (fun j=>(bW,[.af bw 0 n 1])::(bw,ao (lC k (p.take j) W))::(bl,[.ae dB l])::σ) (fun j=>j≤p.length) (fun j=>p.length-j) 0 ⟨bA _,⟨rfl,rfl,rfl,rfl,rfl,rfl,rfl,rfl,rfl,rfl,trivial⟩,rfl⟩ ?_
  intro j g2 p8
  have hj:j≤p.length:=p8
  clear p8
  refine ak (p:=(j:Int)<p.length) (fun dA=>?_) (fun lV=>?_)
  ·have dA:j<p.length:=by omega
   obtain⟨a,ha⟩:∃a,p[j]=a:=⟨_,rfl⟩
   have tc:=s6 a (ha▸bP dA)
   have an:(lC k (p.take j) W).set a.toNat k=lC k (p.take (j+1)) W:=by unfold lC;rw[ff dA,ha,uJ];rfl
   have wz:=GC k (p.take j) W
   refine aG.mk rfl (bE.mk a (by omega) ((get_some dA).trans (congrArg some ha)) ?_)
   refine aa 0 ?_
   refine aM ?_
   refine cT 1 rfl (nu rfl _ tc.1 (by omega)) ?_
   exact aY (j+1) (by show p.length-(j+1)<p.length-j;omega) dA ⟨rfl,rfl,rfl,rfl,rfl,rfl,rfl,rfl,rfl,aS (by omega),trivial⟩ (aL (by rw[← an];rfl))
  ·have lV:j=p.length:=by omega
   subst lV
   exact aY (k+1) (by show P.length-(k+1)<P.length-k;omega) ab ⟨rfl,rfl,rfl,rfl,rfl,aS (by omega),trivial⟩ (aL (by rw[fA,sY]))
 ·have aq:k=P.length:=by omega
  subst aq
  have O9:∀j:Nat,j<n→0≤(bF n P).getD j 0∧(bF n P).getD j 0<(P.length:Int):=fun j hj=>by
   obtain⟨i,p,hi,_,hw⟩:=h.idx (x:=(j:Int)) (by omega)
   rw[bC]at hw
   have:=yP hi
   rw[hw];omega
  have sg:=QL n P
  have EN:=fun k hk=>(HF h hr k hk)
  have ug:=MS h hr
  have aX:∀(i:Nat) (p:List Int),P[i]?=some p→p[((0:Int)).toNat]?=some (iK P i):=fun i p hi=>by
   unfold iK
   rw[vm hi]
   exact UH (mG.2 (h.ok.ne p (cx hi)))
  rw[show mV P P.length (List.replicate n 0)=bF n P from rfl]
  refine aG.mk ⟨by omega,by omega,by show ((P.length:Nat):Int)≤1048576;omega,by decide⟩ ?_
  intro bt
  intro bT
  refine aj 0 ?_
  obtain⟨m,hm⟩:∃m,P.length=m:=⟨_,rfl⟩
  refine .wrap 14 _ rfl rfl ?_
  refine .dO (.pull [0,2,3,3] (.refl _)) ?_
  refine bQ (S:=Nat×AV×Hp) (fun x=>[(2,.ae (.slice (.int .i64)) P),(12,.ptr bT 0),(13,.fn (.func 316) [] [.ptr bT 0,.ptr bl 0,.ptr bW 0]),(14,.via x.2.1),(44,.int .i64 P.length),(45,.int .i64 x.1)]) (fun x=>(bT,[.af bt 0 P.length 1])::(bW,[.af bw 0 n 1])::(bw,ao (bF n P))::(bt,bN (dH P l (bF n P) x.1).1)::(bl,[.ae dB l])::(x.2.2++σ)) (fun x=>x.1≤P.length∧Acc 1 x.1 x.2.1 x.2.2 (cH (dH P l (bF n P) x.1).2)) (fun x=>P.length-x.1) (0,.ai,[]) ⟨⟨bA _,.nil⟩,⟨rfl,rfl,rfl,rfl,rfl,rfl,trivial⟩,by rw[show bN (dH P l (bF n P) 0).1=cD [.bool false] P.length from (DA P.length).symm];rfl⟩ ?_
  rintro⟨k,v,acc⟩ g2 ⟨aK,gp⟩
  have hk:k≤P.length:=aK
  have bY:Acc 1 k v acc (cH (dH P l (bF n P) k).2):=gp
  clear aK gp
  refine ak (p:=(k:Int)<P.length) (fun ab=>?_) (fun aq=>?_)
  ·have ab:k<P.length:=by omega
   obtain⟨hO,zx,_⟩:=EN k hk
   obtain⟨b,hb,nh⟩:=zx ab
   have FE:=hO.tl
   have fy:(dH P l (bF n P) (k+1)).1=(dH P l (bF n P) k).1.set b true:=by
    show (dH P l (bF n P) k).1.set (fB P l (bF n P) (dH P l (bF n P) k).1 P.length).toNat true=_
    rw[hb,bC]
   have gO:(dH P l (bF n P) (k+1)).2=(dH P l (bF n P) k).2++[P.getD b []]:=by
    show (dH P l (bF n P) k).2++[P.getD (fB P l (bF n P) (dH P l (bF n P) k).1 P.length).toNat []]=_
    rw[hb,bC]
   generalize (dH P l (bF n P) k).1=T at hb FE fy
   generalize (dH P l (bF n P) k).2=out at bY gO
   clear hO zx
   have N2:=GN P l (bF n P) T
   refine bQ (S:=Nat) (fun i=>[(2,.ae (.slice (.int .i64)) P),(12,.ptr bT 0),(13,.fn (.func 316) [] [.ptr bT 0,.ptr bl 0,.ptr bW 0]),(14,.via v),(15,.int .i64 (fB P l (bF n P) T i)),(44,.int .i64 P.length),(45,.int .i64 k),(47,.ae (.slice (.int .i64)) P),(48,.int .i64 P.length),(49,.int .i64 i)]) (fun _=>(bT,[.af bt 0 P.length 1])::(bW,[.af bw 0 n 1])::(bw,ao (bF n P))::(bt,bN T)::(bl,[.ae dB l])::(acc++σ)) (fun i=>i≤P.length) (fun i=>P.length-i) 0 ⟨bA _,⟨rfl,rfl,rfl,rfl,rfl,rfl,rfl,rfl,rfl,rfl,trivial⟩,rfl⟩ ?_
   intro i g3 dZ
   have hi:i≤P.length:=dZ
   clear dZ
   refine ak (p:=(i:Int)<P.length) (fun dA=>?_) (fun lV=>?_)
   ·have dA:i<P.length:=by omega
    obtain⟨p,hp⟩:∃p,P[i]=p:=⟨_,rfl⟩
    have e9:P[i]?=some p:=(bh dA).trans (congrArg some hp)
    have wN:=fun ρ=>WH bW bw bl bT bt n P.length l (bF n P) T i ρ hl (by omega) hr sg FE O9
    have eM:fB P l (bF n P) T (i+1)=if nD l (bF n P) T i=true∧(fB P l (bF n P) T i<0∨iK P i<iK P (fB P l (bF n P) T i).toNat) then (i:Int) else fB P l (bF n P) T i:=rfl
    have FA:=N2 i
    refine aG.mk rfl (bE.mk p (by omega) (show P[((i:Nat):Int).toNat]?=some p by rw[bC];exact e9) ?_)
    cases hf:nD l (bF n P) T i with
    |false=>
     rw[hf]at wN eM
     rw[ag (fun h=>by cases h.1)]at eM
     refine .quiet (by kernel_rfl) ?_
     refine aI [] (wN _) ?_
     exact aY (i+1) (by show P.length-(i+1)<P.length-i;omega) dA ⟨rfl,rfl,rfl,rfl,by rw[eM];rfl,rfl,rfl,rfl,rfl,aS (by omega),trivial⟩ (.refl _)
    |true=>
     rw[hf]at wN eM
     refine .quiet (by kernel_rfl) ?_
     refine aI [] (wN _) ?_
     refine ak (p:=fB P l (bF n P) T i<0) (fun c1=>?_) (fun c1=>?_)
     ·rw[ah ⟨rfl,.inl c1⟩]at eM
      exact aY (i+1) (by show P.length-(i+1)<P.length-i;omega) dA ⟨rfl,rfl,rfl,rfl,by rw[eM];rfl,rfl,rfl,rfl,rfl,aS (by omega),trivial⟩ (.refl _)
     ·obtain⟨b2,e2,l2,_⟩:=FA.resolve_left fun h=>c1 (by rw[h.1];decide)
      obtain⟨p2,dF⟩:∃p,P[b2]?=some p:=⟨P[b2],bh (by omega)⟩
      have Xa:P[(fB P l (bF n P) T i).toNat]?=some p2:=by rw[e2,bC];exact dF
      have Ch:0≤fB P l (bF n P) T i:=by omega
      rw[e2,bC,← e2]at eM
      refine aG.mk rfl ?_
      refine bE.mk (iK P i) (by decide) (aX i p e9) ?_
      refine aG.mk rfl ?_
      refine bE.mk p2 Ch Xa ?_
      refine aG.mk rfl ?_
      refine bE.mk (iK P b2) (by decide) (aX b2 p2 dF) ?_
      refine ak (p:=iK P i<iK P b2) (fun c2=>?_) (fun c2=>?_)
      ·rw[ah ⟨rfl,.inr c2⟩]at eM
       exact aY (i+1) (by show P.length-(i+1)<P.length-i;omega) dA ⟨rfl,rfl,rfl,rfl,by rw[eM];rfl,rfl,rfl,rfl,rfl,aS (by omega),trivial⟩ (.refl _)
      ·rw[ag (fun h=>h.2.elim c1 c2)]at eM
       exact aY (i+1) (by show P.length-(i+1)<P.length-i;omega) dA ⟨rfl,rfl,rfl,rfl,by rw[eM];rfl,rfl,rfl,rfl,rfl,aS (by omega),trivial⟩ (.refl _)
   ·have lV:i=P.length:=by omega
    subst lV
    refine aa 0 ?_
    refine aM ?_
    refine cT 3 rfl (yU rfl true (by omega) (by omega)) ?_
    refine aG.mk rfl ?_
    obtain⟨pb,qX⟩:∃p,P[b]?=some p:=⟨P[b],bh nh⟩
    have aid:P[(fB P l (bF n P) T P.length).toNat]?=some pb:=by rw[hb,bC];exact qX
    rw[vm qX]at gO
    refine bE.mk pb (by omega) aid ?_
    intro bs
    refine jP [_,_,_,_,_,_] bY (.af 0 bs 0 1 _ rfl (cI rfl)) rfl (by omega) (by decide) (by decide) (fun v' bD h'=>?_)
    refine aY (k+1,v',bD) (by show P.length-(k+1)<P.length-k;omega) ⟨ab,?_⟩ ⟨rfl,rfl,rfl,rfl,rfl,aS (by omega),trivial⟩ (.drop 0 1 (aL (by rw[fy,hb,bC];rfl)))
    show Acc 1 (k+1) v' bD (cH (dH P l (bF n P) (k+1)).2)
    rw[gO,show cH (out++[pb])=cH out++[.ae (.int .i64) pb] from cW];exact h'
  ·have aq:k=P.length:=by omega
   subst aq
   rw[ug]at bY
   have nZ:=(EN P.length (a8 _)).1.ol
   rw[ug]at nZ
   exact qs (s:=.slice (.int .i64)) [_,_,_,_,_] bY nZ.symm (xl _) (by decide) (.drop 0 5 (.done ⟨rfl,rfl⟩))
theorem af8(n:Nat)(l:List bK)(σ:Hp)(hl:l.length≤100000)(dY:fF n l=true):ACalls Tryz.prog 258 [.int .i64 n,.ae dB l] σ (fun r σ'=>r=.tup [.ae (.slice (.int .i64)) (kq n l),.int .i64 0]∧σ'=σ∧∃P,oZ n l P):=by
 have hn:1≤n∧n≤256:=by
  unfold fF at dY
  simp only[bO,decide_eq_true_eq]at dY
  omega
 have Cg:∀e∈l,(0≤e.1∧e.1<(n:Int))∧0≤e.2.1∧e.2.1<(n:Int):=fun e he=>by
  unfold fF at dY
  simp only[bO,fK]at dY
  have:=dY.2 e he
  exact⟨kW.1 this.1,kW.1 this.2⟩
 refine ar Tryz.func258 ?_
 refine dC [] (D1 n l _ (by omega)) (fun _=>?_) (fun c=>absurd c (by rw[dY];decide))
 refine gq.IC (S:=Nat×Nat×Nat×Nat) [] (.one 0 false (.one 2 false (.one 4 false (.alt 1 (.alt 3 (.alt 5 (.one 6 false (.one 7 false (.one 8 false .stop))) (.one 7 false (.one 5 false (.one 6 false (.one 8 false .stop))))) (.alt 5 (.alt 3 (.one 6 false (.one 7 false (.one 8 false .stop))) (.one 7 false (.one 3 false (.one 6 false (.one 8 false .stop))))) (.one 7 false (.alt 3 (.one 5 false (.one 6 false (.one 8 false .stop))) (.one 5 false (.one 3 false (.one 6 false (.one 8 false .stop)))))))) (.alt 3 (.alt 1 (.alt 5 (.one 6 false (.one 7 false (.one 8 false .stop))) (.one 7 false (.one 5 false (.one 6 false (.one 8 false .stop))))) (.alt 5 (.alt 1 (.one 6 false (.one 7 false (.one 8 false .stop))) (.one 7 false (.one 1 false (.one 6 false (.one 8 false .stop))))) (.one 7 false (.alt 1 (.one 5 false (.one 6 false (.one 8 false .stop))) (.one 5 false (.one 1 false (.one 6 false (.one 8 false .stop)))))))) (.alt 5 (.alt 1 (.alt 3 (.one 6 false (.one 7 false (.one 8 false .stop))) (.one 7 false (.one 3 false (.one 6 false (.one 8 false .stop))))) (.alt 3 (.alt 1 (.one 6 false (.one 7 false (.one 8 false .stop))) (.one 7 false (.one 1 false (.one 6 false (.one 8 false .stop))))) (.one 7 false (.alt 1 (.one 3 false (.one 6 false (.one 8 false .stop))) (.one 3 false (.one 1 false (.one 6 false (.one 8 false .stop)))))))) (.one 7 false (.alt 1 (.alt 3 (.one 5 false (.one 6 false (.one 8 false .stop))) (.one 5 false (.one 3 false (.one 6 false (.one 8 false .stop))))) (.alt 3 (.alt 1 (.one 5 false (.one 6 false (.one 8 false .stop))) (.one 5 false (.one 1 false (.one 6 false (.one 8 false .stop))))) (.one 5 false (.alt 1 (.one 3 false (.one 6 false (.one 8 false .stop))) (.one 3 false (.one 1 false (.one 6 false (.one 8 false .stop))))))))))))))) (fun x=>[(0,.int .i64 n),(1,.ae dB l),(6,.ptr x.1 0)]) (fun x=>(x.1,[.ai,.af x.2.1 0 n 1,.af x.2.2.1 0 n 1,.af x.2.2.2 0 n 1,.ai,.int .i64 0,.ai])::(x.2.1,cD [.int .i64 0] n)::(x.2.2.1,cD [.int .i64 0] n)::(x.2.2.2,cD [.bool false] n)::σ) (by kernel_rfl) ?_ ?_
 ·refine And.intro ?_ ?_
  ·refine bc ?_
   intro bi
   refine And.intro ?_ ?_
   ·refine bc ?_
    intro bl
    refine And.intro ?_ ?_
    ·refine bc ?_
     intro bo
     intro w
     refine aj 0 ?_
     exact dm.mk (w,bi,bl,bo) ⟨rfl,rfl,rfl,trivial⟩ (.pull [3,3,2,1] (aL rfl))
    ·intro w
     refine bc ?_
     intro bo
     refine aj 1 ?_
     exact dm.mk (w,bi,bl,bo) ⟨rfl,rfl,rfl,trivial⟩ (.pull [3,3,2,0] (aL rfl))
   ·refine And.intro ?_ ?_
    ·refine bc ?_
     intro bo
     refine And.intro ?_ ?_
     ·refine bc ?_
      intro bl
      intro w
      refine aj 0 ?_
      exact dm.mk (w,bi,bl,bo) ⟨rfl,rfl,rfl,trivial⟩ (.pull [3,3,2,2] (aL rfl))
     ·intro w
      refine bc ?_
      intro bl
      refine aj 1 ?_
      exact dm.mk (w,bi,bl,bo) ⟨rfl,rfl,rfl,trivial⟩ (.pull [3,3,1,2] (aL rfl))
    ·intro w
     refine And.intro ?_ ?_
     ·refine bc ?_
      intro bl
      refine bc ?_
      intro bo
      refine aj 2 ?_
      exact dm.mk (w,bi,bl,bo) ⟨rfl,rfl,rfl,trivial⟩ (.pull [3,3,1,0] (aL rfl))
     ·refine bc ?_
      intro bo
      refine bc ?_
      intro bl
      refine aj 2 ?_
      exact dm.mk (w,bi,bl,bo) ⟨rfl,rfl,rfl,trivial⟩ (.pull [3,3,1,1] (aL rfl))
  ·refine And.intro ?_ ?_
   ·refine bc ?_
    intro bl
    refine And.intro ?_ ?_
    ·refine bc ?_
     intro bi
     refine And.intro ?_ ?_
     ·refine bc ?_
      intro bo
      intro w
      refine aj 0 ?_
      exact dm.mk (w,bi,bl,bo) ⟨rfl,rfl,rfl,trivial⟩ (.pull [3,3,3,1] (aL rfl))
     ·intro w
      refine bc ?_
      intro bo
      refine aj 1 ?_
      exact dm.mk (w,bi,bl,bo) ⟨rfl,rfl,rfl,trivial⟩ (.pull [3,3,3,0] (aL rfl))
    ·refine And.intro ?_ ?_
     ·refine bc ?_
      intro bo
      refine And.intro ?_ ?_
      ·refine bc ?_
       intro bi
       intro w
       refine aj 0 ?_
       exact dm.mk (w,bi,bl,bo) ⟨rfl,rfl,rfl,trivial⟩ (.pull [3,3,3,2] (aL rfl))
      ·intro w
       refine bc ?_
       intro bi
       refine aj 1 ?_
       exact dm.mk (w,bi,bl,bo) ⟨rfl,rfl,rfl,trivial⟩ (.pull [3,2,3,2] (aL rfl))
     ·intro w
      refine And.intro ?_ ?_
      ·refine bc ?_
       intro bi
       refine bc ?_
       intro bo
       refine aj 2 ?_
       exact dm.mk (w,bi,bl,bo) ⟨rfl,rfl,rfl,trivial⟩ (.pull [3,2,3,0] (aL rfl))
      ·refine bc ?_
       intro bo
       refine bc ?_
       intro bi
       refine aj 2 ?_
       exact dm.mk (w,bi,bl,bo) ⟨rfl,rfl,rfl,trivial⟩ (.pull [3,2,3,1] (aL rfl))
   ·refine And.intro ?_ ?_
    ·refine bc ?_
     intro bo
     refine And.intro ?_ ?_
     ·refine bc ?_
      intro bi
      refine And.intro ?_ ?_
      ·refine bc ?_
       intro bl
       intro w
       refine aj 0 ?_
       exact dm.mk (w,bi,bl,bo) ⟨rfl,rfl,rfl,trivial⟩ (.pull [3,3,2,3] (aL rfl))
      ·intro w
       refine bc ?_
       intro bl
       refine aj 1 ?_
       exact dm.mk (w,bi,bl,bo) ⟨rfl,rfl,rfl,trivial⟩ (.pull [3,3,1,3] (aL rfl))
     ·refine And.intro ?_ ?_
      ·refine bc ?_
       intro bl
       refine And.intro ?_ ?_
       ·refine bc ?_
        intro bi
        intro w
        refine aj 0 ?_
        exact dm.mk (w,bi,bl,bo) ⟨rfl,rfl,rfl,trivial⟩ (.pull [3,3,3,3] (aL rfl))
       ·intro w
        refine bc ?_
        intro bi
        refine aj 1 ?_
        exact dm.mk (w,bi,bl,bo) ⟨rfl,rfl,rfl,trivial⟩ (.pull [3,2,3,3] (aL rfl))
      ·intro w
       refine And.intro ?_ ?_
       ·refine bc ?_
        intro bi
        refine bc ?_
        intro bl
        refine aj 2 ?_
        exact dm.mk (w,bi,bl,bo) ⟨rfl,rfl,rfl,trivial⟩ (.pull [3,2,1,3] (aL rfl))
       ·refine bc ?_
        intro bl
        refine bc ?_
        intro bi
        refine aj 2 ?_
        exact dm.mk (w,bi,bl,bo) ⟨rfl,rfl,rfl,trivial⟩ (.pull [3,2,2,3] (aL rfl))
    ·intro w
     refine And.intro ?_ ?_
     ·refine bc ?_
      intro bi
      refine And.intro ?_ ?_
      ·refine bc ?_
       intro bl
       refine bc ?_
       intro bo
       refine aj 3 ?_
       exact dm.mk (w,bi,bl,bo) ⟨rfl,rfl,rfl,trivial⟩ (.pull [3,2,1,0] (aL rfl))
      ·refine bc ?_
       intro bo
       refine bc ?_
       intro bl
       refine aj 3 ?_
       exact dm.mk (w,bi,bl,bo) ⟨rfl,rfl,rfl,trivial⟩ (.pull [3,2,1,1] (aL rfl))
     ·refine And.intro ?_ ?_
      ·refine bc ?_
       intro bl
       refine And.intro ?_ ?_
       ·refine bc ?_
        intro bi
        refine bc ?_
        intro bo
        refine aj 3 ?_
        exact dm.mk (w,bi,bl,bo) ⟨rfl,rfl,rfl,trivial⟩ (.pull [3,2,2,0] (aL rfl))
       ·refine bc ?_
        intro bo
        refine bc ?_
        intro bi
        refine aj 3 ?_
        exact dm.mk (w,bi,bl,bo) ⟨rfl,rfl,rfl,trivial⟩ (.pull [3,2,2,1] (aL rfl))
      ·refine bc ?_
       intro bo
       refine And.intro ?_ ?_
       ·refine bc ?_
        intro bi
        refine bc ?_
        intro bl
        refine aj 3 ?_
        exact dm.mk (w,bi,bl,bo) ⟨rfl,rfl,rfl,trivial⟩ (.pull [3,2,1,2] (aL rfl))
       ·refine bc ?_
        intro bl
        refine bc ?_
        intro bi
        refine aj 3 ?_
        exact dm.mk (w,bi,bl,bo) ⟨rfl,rfl,rfl,trivial⟩ (.pull [3,2,2,2] (aL rfl))
 rintro⟨w,bi,bl,bo⟩ g
 have cU:∀(a:Nat) (σ:Hp),ACalls Tryz.prog 289 [.int .i64 n,.ae dB l,.int .i64 a] σ (ay (.ae (.int .i64) (au n l a)) σ):=fun a σ=>BB n l a σ hl
 have my:∀k,cH ((List.range (k+1)).map fun a:Nat=>au n l a)=cH ((List.range k).map fun a:Nat=>au n l a)++[.ae (.int .i64) (au n l k)]:=fun k=>by rw[tk,cW];exact cW
 have ga:∀k,(cH ((List.range k).map fun a:Nat=>au n l a)).length=k:=fun k=>by rw[uT,cg,kS]
 refine bQ (S:=Nat×AV×Hp) (fun x=>[(0,.int .i64 n),(1,.ae dB l),(6,.ptr w 0),(20,.int .i64 n),(21,.int .i64 x.1)]) (fun x=>(w,[x.2.1,.af bi 0 n 1,.af bl 0 n 1,.af bo 0 n 1,.ai,.int .i64 0,.ai])::(bi,cD [.int .i64 0] n)::(bl,cD [.int .i64 0] n)::(bo,cD [.bool false] n)::(x.2.2++σ)) (fun x=>x.1≤n∧(x.1<n→Acc 1 x.1 x.2.1 x.2.2 (cH ((List.range x.1).map fun a:Nat=>au n l a)))∧(x.1=n→x.2.1=.ae (.slice (.int .i64)) (ca n l)∧x.2.2=[])) (fun x=>n-x.1) (0,.ai,[]) ⟨⟨bA _,fun _=>.nil,fun h=>by have h:0=n:=h;omega⟩,⟨rfl,rfl,rfl,rfl,rfl,trivial⟩,rfl⟩ ?_
 rintro⟨k,v,acc⟩ g ⟨aK,gp,Eh⟩
 have hk:k≤n:=aK
 have bY:k<n→Acc 1 k v acc (cH ((List.range k).map fun a:Nat=>au n l a)):=gp
 have lA:k=n→v=.ae (.slice (.int .i64)) (ca n l)∧acc=[]:=Eh
 clear aK gp Eh
 refine ak (p:=(k:Int)<n) (fun ab=>?_) (fun aq=>?_)
 ·have ab:k<n:=by omega
  have bY:=bY ab
  clear lA
  have mz:(ca n l).length=n:=by unfold ca;rw[cg,kS]
  have Cd:∀k,k+1=n→((cH ((List.range k).map fun a:Nat=>au n l a)++[AV.ae (.int .i64) (au n l k)]).drop 0).take ((k+1)*1)=(ca n l).flatMap (Sh.cells (.slice (.int .i64))):=fun k hk=>by
   rw[← my,gz,ek (by rw[ga,eA];exact a8 _),hk]
   exact xl _
  refine .sched [5] (.one 0 false (.one 2 false (.one 3 false (.one 4 false (.one 5 true (.alt 1 (.one 6 false (.one 7 false (.one 8 false (.one 9 false .stop)))) (.one 6 false (.one 1 false (.one 7 false (.one 8 false (.one 9 false .stop))))))))))) (by kernel_rfl) ?_
  refine aI [] (BB n l _ _ hl) ?_
  refine And.intro ?_ ?_
  ·refine aa 0 ?_
   intro aB
   refine AE [_,_,_,_,_] bY.x9 (.af 0 aB 0 1 _ rfl (cI rfl)) rfl (by omega) (by decide) (by decide) (fun v' bD h'=>?_)
   obtain⟨b5,rfl,rfl⟩:=tF (by omega) h'
   refine aj 1 ?_
   by_cases kQ:k+1=n
   ·refine .kl 5 b5 0 (k+1) 1 _ (.slice (.int .i64)) (ca n l) rfl (Cd k kQ) ⟨(mz.trans kQ.symm),rfl,by decide⟩ 1 0 w _ rfl rfl ?_
    exact aY (k+1,.ae (.slice (.int .i64)) (ca n l),[]) (by show n-(k+1)<n-k;omega) ⟨ab,fun h=>absurd kQ (by have h:k+1<n:=h;omega),fun _=>⟨rfl,rfl⟩⟩ ⟨rfl,rfl,rfl,rfl,aS (by omega),trivial⟩ (.drop 0 1 (aL rfl))
   ·exact aY (k+1,.af b5 0 (k+1) 1,[(b5,cH ((List.range k).map fun a:Nat=>au n l a)++[.ae (.int .i64) (au n l k)])]) (by show n-(k+1)<n-k;omega) ⟨ab,fun _=>by show Acc 1 (k+1) _ _ (cH ((List.range (k+1)).map fun a:Nat=>au n l a));rw[my];exact h',fun h=>absurd h kQ⟩ ⟨rfl,rfl,rfl,rfl,aS (by omega),trivial⟩ (.drop 0 1 (aL rfl))
  ·intro dc
   refine aa 1 ?_
   refine AE [_,_,_,_,_] bY.x9 (.af 0 dc 0 1 _ rfl (cI rfl)) rfl (by omega) (by decide) (by decide) (fun v' bD h'=>?_)
   obtain⟨b5,rfl,rfl⟩:=tF (by omega) h'
   refine aj 1 ?_
   by_cases kQ:k+1=n
   ·refine .kl 5 b5 0 (k+1) 1 _ (.slice (.int .i64)) (ca n l) rfl (Cd k kQ) ⟨(mz.trans kQ.symm),rfl,by decide⟩ 1 0 w _ rfl rfl ?_
    exact aY (k+1,.ae (.slice (.int .i64)) (ca n l),[]) (by show n-(k+1)<n-k;omega) ⟨ab,fun h=>absurd kQ (by have h:k+1<n:=h;omega),fun _=>⟨rfl,rfl⟩⟩ ⟨rfl,rfl,rfl,rfl,aS (by omega),trivial⟩ (.drop 0 1 (aL rfl))
   ·exact aY (k+1,.af b5 0 (k+1) 1,[(b5,cH ((List.range k).map fun a:Nat=>au n l a)++[.ae (.int .i64) (au n l k)])]) (by show n-(k+1)<n-k;omega) ⟨ab,fun _=>by show Acc 1 (k+1) _ _ (cH ((List.range (k+1)).map fun a:Nat=>au n l a));rw[my];exact h',fun h=>absurd h kQ⟩ ⟨rfl,rfl,rfl,rfl,aS (by omega),trivial⟩ (.drop 0 1 (aL rfl))
 ·have aq:k=n:=by omega
  obtain⟨rfl,rfl⟩:=lA aq
  clear bY lA
  refine bQ (S:=Nat×(List Int×List Int×List Bool×Nat×List (List Int))×(AV×Hp×AV×Hp)) (fun x=>[(0,.int .i64 n),(1,.ae dB l),(6,.ptr w 0),(34,.int .i64 n),(35,.int .i64 x.1)]) (fun x=>(w,dr (ca n l) bi bl bo n x.2.2.1 x.2.1.2.2.2.1 x.2.2.2.2.1)::(bi,ao x.2.1.1)::(bl,ao x.2.1.2.1)::(bo,bN x.2.1.2.2.1)::(x.2.2.2.1++(x.2.2.2.2.2++σ))) (fun x=>x.1≤n∧FI n (au n l) x.2.1.1 x.2.1.2.1 x.2.1.2.2.1 [] x.2.1.2.2.2.1 x.2.1.2.2.2.2 []∧iN 1 0 x.2.2.1 x.2.2.2.1 []∧Acc 1 x.2.1.2.2.2.2.length x.2.2.2.2.1 x.2.2.2.2.2 (cH x.2.1.2.2.2.2)∧∀b:Nat,b<x.1→x.2.1.1.getD b 0≠0) (fun x=>n-x.1) (0,(List.replicate n 0,List.replicate n 0,List.replicate n false,0,[]),(.ai,[],.ai,[])) ⟨⟨bA _,.start n (au n l),.nil,.nil,fun _ h=>absurd h (og _)⟩,⟨rfl,rfl,rfl,rfl,rfl,trivial⟩,by rw[yW,DA];rfl⟩ ?_
  clear aq
  rintro⟨k,⟨ix,lo,on,aH,P⟩,⟨vs,lW,vp,eS⟩⟩ g2 ⟨aK,qb,nV,uv,o6⟩
  have hk:k≤n:=aK
  have hF:FI n (au n l) ix lo on [] aH P []:=qb
  have hs:iN 1 0 vs lW []:=nV
  have hp:Acc 1 P.length vp eS (cH P):=uv
  have hv:∀b:Nat,b<k→ix.getD b 0≠0:=o6
  clear aK qb nV uv o6
  have Fu:((k:Nat):Int).toNat=k:=bC k
  refine ak (p:=(k:Int)<n) (fun ab=>?_) (fun aq=>?_)
  ·have ab:k<n:=by omega
   refine aa 0 ?_
   refine aM ?_
   refine bf 1 rfl (fq rfl (by omega) (by rw[hF.li];omega)) ?_
   refine ak (p:=ix.getD ((k:Nat):Int).toNat 0=0) (fun c1=>?_) (fun c1=>?_)
   ·refine .mk [] _ (ahE n w bi bl bo l ix lo on aH P vs vp lW eS k σ (by omega) hF (by omega) c1 hs hp) ?_
    rintro _ _ ⟨rfl,Ou,Ot,Oo,Oc,P2,Jz,NA,Oj,NB,Pp,gO,dF,td,uw,rfl⟩
    rw[Fu]at td
    refine aY (k+1,(Ou,Ot,Oo,Oc,P2),(Jz,NA,Oj,NB)) (by show n-(k+1)<n-k;omega) ⟨ab,Pp,gO,dF,fun b hb=>?_⟩ ⟨rfl,rfl,rfl,rfl,aS (by omega),trivial⟩ (.refl _)
    have hb:b<k+1:=hb
    by_cases e:b=k
    ·subst e;exact td
    ·exact uw b (hv b (by omega))
   ·rw[Fu]at c1
    refine aY (k+1,(ix,lo,on,aH,P),(vs,lW,vp,eS)) (by show n-(k+1)<n-k;omega) ⟨ab,hF,hs,hp,fun b hb=>?_⟩ ⟨rfl,rfl,rfl,rfl,aS (by omega),trivial⟩ (.refl _)
    have hb:b<k+1:=hb
    by_cases e:b=k
    ·subst e;exact c1
    ·exact hv b (by omega)
  ·have aq:k=n:=by omega
   subst aq
   have cQ:oZ k l P:=⟨hF.tj.prt,fun x h0 h1=>by
    have h2:=hv x.toNat (by omega)
    have h3:=(hF.tj.x8 x h0 h1).1 (by rw[mi h0];exact h2)
    exact h3.resolve_left (by simp)⟩
   have FM:=C3 hF.tj.prt
   refine aa 0 ?_
   obtain⟨x,hx,_⟩:=cQ.all 0 (by omega) (by omega)
   have uD:=Gf hx
   obtain⟨b5,rfl,rfl⟩:=tF uD hp
   rcases hs.zero with ⟨rfl,rfl⟩ | ⟨bs,J,rfl,rfl⟩
   ·skip
    refine .cJ (args':=[.int .i64 k,.ae dB l,.ae (.slice (.int .i64)) P]) 4 b5 0 P.length 1 _ (.slice (.int .i64)) P rfl (by rw[gz,ek (by rw[uT,eA];exact a8 _)];exact xl _) ⟨rfl,rfl,by decide⟩ (cd (.refl _) (cd (.refl _) (cd .here (.refl _)))) ?_
    refine aw [] (TX k l P _ cQ hl (by omega) Cg) ?_
    exact .drop 0 4 (.done ⟨rfl,rfl,P,cQ⟩)
   ·skip
    refine .cJ (args':=[.int .i64 k,.ae dB l,.ae (.slice (.int .i64)) P]) 5 b5 0 P.length 1 _ (.slice (.int .i64)) P rfl (by rw[gz,ek (by rw[uT,eA];exact a8 _)];exact xl _) ⟨rfl,rfl,by decide⟩ (cd (.refl _) (cd (.refl _) (cd .here (.refl _)))) ?_
    refine aw [] (TX k l P _ cQ hl (by omega) Cg) ?_
    exact .drop 0 5 (.done ⟨rfl,rfl,P,cQ⟩)
set_option maxHeartbeats 4000000
def fx(rw:List (Nat×List Int)):List AV:=rw.map fun r=>.af r.1 0 r.2.length 1
def eV(rw:List (Nat×List Int)):Hp:=rw.map fun r=>(r.1,ao r.2)
theorem Y1(rw:List (Nat×List Int)):(fx rw).length=rw.length:=cg _
def PO(P:List (List Int))(v:AV)(acc:Hp):Prop:=∃(ac:Hp) (rw:List (Nat×List Int)),acc=ac++eV rw∧Acc 1 rw.length v ac (fx rw)∧rw.map Prod.snd=P
theorem U5(w bi bl bo n:Nat)(N:List (List Int))(ix lo A B:List Int)(on:List Bool)(P:List (List Int))(aH:Nat)(vs vp:AV)(lW eS:Hp)(a:Int)(σ:Hp)(h0:0≤a)(hn:a<n)(hi:ix.length=n)(hl:lo.length=n)(ho:on.length=n)(he:lo.getD a.toNat 0=ix.getD a.toNat 0)(O8:a ∉ A)(hB:∀x∈a::B,0≤x∧x<n)(df:(A++a::B).length≤10000)(s7:P.length≤10000)
  (hs:iN 1 (A++a::B).length vs lW (ao (A++a::B))) (hp:PO P vp eS) :
  ACalls Tryz.prog 315 [.ptr w 0,.int .i64 a] ((w,dr N bi bl bo n vs aH vp)::(bi,ao ix)::(bl,ao lo)::(bo,bN on)::(lW++(eS++σ)))
   (fun r σ'=>r=.tup []∧∃eL jh gM gG,iN 1 A.length eL jh (ao A)∧PO (P++[fN (a::B)]) gM gG∧σ'=(w,dr N bi bl bo n eL aH gM)::(bi,ao ix)::(bl,ao lo)::(bo,bN (e8 (a::B) on))::(jh++(gG++σ))):=by
 obtain⟨ac,rw,rfl,hp,mZ⟩:=hp
 have s7:rw.length≤10000:=by rw[← mZ,cg]at s7;exact s7
 rw[dU]
 obtain⟨K,hK⟩:∃K,(A++a::B).length=K:=⟨_,rfl⟩
 obtain⟨L,hL⟩:∃L:List Int,a::B=L:=⟨_,rfl⟩
 obtain⟨q,hq⟩:∃q,L.length=q:=⟨_,rfl⟩
 have hKA:K=A.length+q:=by rw[← hK,bZ,hL,hq]
 have hq0:0<q:=by rw[← hq,← hL,ik];omega
 rw[hK]at hs df
 obtain⟨bs,J,rfl,rfl,Po⟩:=hs.pos (by omega)
 have iX:((ao (A++a::B)++J).drop A.length).take (q*1)=ao L:=by
  rw[hL]
  unfold ao
  rw[cW,dU,PJ (by rw[cg];exact a8 _),Ge (by rw[cg];exact a8 _),uH,KH (by rw[cg];omega),ek (by rw[cg];omega)]
 have eG:A.length+q*1≤(ao (A++a::B)++J).length:=by rw[bZ,Po];omega
 refine ar Tryz.func315 ?_
 refine .quiet (by kernel_rfl) ?_
 refine aa 0 ?_
 refine aM ?_
 refine bf 2 rfl (fq rfl h0 (by omega)) ?_
 refine aa 0 ?_
 refine aM ?_
 refine bf 1 rfl (fq rfl h0 (by omega)) ?_
 refine cX (fun c=>?_) (fun c=>?_)
 ·exact absurd he (by simpa using c)
 clear c
 refine aa 0 ?_
 refine aw [4] (U6 bs K A B J a _ hK O8 (by omega)) ?_
 refine aa 1 ?_
 refine aG.mk ⟨by omega,by omega,by omega,rfl⟩ ?_
 have hC:∀σ,ACalls Tryz.prog 220 [.af bs (0+((A.length:Nat):Int).toNat*1) (((K:Nat):Int).toNat-((A.length:Nat):Int).toNat) 1] ((bs,ao (A++a::B)++J)::σ) (fun x σ'=>∃b',x=.af b' 0 q 1∧σ'=(b',ao L)::(bs,ao (A++a::B)++J)::σ):=fun σ=>by
  rw[show 0+((A.length:Nat):Int).toNat*1=A.length by omega,show ((K:Nat):Int).toNat-((A.length:Nat):Int).toNat=q by omega]
  exact U9 bs A.length q _ _ σ iX eG (by omega)
 refine .mk [0] _ (hC _) ?_
 rintro _ _ ⟨bp,rfl,rfl⟩
 refine aa 2 ?_
 refine aG.mk ⟨by omega,by omega,by omega,by omega,rfl⟩ ?_
 refine aj 2 ?_
 refine bQ (S:=Nat) (fun i=>[(0,.ptr w 0),(5,.af bp 0 q 1),(46,.af bp 0 q 1),(47,.int .i64 q),(48,.int .i64 i)]) (fun i=>(bp,ao L)::(bs,ao (A++a::B)++J)::(w,dr N bi bl bo n (.af bs 0 A.length 1) aH vp)::(bi,ao ix)::(bl,ao lo)::(bo,bN (e8 (L.take i) on))::(ac++(eV rw++σ))) (fun i=>i≤q) (fun i=>q-i) 0 ⟨bA _,⟨rfl,rfl,rfl,rfl,rfl,trivial⟩,rfl⟩ ?_
 rintro i g dZ
 have hiq:i≤q:=dZ
 clear dZ
 refine ak (p:=(i:Int)<q) (fun ab=>?_) (fun aq=>?_)
 ·have ab:i<L.length:=by omega
  obtain⟨x,hx⟩:∃x,L[i]=x:=⟨_,rfl⟩
  have Fh:=hB x (by rw[hL,← hx];exact bP ab)
  have nZ:=Gx (L.take i) on
  have NU:(e8 (L.take i) on).set x.toNat false=e8 (L.take (i+1)) on:=by unfold e8;rw[ff ab,hx,uJ];rfl
  have nX:ep ⟨.int .i64,1,8,[.int .i64 0]⟩ (ao L) (0+((i:Nat):Int).toNat*1)=some (.int .i64 x):=by
   rw[fq rfl (by omega) (by omega),bC,aZ,bh ab,hx];rfl
  refine aM ?_
  refine bf 0 rfl nX ?_
  refine aa 2 ?_
  refine aM ?_
  refine cT 5 rfl (yU rfl false Fh.1 (by omega)) ?_
  exact aY (i+1) (by show q-(i+1)<q-i;omega) (by show i+1≤q;omega) ⟨rfl,rfl,rfl,rfl,aS (by omega),trivial⟩ (aL (by rw[NU];rfl))
 ·have aq:i=q:=by omega
  subst aq
  refine aw [0] (M5 bp L i _ hq (by omega)) ?_
  refine aa 2 ?_
  intro dc
  refine AE [_,_,_,_,_,_,_] hp.x9 (.af 0 dc 0 1 _ rfl (cI rfl)) rfl (by omega) (by decide) (by decide) (fun v' bD h'=>?_)
  obtain⟨b5,rfl,rfl⟩:=tF (by omega) h'
  refine aj 3 ?_
  have gv:((w,dr N bi bl bo n (.af bs 0 A.length 1) aH (.af b5 0 (rw.length+1) 1))::(bi,ao ix)::(bl,ao lo)::(bo,bN (e8 (L.take i) on))::(bs,ao (A++a::B)++J)::([(b5,fx rw++[.af bp 0 i 1])]++((eV rw++[(bp,ao (fN L))])++σ))).Perm ((bp,ao (fN L))::(bs,ao (A++a::B)++J)::(w,dr N bi bl bo n (.af bs 0 A.length 1) aH (.af b5 0 (rw.length+1) 1))::(bi,ao ix)::(bl,ao lo)::(bo,bN (e8 (L.take i) on))::([(b5,fx rw++[.af bp 0 i 1])]++(eV rw++σ))):=by
   have h1:∀(X:Hp) (x y:Nat×List AV),(X++(x::([(b5,fx rw++[.af bp 0 i 1])]++((eV rw++[y])++σ)))).Perm (y::x::(X++([(b5,fx rw++[.af bp 0 i 1])]++(eV rw++σ)))):=fun X x y=>by
    refine oh.trans ?_
    refine (List.Perm.cons x ?_).trans (List.Perm.swap _ _ _)
    rw[dU]
    have h2:([(b5,fx rw++[AV.af bp 0 i 1])]++(eV rw++([y]++σ))).Perm (y::([(b5,fx rw++[.af bp 0 i 1])]++(eV rw++σ))):=by
     have h3:=oh (l₁:=[(b5,fx rw++[AV.af bp 0 i 1])]++eV rw) (a:=y) (l₂:=σ)
     rw[dU,dU]at h3
     exact h3
    exact (List.Perm.append_left X h2).trans oh
   exact h1 [_,_,_,_] _ _
  refine .drop 0 1 (.perm gv (.done ⟨rfl,.af bs 0 A.length 1,[(bs,ao A++(ao L++J))],.af b5 0 (rw.length+1) 1,[(b5,fx rw++[.af bp 0 i 1])]++eV (rw++[(bp,fN L)]),.af bs A.length (ao A) (ao L++J) (by rw[nq,eA]),⟨_,rw++[(bp,fN L)],rfl,?_,?_⟩,?_⟩))
  ·rw[bZ]
   have e:fx (rw++[(bp,fN L)])=fx rw++[.af bp 0 i 1]:=by
    unfold fx
    rw[cW]
    show _++[AV.af bp 0 (fN L).length 1]=_
    rw[AB,hq]
   rw[e]
   exact .af b5 (rw.length+1) _ (by rw[bZ,Y1,eA];rfl)
  ·rw[cW,mZ];subst hL;rfl
  ·rw[ek (wP hq)]
   subst hL
   have e1:ao (A++a::B)++J=ao A++(ao (a::B)++J):=by unfold ao;rw[cW,dU]
   have e3:eV (rw++[(bp,fN (a::B))])=eV rw++[(bp,ao (fN (a::B)))]:=cW
   rw[e1,e3]
   simp only[dU,F4,uH]
theorem agN(n w bi bl bo:Nat)(l:List bK)(lY wm:List Int)(wh:List Bool)(dJ:Nat)(P0:List (List Int))(um gj:AV)(vK iL:Hp)(a:Int)(σ:Hp)(hn:n≤1000)(h:FI n (au n l) lY wm wh [] dJ P0 [])(ha:0≤a∧a<n)(hf:lY.getD a.toNat 0=0)(hs:iN 1 0 um vK [])(hp:PO P0 gj iL):
  ACalls Tryz.prog 290 [.ptr w 0,.int .i64 a] ((w,dr (ca n l) bi bl bo n um dJ gj)::(bi,ao lY)::(bl,ao wm)::(bo,bN wh)::(vK++(iL++σ)))
   (fun r σ'=>r=.tup []∧∃ix lo on aH P vs lW vp eS,FI n (au n l) ix lo on [] aH P []∧iN 1 0 vs lW []∧PO P vp eS∧ix.getD a.toNat 0≠0∧(∀b:Nat,lY.getD b 0≠0→ix.getD b 0≠0)∧σ'=(w,dr (ca n l) bi bl bo n vs aH vp)::(bi,ao ix)::(bl,ao lo)::(bo,bN on)::(lW++(eS++σ))):=by
 have hle:=h.Bj
 refine ar Tryz.func290 ?_
 refine QK (S:=FrS) rfl (fun _=>0)
  (fun x=>[(0,.ptr w 0),(4,.af x.2.2.2.1 0 (x.2.2.1.1.length+1) 2)])
  (fun x=>(w,dr (ca n l) bi bl bo n (.af x.2.1.1 0 x.1.2.2.2.1.length 1) x.1.2.2.2.2.1 x.2.1.2.2.1)::(bi,ao x.1.1)::(bl,ao x.1.2.1)::(bo,bN x.1.2.2.1)::(x.2.1.1,ao x.1.2.2.2.1++x.2.1.2.1)::(x.2.2.2.1,bL (x.2.2.1.1++[(x.2.2.1.2.1,x.2.2.1.2.2)])++x.2.2.2.2)::(x.2.1.2.2.2++σ))
  (fun x=>(FI n (au n l) x.1.1 x.1.2.1 x.1.2.2.1 x.1.2.2.2.1 x.1.2.2.2.2.1 x.1.2.2.2.2.2 (x.2.2.1.1++[(x.2.2.1.2.1,x.2.2.1.2.2)])∧PO x.1.2.2.2.2.2 x.2.1.2.2.1 x.2.1.2.2.2)∧x.1.1.getD a.toNat 0≠0∧∀b:Nat,lY.getD b 0≠0→x.1.1.getD b 0≠0)
  (fun x=>jm (au n l) (x.2.2.1.1++[(x.2.2.1.2.1,x.2.2.1.2.2)])+iM (au n l) x.1.1 n) ?_ ?_
 ·rintro⟨⟨ix,lo,on,st,aH,P⟩,⟨bs,Js,vp,eS⟩,⟨wy,v,k⟩,⟨bw,J⟩⟩ g ⟨⟨qb,uD⟩,q9,yr⟩
  have hF:FI n (au n l) ix lo on st aH P (wy++[(v,k)]):=qb
  have hP:PO P vp eS:=uD
  have hA:ix.getD a.toNat 0≠0:=q9
  have hM:∀b:Nat,lY.getD b 0≠0→ix.getD b 0≠0:=yr
  clear qb uD q9 yr
  have hle:=hF.Bj
  have bR:=hF.mem
  have dy:=hF.tj.node v bR
  have B6:k≤(au n l v).length:=hF.tn (v,k) (jM _ (bB.2 rfl))
  have mz:=yM n l v
  have wz:wy.length+1≤st.length:=by
   have:=hF.tj.sub.length_le
   rw[cg,bZ]at this
   exact this
  have nM:IntKind.i64.wrap (((wy.length+1:Nat):Int)-1)=((wy.length:Nat):Int):=by rw[cE (by omega)];omega
  have hX:0+(IntKind.i64.wrap (((wy.length+1:Nat):Int)-1)).toNat*2=wy.length*2:=by rw[nM];omega
  have nf:ep ⟨.int .i64,1,8,[.int .i64 0]⟩ (bL (wy++[(v,k)])++J) (0+(IntKind.i64.wrap (((wy.length+1:Nat):Int)-1)).toNat*2+0)=some (.int .i64 v):=jf rfl (by rw[hX];exact so rfl)
  have l0:ep ⟨.int .i64,1,8,[.int .i64 0]⟩ (bL (wy++[(v,k)])++J) (0+(IntKind.i64.wrap (((wy.length+1:Nat):Int)-1)).toNat*2+1)=some (.int .i64 k):=jf rfl (by rw[hX];exact CW rfl)
  have eG:(bL (wy++[(v,k)])++J).length=wy.length*2+2+J.length:=by rw[bZ,mJ,bZ];show (wy.length+1)*2+_=_;omega
  have n0:IntKind.i64.wrap ((k:Int)+1)=((k+1:Nat):Int):=by rw[cE (by omega)];omega
  have wA:kX ⟨.int .i64,1,8,[.int .i64 0]⟩ (bL (wy++[(v,k)])++J) (0+(IntKind.i64.wrap (((wy.length+1:Nat):Int)-1)).toNat*2+1) (.int .i64 (IntKind.i64.wrap ((k:Int)+1)))=some (bL (wy++[(v,k+1)])++J):=by
   rw[rH rfl rfl (by rw[hX,eG];omega),hX,n0,Df rfl]
  have vE:2=2∧0≤IntKind.i64.wrap (((wy.length+1:Nat):Int)-1)∧IntKind.i64.wrap (((wy.length+1:Nat):Int)-1)<((wy.length+1:Nat):Int):=⟨rfl,by omega,by omega⟩
  refine aG.mk vE ?_
  refine .quiet (by kernel_rfl) ?_
  refine bf 5 rfl l0 ?_
  refine aa 0 ?_
  refine bf 5 rfl nf ?_
  refine aG.mk rfl ?_
  refine bE.mk (au n l v) (by omega) (pG dy) ?_
  refine ak (p:=(k:Int)<(au n l v).length) (fun ab=>?_) (fun aq=>?_)
  ·have ab:k<(au n l v).length:=by omega
   obtain⟨b,hb⟩:∃b,(au n l v)[k]=b:=⟨_,rfl⟩
   have ta:b∈au n l v:=hb▸bP ab
   have dM:=(lL.1 ta).1
   refine .quiet (by kernel_rfl) ?_
   refine aa 0 ?_
   refine bf 5 rfl nf ?_
   refine aG.mk rfl ?_
   refine bE.mk (au n l v) (by omega) (pG dy) ?_
   refine bf 5 rfl l0 ?_
   refine aG.mk rfl ?_
   refine bE.mk b (by omega) ((get_some ab).trans (congrArg some hb)) ?_
   refine bf 5 rfl l0 ?_
   refine cT 5 rfl wA ?_
   refine aa 0 ?_
   refine aM ?_
   refine bf 1 rfl (fq rfl dM.1 (by rw[hF.li];omega)) ?_
   refine ak (p:=ix.getD b.toNat 0=0) (fun c1=>?_) (fun c1=>?_)
   ·have hN:=hF.new ab hb dM c1
    have ej:(ao st).length=st.length*1:=by rw[nq,eA]
    refine .mk [] _ (Bk w bi bl bo n (ca n l) ix lo st on aH _ vp _ b ((bw,bL (wy++[(v,k+1)])++J)::(eS++σ)) dM.1 dM.2 hF.li hF.ll hF.kM (.af bs st.length (ao st) Js ej) (by omega) (by omega)) ?_
    rintro _ _ ⟨rfl,BS,Es,fy,rfl⟩
    obtain⟨mc,px,rfl,rfl,_⟩:=fy.pos (by rw[bZ];show 0<_+1;omega)
    intro aB
    have I5:(bL (wy++[(v,k+1)])).length=(wy.length+1)*2:=by rw[mJ,bZ];rfl
    refine yI (k:=wy.length+1) (n:=1) [_,_,_,_,_,_] (.af bw (wy.length+1) (bL (wy++[(v,k+1)])) J I5) (.af 0 aB 0 1 _ rfl (cI rfl)) rfl (by omega) (by decide) (by decide) (fun v' bD h'=>?_)
    obtain⟨pv,J2,rfl,rfl,_⟩:=h'.pos (by omega)
    have OO:(wy++[(v,k+1)]).length+1=wy.length+1+1:=by rw[bZ];rfl
    have wJ:(b.toNat:Int)=b:=ma dM.1
    have s5:=LR (nx:=au n l) (ix:=ix) (b:=b.toNat) (v:=((aH+1:Nat):Int)) (by omega) c1 (by rw[hF.li];omega) n
    rw[ah (by omega),wJ]at s5
    refine .mk ((ix.set b.toNat ((aH+1:Nat):Int),lo.set b.toNat ((aH+1:Nat):Int),on.set b.toNat true,st++[b],aH+1,P),(mc,px,vp,eS),(wy++[(v,k+1)],b,0),(pv,J2)) rfl ?_ ⟨⟨hN,hP⟩,?_,?_⟩ ⟨rfl,by rw[OO];rfl,trivial⟩ (.drop 0 1 (aL (by rw[pz (wy++[(v,k+1)])];rfl)))
    ·show jm (au n l) ((wy++[(v,k+1)])++[(b,0)])+iM (au n l) (ix.set b.toNat ((aH+1:Nat):Int)) n<jm (au n l) (wy++[(v,k)])+iM (au n l) ix n
     rw[mf,mf,mf];omega
    ·show (ix.set b.toNat ((aH+1:Nat):Int)).getD a.toNat 0≠0
     rw[mK];split
     ·omega
     ·exact hA
    ·intro z hz
     show (ix.set b.toNat ((aH+1:Nat):Int)).getD z 0≠0
     rw[mK];split
     ·omega
     ·exact hM z hz
   ·have c1:¬(ix.getD b.toNat 0=0):=c1
    refine aa 0 ?_
    refine aM ?_
    have l5:=hF.wg b dM.1 dM.2
    have EL:ep ⟨.int .i64,1,8,[.int .i64 0]⟩ (bL (wy++[(v,k+1)])++J) (0+(IntKind.i64.wrap (((wy.length+1:Nat):Int)-1)).toNat*2+0)=some (.int .i64 v):=jf rfl (by rw[hX];exact so rfl)
    refine eY.kL 3 _ _ rfl (tE rfl dM.1 (by rw[hF.kM];omega)) (fun c2=>?_) (fun c2=>?_)
    ·rw[l5]at c2
     have hO:=hF.I1 ab hb (fk c2)
     refine .sched [] (upto [] 28 0) (by kernel_rfl) ?_
     refine aa 0 ?_
     refine bf 5 rfl EL ?_
     refine aa 0 ?_
     refine bf 5 rfl EL ?_
     refine aM ?_
     refine bf 2 rfl (fq rfl dy.1 (by rw[hF.ll];omega)) ?_
     refine aa 0 ?_
     refine aM ?_
     refine bf 1 rfl (fq rfl dM.1 (by rw[hF.li];omega)) ?_
     refine aM ?_
     refine cT 2 rfl (nu rfl _ dy.1 (by rw[hF.ll];omega)) ?_
     have jH:(if ix.getD b.toNat 0<lo.getD v.toNat 0 then ix.getD b.toNat 0 else lo.getD v.toNat 0)=min (lo.getD v.toNat 0) (ix.getD b.toNat 0):=by split <;> omega
     refine .mk ((ix,lo.set v.toNat (min (lo.getD v.toNat 0) (ix.getD b.toNat 0)),on,st,aH,P),(bs,Js,vp,eS),(wy,v,k+1),(bw,J)) rfl ?_ ⟨⟨hO,hP⟩,hA,hM⟩ ⟨rfl,rfl,trivial⟩ (aL (by rw[← jH];rfl))
     show jm (au n l) (wy++[(v,k+1)])+iM (au n l) ix n<jm (au n l) (wy++[(v,k)])+iM (au n l) ix n
     rw[mf,mf];omega
    ·rw[l5]at c2
     have hO:=hF.off ab hb dM.1 c1 (nj c2)
     refine .mk ((ix,lo,on,st,aH,P),(bs,Js,vp,eS),(wy,v,k+1),(bw,J)) rfl ?_ ⟨⟨hO,hP⟩,hA,hM⟩ ⟨rfl,rfl,trivial⟩ (.refl _)
     show jm (au n l) (wy++[(v,k+1)])+iM (au n l) ix n<jm (au n l) (wy++[(v,k)])+iM (au n l) ix n
     rw[mf,mf];omega
  ·have aq:k=(au n l v).length:=by omega
   have mZ:ep ⟨.bj [(0,3),(1,3)],2,16,[.int .i64 0,.int .i64 0]⟩ (bL (wy++[(v,k)])++J) (0+(IntKind.i64.wrap (((wy.length+1:Nat):Int)-1)).toNat*2)=some (.agg [.int .i64 v,.int .i64 k]):=Uo rfl (by rw[hX,eG];show wy.length*2+2≤_;omega) (by rw[hX];exact QM rfl)
   refine bf 5 rfl mZ ?_
   intro bt
   refine aj 0 ?_
   refine aa 0 ?_
   have qE:(IntKind.i64.wrap (((wy.length+1:Nat):Int)-1)).toNat-Int.toNat 0=wy.length:=by rw[nM];omega
   have df:0≤(0:Int)∧(0:Int)≤IntKind.i64.wrap (((wy.length+1:Nat):Int)-1)∧IntKind.i64.wrap (((wy.length+1:Nat):Int)-1)≤((wy.length+1:Nat):Int)∧2=2:=⟨by omega,by omega,by omega,rfl⟩
   by_cases he:lo.getD v.toNat 0=ix.getD v.toNat 0
   ·obtain⟨A,B,an,FO,hB1⟩:=R5 hF.tj.inc bR
    have OF:v ∉ A:=fun hm=>by have:=FO v hm;omega
    have OE:∀x∈v::B,0≤x∧x<(n:Int):=fun x hx=>hF.tj.node x (by rw[an];exact jM _ hx)
    have cf:=uS hF.tj.inc
    rw[an]at cf
    have hT:=hF.tell (by omega) an he (fun x y hy=>(lL.1 hy).1) (CH (v::B)) (Gu (pt.1 cf).2.1)
    have FM:=GH hF.tj.prt
    subst an
    have ej:(ao (A++v::B)).length=(A++v::B).length*1:=by rw[nq,eA]
    refine .perm _ (xa [_,_,_,_,_] eS σ _ _) (U5 w bi bl bo n (ca n l) ix lo A B on P aH _ vp _ eS v _ dy.1 dy.2 hF.li hF.ll hF.kM he OF OE (by omega) (by omega) (.af bs (A++v::B).length (ao (A++v::B)) Js ej) hP) ?_
    rintro _ _ ⟨rfl,eL,jh,gM,gG,dS,nY,rfl⟩
    have gv:((bt,[AV.int .i64 v,.int .i64 k])::(w,dr (ca n l) bi bl bo n eL aH gM)::(bi,ao ix)::(bl,ao lo)::(bo,bN (e8 (v::B) on))::(bw,bL (wy++[(v,k)])++J)::(jh++(gG++σ))).Perm ((w,dr (ca n l) bi bl bo n eL aH gM)::(bi,ao ix)::(bl,ao lo)::(bo,bN (e8 (v::B) on))::(jh++(gG++((bt,[AV.int .i64 v,.int .i64 k])::(bw,bL (wy++[(v,k)])++J)::σ)))):=by
     have h1:=(xa [(w,dr (ca n l) bi bl bo n eL aH gM),(bi,ao ix),(bl,ao lo),(bo,bN (e8 (v::B) on))] (jh++gG) σ (bt,[AV.int .i64 v,.int .i64 k]) (bw,bL (wy++[(v,k)])++J)).symm
     rw[dU,dU]at h1
     exact h1
    refine⟨_,gv,?_⟩
    refine aG.mk df ?_
    rcases Gc wy with dX | ⟨w',⟨u,i⟩,dX⟩
    ·have qI:wy.length=0:=by rw[dX];rfl
     rw[dX]at hT
     obtain rfl:A=[]:=hT.Vi
     refine ak (p:=(0:Int)<(((IntKind.i64.wrap (((wy.length+1:Nat):Int)-1)).toNat-Int.toNat 0:Nat):Int)) (fun c3=>?_) (fun c3=>?_)
     ·rw[qE,qI]at c3;exact absurd c3 (by decide)
     ·refine .drop 0 1 (.drop 4 1 (.done ⟨rfl,ix,lo,e8 (v::B) on,aH,P++[fN (v::B)],eL,jh,gM,gG,hT,dS,nY,hA,hM,rfl⟩))
    ·have dX:wy=w'++[(u,i)]:=by simpa using dX
     have qI:wy.length=w'.length+1:=by rw[dX,bZ];rfl
     have jq:(IntKind.i64.wrap (((wy.length+1:Nat):Int)-1)).toNat-Int.toNat 0=w'.length+1:=qE.trans qI
     have oI:IntKind.i64.wrap ((((IntKind.i64.wrap (((wy.length+1:Nat):Int)-1)).toNat-Int.toNat 0:Nat):Int)-1)=((w'.length:Nat):Int):=by rw[jq,cE (by omega)];omega
     have Ai:(0+Int.toNat 0*2)+(IntKind.i64.wrap ((((IntKind.i64.wrap (((wy.length+1:Nat):Int)-1)).toNat-Int.toNat 0:Nat):Int)-1)).toNat*2+0=w'.length*2:=by rw[oI,bC];show 0+0*2+_+0=_;omega
     have oR:bL (wy++[(v,k)])++J=bL (w'++[(u,i)])++([.int .i64 v,.int .i64 k]++J):=by rw[dX,pz,dU];rfl
     have s5:ep ⟨.int .i64,1,8,[.int .i64 0]⟩ (bL (wy++[(v,k)])++J) ((0+Int.toNat 0*2)+(IntKind.i64.wrap ((((IntKind.i64.wrap (((wy.length+1:Nat):Int)-1)).toNat-Int.toNat 0:Nat):Int)-1)).toNat*2+0)=some (.int .i64 u):=jf rfl (by rw[Ai,oR];exact so rfl)
     have fD:0≤u∧u<(n:Int):=hF.tj.node u (hF.tj.sub.subset (by rw[dX];simp))
     have iX:AV.af bw (0+Int.toNat 0*2) ((IntKind.i64.wrap (((wy.length+1:Nat):Int)-1)).toNat-Int.toNat 0) 2=.af bw 0 (w'.length+1) 2:=by rw[jq];rfl
     have Ns:AV.af bw 0 (w'.length+1) 2=AV.af bw (0+Int.toNat 0*2) ((IntKind.i64.wrap (((wy.length+1:Nat):Int)-1)).toNat-Int.toNat 0) 2:=iX.symm
     refine ak (p:=(0:Int)<(((IntKind.i64.wrap (((wy.length+1:Nat):Int)-1)).toNat-Int.toNat 0:Nat):Int)) (fun c3=>?_) (fun c3=>?_)
     rotate_left
     ·rw[jq]at c3;omega
     have zi:2=2∧0≤IntKind.i64.wrap ((((IntKind.i64.wrap (((wy.length+1:Nat):Int)-1)).toNat-Int.toNat 0:Nat):Int)-1)∧IntKind.i64.wrap ((((IntKind.i64.wrap (((wy.length+1:Nat):Int)-1)).toNat-Int.toNat 0:Nat):Int)-1)<(((IntKind.i64.wrap (((wy.length+1:Nat):Int)-1)).toNat-Int.toNat 0:Nat):Int):=⟨rfl,by rw[oI];omega,by rw[oI,jq];omega⟩
     refine aG.mk zi ?_
     refine bf 5 rfl s5 ?_
     refine .sched [] (upto [] 23 0) (by kernel_rfl) ?_
     refine aa 1 ?_
     refine aa 1 ?_
     refine aM ?_
     refine bf 3 rfl (fq rfl fD.1 (by rw[hF.ll];omega)) ?_
     refine aa 1 ?_
     refine aa 0 ?_
     refine aM ?_
     refine bf 3 rfl (fq rfl dy.1 (by rw[hF.ll];omega)) ?_
     refine aM ?_
     refine cT 3 rfl (nu rfl _ fD.1 (by rw[hF.ll];omega)) ?_
     have jH:(if lo.getD v.toNat 0<lo.getD u.toNat 0 then lo.getD v.toNat 0 else lo.getD u.toNat 0)=min (lo.getD u.toNat 0) (lo.getD v.toNat 0):=by split <;> omega
     have Pr:0<A.length:=List.length_pos_of_mem (a:=u) (hT.tj.sub.subset (by rw[dX];simp))
     obtain⟨mc,px,rfl,rfl,_⟩:=dS.pos Pr
     have No:=FI.same (dX▸hF) he
     rw[dX]at hT
     have hE:(w,dr (ca n l) bi bl bo n (.af mc 0 A.length 1) aH gM)::(bi,ao ix)::(bl,ao (lo.set u.toNat (if lo.getD v.toNat 0<lo.getD u.toNat 0 then lo.getD v.toNat 0 else lo.getD u.toNat 0)))::(bo,bN (e8 (v::B) on))::(mc,ao A++px)::(bw,bL (wy++[(v,k)])++J)::(gG++σ)=(w,dr (ca n l) bi bl bo n (.af mc 0 A.length 1) aH gM)::(bi,ao ix)::(bl,ao (lo))::(bo,bN (e8 (v::B) on))::(mc,ao A++px)::(bw,bL (w'++[(u,i)])++([.int .i64 v,.int .i64 k]++J))::(gG++σ):=by rw[jH,No,oR]
     refine .mk ((ix,lo,e8 (v::B) on,A,aH,P++[fN (v::B)]),(mc,px,gM,gG),(w',u,i),(bw,[AV.int .i64 v,.int .i64 k]++J)) rfl ?_ ⟨⟨hT,nY⟩,hA,hM⟩ ⟨rfl,iX,trivial⟩ (.drop 0 1 (.pull [4,4,4,4,5] (aL hE)))
     show jm (au n l) (w'++[(u,i)])+iM (au n l) ix n<jm (au n l) (wy++[(v,k)])+iM (au n l) ix n
     rw[dX,mf (au n l) (w'++[(u,i)])];omega
   ·have Pk:=fun ρ=>TY w bi bl bo n (ca n l) ix lo on aH (.af bs 0 st.length 1) vp v ρ dy.1 dy.2 hF.li hF.ll he
    refine aw [4,4,4,4] (Pk _) ?_
    refine aG.mk df ?_
    rcases Gc wy with dX | ⟨w',⟨u,i⟩,dX⟩
    ·have qI:wy.length=0:=by rw[dX];rfl
     rw[dX]at hF
     exact absurd hF.one he
    ·have dX:wy=w'++[(u,i)]:=by simpa using dX
     have qI:wy.length=w'.length+1:=by rw[dX,bZ];rfl
     have jq:(IntKind.i64.wrap (((wy.length+1:Nat):Int)-1)).toNat-Int.toNat 0=w'.length+1:=qE.trans qI
     have oI:IntKind.i64.wrap ((((IntKind.i64.wrap (((wy.length+1:Nat):Int)-1)).toNat-Int.toNat 0:Nat):Int)-1)=((w'.length:Nat):Int):=by rw[jq,cE (by omega)];omega
     have Ai:(0+Int.toNat 0*2)+(IntKind.i64.wrap ((((IntKind.i64.wrap (((wy.length+1:Nat):Int)-1)).toNat-Int.toNat 0:Nat):Int)-1)).toNat*2+0=w'.length*2:=by rw[oI,bC];show 0+0*2+_+0=_;omega
     have oR:bL (wy++[(v,k)])++J=bL (w'++[(u,i)])++([.int .i64 v,.int .i64 k]++J):=by rw[dX,pz,dU];rfl
     have s5:ep ⟨.int .i64,1,8,[.int .i64 0]⟩ (bL (wy++[(v,k)])++J) ((0+Int.toNat 0*2)+(IntKind.i64.wrap ((((IntKind.i64.wrap (((wy.length+1:Nat):Int)-1)).toNat-Int.toNat 0:Nat):Int)-1)).toNat*2+0)=some (.int .i64 u):=jf rfl (by rw[Ai,oR];exact so rfl)
     have fD:0≤u∧u<(n:Int):=hF.tj.node u (hF.tj.sub.subset (by rw[dX];simp))
     have iX:AV.af bw (0+Int.toNat 0*2) ((IntKind.i64.wrap (((wy.length+1:Nat):Int)-1)).toNat-Int.toNat 0) 2=.af bw 0 (w'.length+1) 2:=by rw[jq];rfl
     have Ns:AV.af bw 0 (w'.length+1) 2=AV.af bw (0+Int.toNat 0*2) ((IntKind.i64.wrap (((wy.length+1:Nat):Int)-1)).toNat-Int.toNat 0) 2:=iX.symm
     refine ak (p:=(0:Int)<(((IntKind.i64.wrap (((wy.length+1:Nat):Int)-1)).toNat-Int.toNat 0:Nat):Int)) (fun c3=>?_) (fun c3=>?_)
     rotate_left
     ·rw[jq]at c3;omega
     have zi:2=2∧0≤IntKind.i64.wrap ((((IntKind.i64.wrap (((wy.length+1:Nat):Int)-1)).toNat-Int.toNat 0:Nat):Int)-1)∧IntKind.i64.wrap ((((IntKind.i64.wrap (((wy.length+1:Nat):Int)-1)).toNat-Int.toNat 0:Nat):Int)-1)<(((IntKind.i64.wrap (((wy.length+1:Nat):Int)-1)).toNat-Int.toNat 0:Nat):Int):=⟨rfl,by rw[oI];omega,by rw[oI,jq];omega⟩
     refine aG.mk zi ?_
     refine bf 6 rfl s5 ?_
     refine .sched [] (upto [] 23 0) (by kernel_rfl) ?_
     refine aa 0 ?_
     refine aa 0 ?_
     refine aM ?_
     refine bf 2 rfl (fq rfl fD.1 (by rw[hF.ll];omega)) ?_
     refine aa 0 ?_
     refine aa 4 ?_
     refine aM ?_
     refine bf 2 rfl (fq rfl dy.1 (by rw[hF.ll];omega)) ?_
     refine aM ?_
     refine cT 2 rfl (nu rfl _ fD.1 (by rw[hF.ll];omega)) ?_
     have jH:(if lo.getD v.toNat 0<lo.getD u.toNat 0 then lo.getD v.toNat 0 else lo.getD u.toNat 0)=min (lo.getD u.toNat 0) (lo.getD v.toNat 0):=by split <;> omega
     have hU:=FI.up (dX▸hF) (by omega) he
     have hE:(w,dr (ca n l) bi bl bo n (.af bs 0 st.length 1) aH vp)::(bi,ao ix)::(bl,ao (lo.set u.toNat (if lo.getD v.toNat 0<lo.getD u.toNat 0 then lo.getD v.toNat 0 else lo.getD u.toNat 0)))::(bo,bN (on))::(bs,ao st++Js)::(bw,bL (wy++[(v,k)])++J)::(eS++σ)=(w,dr (ca n l) bi bl bo n (.af bs 0 st.length 1) aH vp)::(bi,ao ix)::(bl,ao (lo.set u.toNat (min (lo.getD u.toNat 0) (lo.getD v.toNat 0))))::(bo,bN (on))::(bs,ao st++Js)::(bw,bL (w'++[(u,i)])++([.int .i64 v,.int .i64 k]++J))::(eS++σ):=by rw[jH,oR]
     refine .mk ((ix,lo.set u.toNat (min (lo.getD u.toNat 0) (lo.getD v.toNat 0)),on,st,aH,P),(bs,Js,vp,eS),(w',u,i),(bw,[AV.int .i64 v,.int .i64 k]++J)) rfl ?_ ⟨⟨hU,hP⟩,hA,hM⟩ ⟨rfl,iX,trivial⟩ (.drop 4 1 (aL hE))
     show jm (au n l) (w'++[(u,i)])+iM (au n l) ix n<jm (au n l) (wy++[(v,k)])+iM (au n l) ix n
     rw[dX,mf (au n l) (w'++[(u,i)])];omega
 ·intro hr
  obtain⟨ix,lo,on,hF,hA,hM,heq,Cm⟩:∃ix lo on,FI n (au n l) ix lo on [a] (dJ+1) P0 [(a,0)]∧ix.getD a.toNat 0≠0∧(∀b:Nat,lY.getD b 0≠0→ix.getD b 0≠0)∧lo.getD a.toNat 0=ix.getD a.toNat 0∧∀ρ,ACalls Tryz.prog 314 [.ptr w 0,.int .i64 a] ((w,dr (ca n l) bi bl bo n um dJ gj)::(bi,ao lY)::(bl,ao wm)::(bo,bN wh)::(vK++ρ))
    (fun r σ'=>r=.agg [.int .i64 a,.int .i64 0]∧∃bs Js,σ'=(w,dr (ca n l) bi bl bo n (.af bs 0 [a].length 1) (dJ+1) gj)::(bi,ao ix)::(bl,ao lo)::(bo,bN on)::(bs,ao [a]++Js)::ρ):=by
   have h1:=h.enter (way2:=[]) ha hf (fun v hv=>by cases hv) rfl (fun t ht=>by cases ht) (fun t ht=>by cases ht)
   refine⟨_,_,_,h1,?_,?_,?_,fun ρ=>(Bk w bi bl bo n (ca n l) lY wm [] wh dJ um gj vK a ρ ha.1 ha.2 h.li h.ll h.kM hs (bA _) (by omega)).mono ?_⟩
   ·rw[mK,ah ⟨rfl,by rw[h.li];omega⟩];omega
   ·intro z hz
    rw[mK];split
    ·omega
    ·exact hz
   ·rw[mK,mK,ah ⟨rfl,by rw[h.ll];omega⟩,ah ⟨rfl,by rw[h.li];omega⟩]
   ·rintro _ _ ⟨rfl,BS,Es,fy,rfl⟩
    obtain⟨bs,Js,rfl,rfl,_⟩:=fy.pos (by show 0<1;decide)
    exact⟨rfl,bs,Js,rfl⟩
  clear hf hs h
  have hle:=hF.Bj
  have B6:=yM n l a
  refine .mk [] _ (Cm (iL++σ)) ?_
  rintro _ _ ⟨rfl,bs,Js,rfl⟩
  intro bw
  refine aG.mk ⟨rfl,by decide,by decide⟩ ?_
  refine .quiet (by kernel_rfl) ?_
  refine aa 0 ?_
  refine aa 1 ?_
  refine aa 0 ?_
  refine aG.mk rfl ?_
  refine bE.mk (au n l a) (by omega) (pG ha) ?_
  refine ak (p:=(0:Int)<(au n l a).length) (fun ab=>?_) (fun aq=>?_)
  ·have ab:0<(au n l a).length:=by omega
   obtain⟨b,hb⟩:∃b,(au n l a)[0]=b:=⟨_,rfl⟩
   have ta:b∈au n l a:=hb▸bP ab
   have dM:=(lL.1 ta).1
   refine .quiet (by kernel_rfl) ?_
   refine aa 1 ?_
   refine aa 0 ?_
   refine aG.mk rfl ?_
   refine bE.mk (au n l a) (by omega) (pG ha) ?_
   refine aa 0 ?_
   refine aG.mk rfl ?_
   refine bE.mk b (by decide) ((get_some ab).trans (congrArg some hb)) ?_
   refine aa 0 ?_
   refine aj 0 ?_
   refine aa 1 ?_
   refine aM ?_
   refine bf 2 rfl (fq rfl dM.1 (by rw[hF.li];omega)) ?_
   refine ak (p:=ix.getD b.toNat 0=0) (fun c1=>?_) (fun c1=>?_)
   ·have hN:=FI.new (w:=[]) hF ab hb dM c1
    refine .mk [5,5,5,5,5] _ (Bk w bi bl bo n (ca n l) ix lo [a] on (dJ+1) _ gj _ b ((bw,[.int .i64 a,.int .i64 1])::(iL++σ)) dM.1 dM.2 hF.li hF.ll hF.kM (.af bs 1 (ao [a]) Js rfl) (by show 1≤10000;decide) (by omega)) ?_
    rintro _ _ ⟨rfl,BS,Es,fy,rfl⟩
    obtain⟨mc,px,rfl,rfl,_⟩:=fy.pos (by show 0<2;decide)
    intro aB
    refine yI (k:=1) (n:=1) [_,_,_,_,_,_] (.af bw 1 (bL [(a,1)]) [] rfl) (.af 0 aB 0 1 _ rfl (cI rfl)) rfl (by decide) (by decide) (by decide) (fun v' bD h'=>?_)
    obtain⟨pv,J2,rfl,rfl,_⟩:=h'.pos (by decide)
    refine xe hr ((ix.set b.toNat ((dJ+1+1:Nat):Int),lo.set b.toNat ((dJ+1+1:Nat):Int),on.set b.toNat true,[a]++[b],dJ+1+1,P0),(mc,px,gj,iL),([(a,1)],b,0),(pv,J2)) ⟨rfl,⟨⟨hN,hp⟩,?_,?_⟩,⟨rfl,rfl,trivial⟩,.drop 0 1 (aL rfl)⟩
    ·show (ix.set b.toNat ((dJ+1+1:Nat):Int)).getD a.toNat 0≠0
     rw[mK];split
     ·omega
     ·exact hA
    ·intro z hz
     show (ix.set b.toNat ((dJ+1+1:Nat):Int)).getD z 0≠0
     rw[mK];split
     ·omega
     ·exact hM z hz
   ·have c1:¬(ix.getD b.toNat 0=0):=c1
    have l5:=hF.wg b dM.1 dM.2
    refine aa 1 ?_
    refine aM ?_
    refine eY.kL 4 _ _ rfl (tE rfl dM.1 (by rw[hF.kM];omega)) (fun c2=>?_) (fun c2=>?_)
    ·rw[l5]at c2
     have hO:=FI.I1 (w:=[]) hF ab hb (fk c2)
     refine .sched [] (upto [] 28 0) (by kernel_rfl) ?_
     refine aa 1 ?_
     refine aa 0 ?_
     refine aa 1 ?_
     refine aa 0 ?_
     refine aM ?_
     refine bf 3 rfl (fq rfl ha.1 (by rw[hF.ll];omega)) ?_
     refine aa 1 ?_
     refine aM ?_
     refine bf 2 rfl (fq rfl dM.1 (by rw[hF.li];omega)) ?_
     refine aM ?_
     refine cT 3 rfl (nu rfl _ ha.1 (by rw[hF.ll];omega)) ?_
     have jH:(if ix.getD b.toNat 0<lo.getD a.toNat 0 then ix.getD b.toNat 0 else lo.getD a.toNat 0)=min (lo.getD a.toNat 0) (ix.getD b.toNat 0):=by split <;> omega
     have hE:(w,dr (ca n l) bi bl bo n (.af bs 0 [a].length 1) (dJ+1) gj)::(bi,ao ix)::(bl,ao (lo.set a.toNat (if ix.getD b.toNat 0<lo.getD a.toNat 0 then ix.getD b.toNat 0 else lo.getD a.toNat 0)))::(bo,bN on)::(bs,ao [a]++Js)::(bw,bL [(a,1)]++[])::(iL++σ)=(w,dr (ca n l) bi bl bo n (.af bs 0 [a].length 1) (dJ+1) gj)::(bi,ao ix)::(bl,ao (lo.set a.toNat (min (lo.getD a.toNat 0) (ix.getD b.toNat 0))))::(bo,bN on)::(bs,ao [a]++Js)::(bw,bL [(a,1)]++[])::(iL++σ):=by rw[jH]
     exact xe hr ((ix,lo.set a.toNat (min (lo.getD a.toNat 0) (ix.getD b.toNat 0)),on,[a],dJ+1,P0),(bs,Js,gj,iL),([],a,1),(bw,[])) ⟨rfl,⟨⟨hO,hp⟩,hA,hM⟩,⟨rfl,rfl,trivial⟩,.pull [5,5,5,5,5] (aL hE)⟩
    ·rw[l5]at c2
     have hO:=FI.off (w:=[]) hF ab hb dM.1 c1 (nj c2)
     exact xe hr ((ix,lo,on,[a],dJ+1,P0),(bs,Js,gj,iL),([],a,1),(bw,[])) ⟨rfl,⟨⟨hO,hp⟩,hA,hM⟩,⟨rfl,rfl,trivial⟩,.pull [5,5,5,5,5] (aL rfl)⟩
  ·have aq:(au n l a).length=0:=by omega
   refine aa 0 ?_
   intro aB
   refine aj 0 ?_
   refine aa 0 ?_
   have hT:=FI.tell (w:=[]) (A:=[]) (B:=[]) (part:=fN [a]) hF (by omega) rfl heq (fun x y hy=>(lL.1 hy).1) (CH [a]) (Gu (by simp))
   have FM:=GH hF.tj.prt
   have NT:((w,dr (ca n l) bi bl bo n (.af bs 0 [a].length 1) (dJ+1) gj)::(bi,ao ix)::(bl,ao lo)::(bo,bN on)::(bs,ao [a]++Js)::(iL++((aB,[AV.int .i64 a,.int .i64 0])::(bw,[AV.int .i64 a,.int .i64 0])::σ))).Perm ((aB,[AV.int .i64 a,.int .i64 0])::(bw,[AV.int .i64 a,.int .i64 0])::(w,dr (ca n l) bi bl bo n (.af bs 0 [a].length 1) (dJ+1) gj)::(bi,ao ix)::(bl,ao lo)::(bo,bN on)::(bs,ao [a]++Js)::(iL++σ)):=by
    have h1:=xa [(w,dr (ca n l) bi bl bo n (.af bs 0 [a].length 1) (dJ+1) gj),(bi,ao ix),(bl,ao lo),(bo,bN on),(bs,ao [a]++Js)] iL σ (aB,[AV.int .i64 a,.int .i64 0]) (bw,[AV.int .i64 a,.int .i64 0])
    exact h1.trans (List.Perm.cons _ (oh (l₁:=[(w,dr (ca n l) bi bl bo n (.af bs 0 [a].length 1) (dJ+1) gj),(bi,ao ix),(bl,ao lo),(bo,bN on),(bs,ao [a]++Js)])))
   refine .perm _ NT (U5 w bi bl bo n (ca n l) ix lo [] [] on P0 (dJ+1) _ gj _ iL a _ ha.1 ha.2 hF.li hF.ll hF.kM heq (by simp) (fun x hx=>by rw[List.mem_singleton.1 hx];exact ha) (by show 1≤10000;decide) (by omega) (.af bs 1 (ao [a]) Js rfl) hp) ?_
   rintro _ _ ⟨rfl,eL,jh,gM,gG,dS,nY,rfl⟩
   have gv:((aB,[AV.int .i64 a,.int .i64 0])::(w,dr (ca n l) bi bl bo n eL (dJ+1) gM)::(bi,ao ix)::(bl,ao lo)::(bo,bN (e8 [a] on))::(bw,[AV.int .i64 a,.int .i64 0])::(jh++(gG++σ))).Perm ((w,dr (ca n l) bi bl bo n eL (dJ+1) gM)::(bi,ao ix)::(bl,ao lo)::(bo,bN (e8 [a] on))::(jh++(gG++((aB,[AV.int .i64 a,.int .i64 0])::(bw,[AV.int .i64 a,.int .i64 0])::σ)))):=by
    have h1:=(xa [(w,dr (ca n l) bi bl bo n eL (dJ+1) gM),(bi,ao ix),(bl,ao lo),(bo,bN (e8 [a] on))] (jh++gG) σ (aB,[AV.int .i64 a,.int .i64 0]) (bw,[AV.int .i64 a,.int .i64 0])).symm
    rw[dU,dU]at h1
    exact h1
   refine⟨_,gv,?_⟩
   refine aG.mk (by decide) ?_
   exact .drop 0 1 (.drop 4 1 (.done ⟨rfl,ix,lo,e8 [a] on,dJ+1,P0++[fN [a]],eL,jh,gM,gG,hT,dS,nY,hA,hM,rfl⟩))
end Go.Proofs.YtnikdflhefijbaaGreat
