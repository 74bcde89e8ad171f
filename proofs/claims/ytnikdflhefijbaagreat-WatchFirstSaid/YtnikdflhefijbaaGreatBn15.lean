import Derived.Test.YtnikdflhefijbaaGreatBn14
import Derived.Test.YtnikdflhefijbaaGreatBn13
namespace Go.Proofs.YtnikdflhefijbaaGreat
open Go.RowKit
set_option maxRecDepth 100000
theorem iy.zero{e:Nat}{v:AV}{acc:Hp}{cs:List AV}(h:iy e 0 v acc cs):(v=.ai∧acc=[])∨∃b J,v=.af b 0 0 e∧acc=[(b,J)]:=by
 generalize hz:(0:Nat)=z at h
 cases h with
 |nil=>exact .inl ⟨rfl,rfl⟩
 |af b k cs J h=>subst hz;exact .inr ⟨b,_,rfl,rfl⟩
def xq(W:List Int)(T:List Bool)(i:Int)(x:bA):Bool:=decide (W.getD x.2.1.toNat 0=i)&&decide (W.getD x.1.toNat 0≠i)&&!T.getD (W.getD x.1.toNat 0).toNat false
theorem ags(bW bw bI bT bt n m:Nat)(W:List Int)(T:List Bool)(i:Int)(x:bA)(σ:Hp)(h1:0≤x.1∧x.1<n)(h2:0≤x.2.1∧x.2.1<n)(hW:W.length=n)(hT:T.length=m)(hr:0≤W.getD x.1.toNat 0∧W.getD x.1.toNat 0<m):
  ACalls Tryz.prog 317 (Bj x::[.ptr bW 0,.ptr bI 0,.ptr bT 0]) ((bI,[.int .i64 i])::(bT,[.af bt 0 m 1])::(bW,[.af bw 0 n 1])::(bw,ao W)::(bt,bJ T)::σ) (aB (.bool (xq W T i x)) ((bI,[.int .i64 i])::(bT,[.af bt 0 m 1])::(bW,[.af bw 0 n 1])::(bw,ao W)::(bt,bJ T)::σ)):=by
 obtain⟨x1,x2,xu⟩:=x
 have h1:0≤x1∧x1<n:=h1
 have h2:0≤x2∧x2<n:=h2
 have hr:0≤W.getD x1.toNat 0∧W.getD x1.toNat 0<m:=hr
 refine au Tryz.func317 ?_
 intro bx
 refine .quiet (by kernel_rfl) ?_
 refine aa 3 ?_
 refine aa 0 ?_
 refine aK ?_
 refine aZ 4 rfl (fg rfl h2.1 (by omega)) ?_
 refine aa 1 ?_
 refine ak (fun c1=>?_) (fun c1=>?_)
 ·have c1:W.getD x2.toNat 0=i:=c1
  refine aa 3 ?_
  refine aa 0 ?_
  refine aK ?_
  refine aZ 4 rfl (fg rfl h1.1 (by omega)) ?_
  refine aa 1 ?_
  refine cI (fun c2=>?_) (fun c2=>?_)
  ·have c2:¬(W.getD x1.toNat 0=i):=by simpa using c2
   refine aa 2 ?_
   refine aa 3 ?_
   refine aa 0 ?_
   refine aK ?_
   have hL:∀b,T.getD (W.getD x1.toNat 0).toNat false=b→xq W T i (x1,x2,xu) = !b:=fun b hb=>by
    unfold xq
    rw[aL (show W.getD x2.toNat 0=i from c1),aL (show W.getD x1.toNat 0≠i from c2)]
    show (true&&true&&!T.getD (W.getD x1.toNat 0).toNat false)=_
    rw[hb];rfl
   refine aZ 4 rfl (fg rfl h1.1 (by omega)) ?_
   refine aK ?_
   refine eU.kC 5 _ _ rfl (tA rfl hr.1 (by omega)) (fun c3=>?_) (fun c3=>?_)
   ·exact .drop 0 1 (.done ⟨bY (hL true c3).symm,rfl⟩)
   ·exact .drop 0 1 (.done ⟨bY (hL false c3).symm,rfl⟩)
  ·have c2:W.getD x1.toNat 0=i:=by simpa using c2
   refine .drop 0 1 (.done ⟨bY ?_,rfl⟩)
   unfold xq
   rw[bH (show ¬(W.getD x1.toNat 0≠i) from fun h=>h c2),JK];rfl
 ·have c1:¬(W.getD x2.toNat 0=i):=c1
  refine .drop 0 1 (.done ⟨bY ?_,rfl⟩)
  unfold xq
  rw[bH (show ¬(W.getD x2.toNat 0=i) from c1)];rfl
theorem Wu(bW bw bl bT bt n m:Nat)(l:List bA)(W:List Int)(T:List Bool)(i:Int)(σ:Hp)(hl:l.length≤100000)(hi:0≤i∧i<m)(hr:∀e∈l,(0≤e.1∧e.1<(n:Int))∧0≤e.2.1∧e.2.1<(n:Int))(hW:W.length=n)(hT:T.length=m)(hw:∀k:Nat,k<n→0≤W.getD k 0∧W.getD k 0<m):
  ACalls Tryz.prog 316 [.int .i64 i,.ptr bT 0,.ptr bl 0,.ptr bW 0] ((bT,[.af bt 0 m 1])::(bW,[.af bw 0 n 1])::(bw,ao W)::(bt,bJ T)::(bl,[.ae dC l])::σ) (aB (.bool (nu l W T i)) ((bT,[.af bt 0 m 1])::(bW,[.af bw 0 n 1])::(bw,ao W)::(bt,bJ T)::(bl,[.ae dC l])::σ)):=by
 have hF:∀b,T.getD i.toNat false=b→nu l W T i=(!b&&!l.any (xq W T i)):=fun b hb=>by unfold nu;rw[hb];rfl
 refine au Tryz.func316 ?_
 intro bI
 refine aa 1 ?_
 refine aa 0 ?_
 refine aK ?_
 refine eU.kC 4 _ _ rfl (tA rfl hi.1 (by omega)) (fun c1=>?_) (fun c1=>?_)
 ·exact .drop 0 1 (.done ⟨bY (hF true c1).symm,rfl⟩)
 ·refine aa 5 ?_
  have hg:∀(k:Nat) (hk:k<l.length),ACalls Tryz.prog 317 (Bj l[k]::[.ptr bW 0,.ptr bI 0,.ptr bT 0]) ((bI,[.int .i64 i])::(bT,[.af bt 0 m 1])::(bW,[.af bw 0 n 1])::(bw,ao W)::(bt,bJ T)::(bl,[.ae dC l])::σ) (aB (.bool (xq W T i l[k])) ((bI,[.int .i64 i])::(bT,[.af bt 0 m 1])::(bW,[.af bw 0 n 1])::(bw,ao W)::(bt,bJ T)::(bl,[.ae dC l])::σ)):=fun k hk=>by
   obtain⟨h1,h2⟩:=hr _ (bX hk)
   exact ags bW bw bI bT bt n m W T i l[k] _ h1 h2 hW hT (hw _ (by omega))
  refine az [] (Qv 317 _ l (xq W T i) _ (eu hl (by decide)) hg) ?_
  exact .drop 0 1 (.done ⟨bY (hF false c1).symm,rfl⟩)
theorem yJ:∀n:Nat,cJ [.int .i64 0] n=ao (List.replicate n 0)
 | 0=>rfl
 |n+1=>by
  show [AV.int .i64 0]++cJ [.int .i64 0] n=_
  rw[yJ n];rfl
theorem Tz(n:Nat)(l:List bA)(P:List (List Int))(σ:Hp)(h:oO n l P)(hl:l.length≤100000)(hn:n≤1000)(hr:∀e∈l,(0≤e.1∧e.1<(n:Int))∧0≤e.2.1∧e.2.1<(n:Int)):
  ACalls Tryz.prog 291 [.int .i64 n,.ae dC l,.ae (.slice (.int .i64)) P] σ (aB (.ae (.slice (.int .i64)) (kb n l)) σ):=by
 obtain⟨sW,hpf⟩:=CU h.ok
 have hNt:((n:Nat):Int).toNat=n:=bO n
 refine au Tryz.func291 ?_
 intro bl
 refine aY ?_
 intro bw
 intro bW
 refine aj 0 ?_
 refine cc (S:=Nat) (fun k=>[(2,.ae (.slice (.int .i64)) P),(4,.ptr bl 0),(7,.ptr bW 0),(20,.ae (.slice (.int .i64)) P),(21,.int .i64 P.length),(22,.int .i64 k)]) (fun k=>(bW,[.af bw 0 n 1])::(bw,ao (mP P k (List.replicate n 0)))::(bl,[.ae dC l])::σ) (fun k=>k≤P.length) (fun k=>P.length-k) 0 ⟨bE _,⟨rfl,rfl,rfl,rfl,rfl,rfl,trivial⟩,by rw[show ao (mP P 0 (List.replicate n 0))=cJ [.int .i64 0] n from (yJ n).symm];rfl⟩ ?_
 intro k g aP
 have hk:k≤P.length:=aP
 clear aP
 refine ak (p:=(k:Int)<P.length) (fun ab=>?_) (fun aq=>?_)
 ·have ab:k<P.length:=by omega
  obtain⟨p,hp⟩:∃p,P[k]=p:=⟨_,rfl⟩
  have eW:P[k]?=some p:=(bj ab).trans (congrArg some hp)
  have sV:=h.ok.node p (cu eW)
  have ahY:p.length≤n:=CW n p ((h.ok.BJ p (cu eW)).imp fun h=>by omega) sV
  have sd:=CE P k (List.replicate n 0)
  rw[gG]at sd
  have sS:mP P (k+1) (List.replicate n 0)=lh k p (mP P k (List.replicate n 0)):=by show lh k (P.getD k []) _=_;rw[uW eW]
  generalize mP P k (List.replicate n 0)=W at sd sS
  refine aG.mk rfl (bM.mk p (by omega) (show P[((k:Nat):Int).toNat]?=some p by rw[bO];exact eW) ?_)
  refine cc (S:=Nat) (fun j=>[(2,.ae (.slice (.int .i64)) P),(4,.ptr bl 0),(7,.ptr bW 0),(8,.int .i64 k),(20,.ae (.slice (.int .i64)) P),(21,.int .i64 P.length),(22,.int .i64 k),(27,.ae (.int .i64) p),(28,.int .i64 p.length),(29,.int .i64 j)]) (fun j=>(bW,[.af bw 0 n 1])::(bw,ao (lh k (p.take j) W))::(bl,[.ae dC l])::σ) (fun j=>j≤p.length) (fun j=>p.length-j) 0 ⟨bE _,⟨rfl,rfl,rfl,rfl,rfl,rfl,rfl,rfl,rfl,rfl,trivial⟩,rfl⟩ ?_
  intro j g2 pY
  have hj:j≤p.length:=pY
  clear pY
  refine ak (p:=(j:Int)<p.length) (fun eL=>?_) (fun pQ=>?_)
  ·have eL:j<p.length:=by omega
   obtain⟨a,ha⟩:∃a,p[j]=a:=⟨_,rfl⟩
   have s6:=sV a (ha▸bX eL)
   have an:(lh k (p.take j) W).set a.toNat k=lh k (p.take (j+1)) W:=by unfold lh;rw[fw eL,ha,s9];rfl
   have v7:=Gi k (p.take j) W
   refine aG.mk rfl (bM.mk a (by omega) ((get_some eL).trans (congrArg some ha)) ?_)
   refine aa 0 ?_
   refine aK ?_
   refine da 1 rfl (nq rfl _ s6.1 (by omega)) ?_
   exact bg (j+1) (by show p.length-(j+1)<p.length-j;omega) eL ⟨rfl,rfl,rfl,rfl,rfl,rfl,rfl,rfl,rfl,a8 (by omega),trivial⟩ (aN (by rw[← an];rfl))
  ·have pQ:j=p.length:=by omega
   subst pQ
   exact bg (k+1) (by show P.length-(k+1)<P.length-k;omega) ab ⟨rfl,rfl,rfl,rfl,rfl,a8 (by omega),trivial⟩ (aN (by rw[fu,sS]))
 ·have aq:k=P.length:=by omega
  subst aq
  have OW:∀j:Nat,j<n→0≤(bu n P).getD j 0∧(bu n P).getD j 0<(P.length:Int):=fun j hj=>by
   obtain⟨i,p,hi,_,hw⟩:=h.idx (x:=(j:Int)) (by omega)
   rw[bO]at hw
   have:=yD hi
   rw[hw];omega
  have sd:=Qz n P
  have Ew:=fun k hk=>(Hi h hr k hk)
  have xI:=MI h hr
  have aQ:∀(i:Nat) (p:List Int),P[i]?=some p→p[((0:Int)).toNat]?=some (iu P i):=fun i p hi=>by
   unfold iu
   rw[uW hi]
   exact Ur (mB.2 (h.ok.ne p (cu hi)))
  rw[show mP P P.length (List.replicate n 0)=bu n P from rfl]
  refine aG.mk ⟨by omega,by omega,by show ((P.length:Nat):Int)≤1048576;omega,by decide⟩ ?_
  intro bt
  intro bT
  refine aj 0 ?_
  obtain⟨m,hm⟩:∃m,P.length=m:=⟨_,rfl⟩
  refine .wrap 14 _ rfl rfl ?_
  refine .dN (.pull [0,2,3,3] (.refl _)) ?_
  refine cc (S:=Nat×AV×Hp) (fun x=>[(2,.ae (.slice (.int .i64)) P),(12,.ptr bT 0),(13,.fn (.func 316) [] [.ptr bT 0,.ptr bl 0,.ptr bW 0]),(14,.via x.2.1),(44,.int .i64 P.length),(45,.int .i64 x.1)]) (fun x=>(bT,[.af bt 0 P.length 1])::(bW,[.af bw 0 n 1])::(bw,ao (bu n P))::(bt,bJ (dG P l (bu n P) x.1).1)::(bl,[.ae dC l])::(x.2.2++σ)) (fun x=>x.1≤P.length∧Acc 1 x.1 x.2.1 x.2.2 (cz (dG P l (bu n P) x.1).2)) (fun x=>P.length-x.1) (0,.ai,[]) ⟨⟨bE _,.nil⟩,⟨rfl,rfl,rfl,rfl,rfl,rfl,trivial⟩,by rw[show bJ (dG P l (bu n P) 0).1=cJ [.bool false] P.length from (Dn P.length).symm];rfl⟩ ?_
  rintro⟨k,v,acc⟩ g2 ⟨aP,kW⟩
  have hk:k≤P.length:=aP
  have cH:Acc 1 k v acc (cz (dG P l (bu n P) k).2):=kW
  clear aP kW
  refine ak (p:=(k:Int)<P.length) (fun ab=>?_) (fun aq=>?_)
  ·have ab:k<P.length:=by omega
   obtain⟨hO,D5,_⟩:=Ew k hk
   obtain⟨b,hb,oX⟩:=D5 ab
   have Fo:=hO.tl
   have fk:(dG P l (bu n P) (k+1)).1=(dG P l (bu n P) k).1.set b true:=by
    show (dG P l (bu n P) k).1.set (fo P l (bu n P) (dG P l (bu n P) k).1 P.length).toNat true=_
    rw[hb,bO]
   have gF:(dG P l (bu n P) (k+1)).2=(dG P l (bu n P) k).2++[P.getD b []]:=by
    show (dG P l (bu n P) k).2++[P.getD (fo P l (bu n P) (dG P l (bu n P) k).1 P.length).toNat []]=_
    rw[hb,bO]
   generalize (dG P l (bu n P) k).1=T at hb Fo fk
   generalize (dG P l (bu n P) k).2=out at cH gF
   clear hO D5
   have NQ:=Gs P l (bu n P) T
   refine cc (S:=Nat) (fun i=>[(2,.ae (.slice (.int .i64)) P),(12,.ptr bT 0),(13,.fn (.func 316) [] [.ptr bT 0,.ptr bl 0,.ptr bW 0]),(14,.via v),(15,.int .i64 (fo P l (bu n P) T i)),(44,.int .i64 P.length),(45,.int .i64 k),(47,.ae (.slice (.int .i64)) P),(48,.int .i64 P.length),(49,.int .i64 i)]) (fun _=>(bT,[.af bt 0 P.length 1])::(bW,[.af bw 0 n 1])::(bw,ao (bu n P))::(bt,bJ T)::(bl,[.ae dC l])::(acc++σ)) (fun i=>i≤P.length) (fun i=>P.length-i) 0 ⟨bE _,⟨rfl,rfl,rfl,rfl,rfl,rfl,rfl,rfl,rfl,rfl,trivial⟩,rfl⟩ ?_
   intro i g3 eD
   have hi:i≤P.length:=eD
   clear eD
   refine ak (p:=(i:Int)<P.length) (fun eL=>?_) (fun pQ=>?_)
   ·have eL:i<P.length:=by omega
    obtain⟨p,hp⟩:∃p,P[i]=p:=⟨_,rfl⟩
    have eW:P[i]?=some p:=(bj eL).trans (congrArg some hp)
    have wD:=fun ρ=>Wu bW bw bl bT bt n P.length l (bu n P) T i ρ hl (by omega) hr sd Fo OW
    have eG:fo P l (bu n P) T (i+1)=if nu l (bu n P) T i=true∧(fo P l (bu n P) T i<0∨iu P i<iu P (fo P l (bu n P) T i).toNat) then (i:Int) else fo P l (bu n P) T i:=rfl
    have Fl:=NQ i
    refine aG.mk rfl (bM.mk p (by omega) (show P[((i:Nat):Int).toNat]?=some p by rw[bO];exact eW) ?_)
    cases hf:nu l (bu n P) T i with
    |false=>
     rw[hf]at wD eG
     rw[ag (fun h=>by cases h.1)]at eG
     refine .quiet (by kernel_rfl) ?_
     refine aH [] (wD _) ?_
     exact bg (i+1) (by show P.length-(i+1)<P.length-i;omega) eL ⟨rfl,rfl,rfl,rfl,by rw[eG];rfl,rfl,rfl,rfl,rfl,a8 (by omega),trivial⟩ (.refl _)
    |true=>
     rw[hf]at wD eG
     refine .quiet (by kernel_rfl) ?_
     refine aH [] (wD _) ?_
     refine ak (p:=fo P l (bu n P) T i<0) (fun c1=>?_) (fun c1=>?_)
     ·rw[ah ⟨rfl,.inl c1⟩]at eG
      exact bg (i+1) (by show P.length-(i+1)<P.length-i;omega) eL ⟨rfl,rfl,rfl,rfl,by rw[eG];rfl,rfl,rfl,rfl,rfl,a8 (by omega),trivial⟩ (.refl _)
     ·obtain⟨b2,e2,l2,_⟩:=Fl.resolve_left fun h=>c1 (by rw[h.1];decide)
      obtain⟨p2,dz⟩:∃p,P[b2]?=some p:=⟨P[b2],bj (by omega)⟩
      have WQ:P[(fo P l (bu n P) T i).toNat]?=some p2:=by rw[e2,bO];exact dz
      have B4:0≤fo P l (bu n P) T i:=by omega
      rw[e2,bO,← e2]at eG
      refine aG.mk rfl ?_
      refine bM.mk (iu P i) (by decide) (aQ i p eW) ?_
      refine aG.mk rfl ?_
      refine bM.mk p2 B4 WQ ?_
      refine aG.mk rfl ?_
      refine bM.mk (iu P b2) (by decide) (aQ b2 p2 dz) ?_
      refine ak (p:=iu P i<iu P b2) (fun c2=>?_) (fun c2=>?_)
      ·rw[ah ⟨rfl,.inr c2⟩]at eG
       exact bg (i+1) (by show P.length-(i+1)<P.length-i;omega) eL ⟨rfl,rfl,rfl,rfl,by rw[eG];rfl,rfl,rfl,rfl,rfl,a8 (by omega),trivial⟩ (.refl _)
      ·rw[ag (fun h=>h.2.elim c1 c2)]at eG
       exact bg (i+1) (by show P.length-(i+1)<P.length-i;omega) eL ⟨rfl,rfl,rfl,rfl,by rw[eG];rfl,rfl,rfl,rfl,rfl,a8 (by omega),trivial⟩ (.refl _)
   ·have pQ:i=P.length:=by omega
    subst pQ
    refine aa 0 ?_
    refine aK ?_
    refine da 3 rfl (yH rfl true (by omega) (by omega)) ?_
    refine aG.mk rfl ?_
    obtain⟨pb,qU⟩:∃p,P[b]?=some p:=⟨P[b],bj oX⟩
    have ahZ:P[(fo P l (bu n P) T P.length).toNat]?=some pb:=by rw[hb,bO];exact qU
    rw[uW qU]at gF
    refine bM.mk pb (by omega) ahZ ?_
    intro bs
    refine l8 [_,_,_,_,_,_] cH (.af 0 bs 0 1 _ rfl (cR rfl)) rfl (by omega) (by decide) (by decide) (fun v' bQ h'=>?_)
    refine bg (k+1,v',bQ) (by show P.length-(k+1)<P.length-k;omega) ⟨ab,?_⟩ ⟨rfl,rfl,rfl,rfl,rfl,a8 (by omega),trivial⟩ (.drop 0 1 (aN (by rw[fk,hb,bO];rfl)))
    show Acc 1 (k+1) v' bQ (cz (dG P l (bu n P) (k+1)).2)
    rw[gF,show cz (out++[pb])=cz out++[.ae (.int .i64) pb] from dr];exact h'
  ·have aq:k=P.length:=by omega
   subst aq
   rw[xI]at cH
   have nQ:=(Ew P.length (aR _)).1.ol
   rw[xI]at nQ
   exact tD (s:=.slice (.int .i64)) [_,_,_,_,_] cH nQ.symm (w6 _) (by decide) (.drop 0 5 (.done ⟨rfl,rfl⟩))
theorem af0(n:Nat)(l:List bA)(σ:Hp)(hl:l.length≤100000)(dU:ey n l=true):ACalls Tryz.prog 258 [.int .i64 n,.ae dC l] σ (fun r σ'=>r=.tup [.ae (.slice (.int .i64)) (kb n l),.int .i64 0]∧σ'=σ∧∃P,oO n l P):=by
 have hn:1≤n∧n≤256:=by
  unfold ey at dU
  simp only[bL,decide_eq_true_eq]at dU
  omega
 have B2:∀e∈l,(0≤e.1∧e.1<(n:Int))∧0≤e.2.1∧e.2.1<(n:Int):=fun e he=>by
  unfold ey at dU
  simp only[bL,fI]at dU
  have:=dU.2 e he
  exact⟨kO.1 this.1,kO.1 this.2⟩
 refine au Tryz.func258 ?_
 refine dm [] (DN n l _ (by omega)) (fun _=>?_) (fun c=>absurd c (by rw[dU];decide))
 refine gz.H6 (S:=Nat×Nat×Nat×Nat) [] (.one 0 false (.one 2 false (.one 4 false (.alt 1 (.alt 3 (.alt 5 (.one 6 false (.one 7 false (.one 8 false .stop))) (.one 7 false (.one 5 false (.one 6 false (.one 8 false .stop))))) (.alt 5 (.alt 3 (.one 6 false (.one 7 false (.one 8 false .stop))) (.one 7 false (.one 3 false (.one 6 false (.one 8 false .stop))))) (.one 7 false (.alt 3 (.one 5 false (.one 6 false (.one 8 false .stop))) (.one 5 false (.one 3 false (.one 6 false (.one 8 false .stop)))))))) (.alt 3 (.alt 1 (.alt 5 (.one 6 false (.one 7 false (.one 8 false .stop))) (.one 7 false (.one 5 false (.one 6 false (.one 8 false .stop))))) (.alt 5 (.alt 1 (.one 6 false (.one 7 false (.one 8 false .stop))) (.one 7 false (.one 1 false (.one 6 false (.one 8 false .stop))))) (.one 7 false (.alt 1 (.one 5 false (.one 6 false (.one 8 false .stop))) (.one 5 false (.one 1 false (.one 6 false (.one 8 false .stop)))))))) (.alt 5 (.alt 1 (.alt 3 (.one 6 false (.one 7 false (.one 8 false .stop))) (.one 7 false (.one 3 false (.one 6 false (.one 8 false .stop))))) (.alt 3 (.alt 1 (.one 6 false (.one 7 false (.one 8 false .stop))) (.one 7 false (.one 1 false (.one 6 false (.one 8 false .stop))))) (.one 7 false (.alt 1 (.one 3 false (.one 6 false (.one 8 false .stop))) (.one 3 false (.one 1 false (.one 6 false (.one 8 false .stop)))))))) (.one 7 false (.alt 1 (.alt 3 (.one 5 false (.one 6 false (.one 8 false .stop))) (.one 5 false (.one 3 false (.one 6 false (.one 8 false .stop))))) (.alt 3 (.alt 1 (.one 5 false (.one 6 false (.one 8 false .stop))) (.one 5 false (.one 1 false (.one 6 false (.one 8 false .stop))))) (.one 5 false (.alt 1 (.one 3 false (.one 6 false (.one 8 false .stop))) (.one 3 false (.one 1 false (.one 6 false (.one 8 false .stop))))))))))))))) (fun x=>[(0,.int .i64 n),(1,.ae dC l),(6,.ptr x.1 0)]) (fun x=>(x.1,[.ai,.af x.2.1 0 n 1,.af x.2.2.1 0 n 1,.af x.2.2.2 0 n 1,.ai,.int .i64 0,.ai])::(x.2.1,cJ [.int .i64 0] n)::(x.2.2.1,cJ [.int .i64 0] n)::(x.2.2.2,cJ [.bool false] n)::σ) (by kernel_rfl) ?_ ?_
 ·refine And.intro ?_ ?_
  ·refine aY ?_
   intro bi
   refine And.intro ?_ ?_
   ·refine aY ?_
    intro bl
    refine And.intro ?_ ?_
    ·refine aY ?_
     intro bo
     intro w
     refine aj 0 ?_
     exact dh.mk (w,bi,bl,bo) ⟨rfl,rfl,rfl,trivial⟩ (.pull [3,3,2,1] (aN rfl))
    ·intro w
     refine aY ?_
     intro bo
     refine aj 1 ?_
     exact dh.mk (w,bi,bl,bo) ⟨rfl,rfl,rfl,trivial⟩ (.pull [3,3,2,0] (aN rfl))
   ·refine And.intro ?_ ?_
    ·refine aY ?_
     intro bo
     refine And.intro ?_ ?_
     ·refine aY ?_
      intro bl
      intro w
      refine aj 0 ?_
      exact dh.mk (w,bi,bl,bo) ⟨rfl,rfl,rfl,trivial⟩ (.pull [3,3,2,2] (aN rfl))
     ·intro w
      refine aY ?_
      intro bl
      refine aj 1 ?_
      exact dh.mk (w,bi,bl,bo) ⟨rfl,rfl,rfl,trivial⟩ (.pull [3,3,1,2] (aN rfl))
    ·intro w
     refine And.intro ?_ ?_
     ·refine aY ?_
      intro bl
      refine aY ?_
      intro bo
      refine aj 2 ?_
      exact dh.mk (w,bi,bl,bo) ⟨rfl,rfl,rfl,trivial⟩ (.pull [3,3,1,0] (aN rfl))
     ·refine aY ?_
      intro bo
      refine aY ?_
      intro bl
      refine aj 2 ?_
      exact dh.mk (w,bi,bl,bo) ⟨rfl,rfl,rfl,trivial⟩ (.pull [3,3,1,1] (aN rfl))
  ·refine And.intro ?_ ?_
   ·refine aY ?_
    intro bl
    refine And.intro ?_ ?_
    ·refine aY ?_
     intro bi
     refine And.intro ?_ ?_
     ·refine aY ?_
      intro bo
      intro w
      refine aj 0 ?_
      exact dh.mk (w,bi,bl,bo) ⟨rfl,rfl,rfl,trivial⟩ (.pull [3,3,3,1] (aN rfl))
     ·intro w
      refine aY ?_
      intro bo
      refine aj 1 ?_
      exact dh.mk (w,bi,bl,bo) ⟨rfl,rfl,rfl,trivial⟩ (.pull [3,3,3,0] (aN rfl))
    ·refine And.intro ?_ ?_
     ·refine aY ?_
      intro bo
      refine And.intro ?_ ?_
      ·refine aY ?_
       intro bi
       intro w
       refine aj 0 ?_
       exact dh.mk (w,bi,bl,bo) ⟨rfl,rfl,rfl,trivial⟩ (.pull [3,3,3,2] (aN rfl))
      ·intro w
       refine aY ?_
       intro bi
       refine aj 1 ?_
       exact dh.mk (w,bi,bl,bo) ⟨rfl,rfl,rfl,trivial⟩ (.pull [3,2,3,2] (aN rfl))
     ·intro w
      refine And.intro ?_ ?_
      ·refine aY ?_
       intro bi
       refine aY ?_
       intro bo
       refine aj 2 ?_
       exact dh.mk (w,bi,bl,bo) ⟨rfl,rfl,rfl,trivial⟩ (.pull [3,2,3,0] (aN rfl))
      ·refine aY ?_
       intro bo
       refine aY ?_
       intro bi
       refine aj 2 ?_
       exact dh.mk (w,bi,bl,bo) ⟨rfl,rfl,rfl,trivial⟩ (.pull [3,2,3,1] (aN rfl))
   ·refine And.intro ?_ ?_
    ·refine aY ?_
     intro bo
     refine And.intro ?_ ?_
     ·refine aY ?_
      intro bi
      refine And.intro ?_ ?_
      ·refine aY ?_
       intro bl
       intro w
       refine aj 0 ?_
       exact dh.mk (w,bi,bl,bo) ⟨rfl,rfl,rfl,trivial⟩ (.pull [3,3,2,3] (aN rfl))
      ·intro w
       refine aY ?_
       intro bl
       refine aj 1 ?_
       exact dh.mk (w,bi,bl,bo) ⟨rfl,rfl,rfl,trivial⟩ (.pull [3,3,1,3] (aN rfl))
     ·refine And.intro ?_ ?_
      ·refine aY ?_
       intro bl
       refine And.intro ?_ ?_
       ·refine aY ?_
        intro bi
        intro w
        refine aj 0 ?_
        exact dh.mk (w,bi,bl,bo) ⟨rfl,rfl,rfl,trivial⟩ (.pull [3,3,3,3] (aN rfl))
       ·intro w
        refine aY ?_
        intro bi
        refine aj 1 ?_
        exact dh.mk (w,bi,bl,bo) ⟨rfl,rfl,rfl,trivial⟩ (.pull [3,2,3,3] (aN rfl))
      ·intro w
       refine And.intro ?_ ?_
       ·refine aY ?_
        intro bi
        refine aY ?_
        intro bl
        refine aj 2 ?_
        exact dh.mk (w,bi,bl,bo) ⟨rfl,rfl,rfl,trivial⟩ (.pull [3,2,1,3] (aN rfl))
       ·refine aY ?_
        intro bl
        refine aY ?_
        intro bi
        refine aj 2 ?_
        exact dh.mk (w,bi,bl,bo) ⟨rfl,rfl,rfl,trivial⟩ (.pull [3,2,2,3] (aN rfl))
    ·intro w
     refine And.intro ?_ ?_
     ·refine aY ?_
      intro bi
      refine And.intro ?_ ?_
      ·refine aY ?_
       intro bl
       refine aY ?_
       intro bo
       refine aj 3 ?_
       exact dh.mk (w,bi,bl,bo) ⟨rfl,rfl,rfl,trivial⟩ (.pull [3,2,1,0] (aN rfl))
      ·refine aY ?_
       intro bo
       refine aY ?_
       intro bl
       refine aj 3 ?_
       exact dh.mk (w,bi,bl,bo) ⟨rfl,rfl,rfl,trivial⟩ (.pull [3,2,1,1] (aN rfl))
     ·refine And.intro ?_ ?_
      ·refine aY ?_
       intro bl
       refine And.intro ?_ ?_
       ·refine aY ?_
        intro bi
        refine aY ?_
        intro bo
        refine aj 3 ?_
        exact dh.mk (w,bi,bl,bo) ⟨rfl,rfl,rfl,trivial⟩ (.pull [3,2,2,0] (aN rfl))
       ·refine aY ?_
        intro bo
        refine aY ?_
        intro bi
        refine aj 3 ?_
        exact dh.mk (w,bi,bl,bo) ⟨rfl,rfl,rfl,trivial⟩ (.pull [3,2,2,1] (aN rfl))
      ·refine aY ?_
       intro bo
       refine And.intro ?_ ?_
       ·refine aY ?_
        intro bi
        refine aY ?_
        intro bl
        refine aj 3 ?_
        exact dh.mk (w,bi,bl,bo) ⟨rfl,rfl,rfl,trivial⟩ (.pull [3,2,1,2] (aN rfl))
       ·refine aY ?_
        intro bl
        refine aY ?_
        intro bi
        refine aj 3 ?_
        exact dh.mk (w,bi,bl,bo) ⟨rfl,rfl,rfl,trivial⟩ (.pull [3,2,2,2] (aN rfl))
 rintro⟨w,bi,bl,bo⟩ g
 have dc:∀(a:Nat) (σ:Hp),ACalls Tryz.prog 289 [.int .i64 n,.ae dC l,.int .i64 a] σ (aB (.ae (.int .i64) (ar n l a)) σ):=fun a σ=>Bq n l a σ hl
 have my:∀k,cz ((List.range (k+1)).map fun a:Nat=>ar n l a)=cz ((List.range k).map fun a:Nat=>ar n l a)++[.ae (.int .i64) (ar n l k)]:=fun k=>by rw[wJ,dr];exact dr
 have fP:∀k,(cz ((List.range k).map fun a:Nat=>ar n l a)).length=k:=fun k=>by rw[uK,cj,l0]
 refine cc (S:=Nat×AV×Hp) (fun x=>[(0,.int .i64 n),(1,.ae dC l),(6,.ptr w 0),(20,.int .i64 n),(21,.int .i64 x.1)]) (fun x=>(w,[x.2.1,.af bi 0 n 1,.af bl 0 n 1,.af bo 0 n 1,.ai,.int .i64 0,.ai])::(bi,cJ [.int .i64 0] n)::(bl,cJ [.int .i64 0] n)::(bo,cJ [.bool false] n)::(x.2.2++σ)) (fun x=>x.1≤n∧(x.1<n→Acc 1 x.1 x.2.1 x.2.2 (cz ((List.range x.1).map fun a:Nat=>ar n l a)))∧(x.1=n→x.2.1=.ae (.slice (.int .i64)) (ca n l)∧x.2.2=[])) (fun x=>n-x.1) (0,.ai,[]) ⟨⟨bE _,fun _=>.nil,fun h=>by have h:0=n:=h;omega⟩,⟨rfl,rfl,rfl,rfl,rfl,trivial⟩,rfl⟩ ?_
 rintro⟨k,v,acc⟩ g ⟨aP,kW,D3⟩
 have hk:k≤n:=aP
 have cH:k<n→Acc 1 k v acc (cz ((List.range k).map fun a:Nat=>ar n l a)):=kW
 have k9:k=n→v=.ae (.slice (.int .i64)) (ca n l)∧acc=[]:=D3
 clear aP kW D3
 refine ak (p:=(k:Int)<n) (fun ab=>?_) (fun aq=>?_)
 ·have ab:k<n:=by omega
  have cH:=cH ab
  clear k9
  have mz:(ca n l).length=n:=by unfold ca;rw[cj,l0]
  have BZ:∀k,k+1=n→((cz ((List.range k).map fun a:Nat=>ar n l a)++[AV.ae (.int .i64) (ar n l k)]).drop 0).take ((k+1)*1)=(ca n l).flatMap (Sh.cells (.slice (.int .i64))):=fun k hk=>by
   rw[← my,iP,fe (by rw[fP,er];exact aR _),hk]
   exact w6 _
  refine .sched [5] (.one 0 false (.one 2 false (.one 3 false (.one 4 false (.one 5 true (.alt 1 (.one 6 false (.one 7 false (.one 8 false (.one 9 false .stop)))) (.one 6 false (.one 1 false (.one 7 false (.one 8 false (.one 9 false .stop))))))))))) (by kernel_rfl) ?_
  refine aH [] (Bq n l _ _ hl) ?_
  refine And.intro ?_ ?_
  ·refine aa 0 ?_
   intro aD
   refine Ai [_,_,_,_,_] cH.xQ (.af 0 aD 0 1 _ rfl (cR rfl)) rfl (by omega) (by decide) (by decide) (fun v' bQ h'=>?_)
   obtain⟨b5,rfl,rfl⟩:=tB (by omega) h'
   refine aj 1 ?_
   by_cases kI:k+1=n
   ·refine .j6 5 b5 0 (k+1) 1 _ (.slice (.int .i64)) (ca n l) rfl (BZ k kI) ⟨(mz.trans kI.symm),rfl,by decide⟩ 1 0 w _ rfl rfl ?_
    exact bg (k+1,.ae (.slice (.int .i64)) (ca n l),[]) (by show n-(k+1)<n-k;omega) ⟨ab,fun h=>absurd kI (by have h:k+1<n:=h;omega),fun _=>⟨rfl,rfl⟩⟩ ⟨rfl,rfl,rfl,rfl,a8 (by omega),trivial⟩ (.drop 0 1 (aN rfl))
   ·exact bg (k+1,.af b5 0 (k+1) 1,[(b5,cz ((List.range k).map fun a:Nat=>ar n l a)++[.ae (.int .i64) (ar n l k)])]) (by show n-(k+1)<n-k;omega) ⟨ab,fun _=>by show Acc 1 (k+1) _ _ (cz ((List.range (k+1)).map fun a:Nat=>ar n l a));rw[my];exact h',fun h=>absurd h kI⟩ ⟨rfl,rfl,rfl,rfl,a8 (by omega),trivial⟩ (.drop 0 1 (aN rfl))
  ·intro du
   refine aa 1 ?_
   refine Ai [_,_,_,_,_] cH.xQ (.af 0 du 0 1 _ rfl (cR rfl)) rfl (by omega) (by decide) (by decide) (fun v' bQ h'=>?_)
   obtain⟨b5,rfl,rfl⟩:=tB (by omega) h'
   refine aj 1 ?_
   by_cases kI:k+1=n
   ·refine .j6 5 b5 0 (k+1) 1 _ (.slice (.int .i64)) (ca n l) rfl (BZ k kI) ⟨(mz.trans kI.symm),rfl,by decide⟩ 1 0 w _ rfl rfl ?_
    exact bg (k+1,.ae (.slice (.int .i64)) (ca n l),[]) (by show n-(k+1)<n-k;omega) ⟨ab,fun h=>absurd kI (by have h:k+1<n:=h;omega),fun _=>⟨rfl,rfl⟩⟩ ⟨rfl,rfl,rfl,rfl,a8 (by omega),trivial⟩ (.drop 0 1 (aN rfl))
   ·exact bg (k+1,.af b5 0 (k+1) 1,[(b5,cz ((List.range k).map fun a:Nat=>ar n l a)++[.ae (.int .i64) (ar n l k)])]) (by show n-(k+1)<n-k;omega) ⟨ab,fun _=>by show Acc 1 (k+1) _ _ (cz ((List.range (k+1)).map fun a:Nat=>ar n l a));rw[my];exact h',fun h=>absurd h kI⟩ ⟨rfl,rfl,rfl,rfl,a8 (by omega),trivial⟩ (.drop 0 1 (aN rfl))
 ·have aq:k=n:=by omega
  obtain⟨rfl,rfl⟩:=k9 aq
  clear cH k9
  refine cc (S:=Nat×(List Int×List Int×List Bool×Nat×List (List Int))×(AV×Hp×AV×Hp)) (fun x=>[(0,.int .i64 n),(1,.ae dC l),(6,.ptr w 0),(34,.int .i64 n),(35,.int .i64 x.1)]) (fun x=>(w,dp (ca n l) bi bl bo n x.2.2.1 x.2.1.2.2.2.1 x.2.2.2.2.1)::(bi,ao x.2.1.1)::(bl,ao x.2.1.2.1)::(bo,bJ x.2.1.2.2.1)::(x.2.2.2.1++(x.2.2.2.2.2++σ))) (fun x=>x.1≤n∧FI n (ar n l) x.2.1.1 x.2.1.2.1 x.2.1.2.2.1 [] x.2.1.2.2.2.1 x.2.1.2.2.2.2 []∧iy 1 0 x.2.2.1 x.2.2.2.1 []∧Acc 1 x.2.1.2.2.2.2.length x.2.2.2.2.1 x.2.2.2.2.2 (cz x.2.1.2.2.2.2)∧∀b:Nat,b<x.1→x.2.1.1.getD b 0≠0) (fun x=>n-x.1) (0,(List.replicate n 0,List.replicate n 0,List.replicate n false,0,[]),(.ai,[],.ai,[])) ⟨⟨bE _,.start n (ar n l),.nil,.nil,fun _ h=>absurd h (nV _)⟩,⟨rfl,rfl,rfl,rfl,rfl,trivial⟩,by rw[yJ,Dn];rfl⟩ ?_
  clear aq
  rintro⟨k,⟨ix,lo,on,aF,P⟩,⟨vs,lM,vp,eM⟩⟩ g2 ⟨aP,p8,qS,uk,r8⟩
  have hk:k≤n:=aP
  have hF:FI n (ar n l) ix lo on [] aF P []:=p8
  have hs:iy 1 0 vs lM []:=qS
  have hp:Acc 1 P.length vp eM (cz P):=uk
  have hv:∀b:Nat,b<k→ix.getD b 0≠0:=r8
  clear aP p8 qS uk r8
  have Fe:((k:Nat):Int).toNat=k:=bO k
  refine ak (p:=(k:Int)<n) (fun ab=>?_) (fun aq=>?_)
  ·have ab:k<n:=by omega
   refine aa 0 ?_
   refine aK ?_
   refine aZ 1 rfl (fg rfl (by omega) (by rw[hF.li];omega)) ?_
   refine ak (p:=ix.getD ((k:Nat):Int).toNat 0=0) (fun c1=>?_) (fun c1=>?_)
   ·refine .mk [] _ (aho n w bi bl bo l ix lo on aF P vs vp lM eM k σ (by omega) hF (by omega) c1 hs hp) ?_
    rintro _ _ ⟨rfl,Od,Oc,N9,NY,P2,I6,Nq,N5,Nr,O8,gF,dz,s7,um,rfl⟩
    rw[Fe]at s7
    refine bg (k+1,(Od,Oc,N9,NY,P2),(I6,Nq,N5,Nr)) (by show n-(k+1)<n-k;omega) ⟨ab,O8,gF,dz,fun b hb=>?_⟩ ⟨rfl,rfl,rfl,rfl,a8 (by omega),trivial⟩ (.refl _)
    have hb:b<k+1:=hb
    by_cases e:b=k
    ·subst e;exact s7
    ·exact um b (hv b (by omega))
   ·rw[Fe]at c1
    refine bg (k+1,(ix,lo,on,aF,P),(vs,lM,vp,eM)) (by show n-(k+1)<n-k;omega) ⟨ab,hF,hs,hp,fun b hb=>?_⟩ ⟨rfl,rfl,rfl,rfl,a8 (by omega),trivial⟩ (.refl _)
    have hb:b<k+1:=hb
    by_cases e:b=k
    ·subst e;exact c1
    ·exact hv b (by omega)
  ·have aq:k=n:=by omega
   subst aq
   have cD:oO k l P:=⟨hF.tj.prt,fun x h0 h1=>by
    have h2:=hv x.toNat (by omega)
    have h3:=(hF.tj.xP x h0 h1).1 (by rw[mh h0];exact h2)
    exact h3.resolve_left (by simp)⟩
   have Fv:=CU hF.tj.prt
   refine aa 0 ?_
   obtain⟨x,hx,_⟩:=cD.all 0 (by omega) (by omega)
   have uu:=Cs hx
   obtain⟨b5,rfl,rfl⟩:=tB uu hp
   rcases hs.zero with ⟨rfl,rfl⟩ | ⟨bs,J,rfl,rfl⟩
   ·skip
    refine .cX (args':=[.int .i64 k,.ae dC l,.ae (.slice (.int .i64)) P]) 4 b5 0 P.length 1 _ (.slice (.int .i64)) P rfl (by rw[iP,fe (by rw[uK,er];exact aR _)];exact w6 _) ⟨rfl,rfl,by decide⟩ (cg (.refl _) (cg (.refl _) (cg .here (.refl _)))) ?_
    refine az [] (Tz k l P _ cD hl (by omega) B2) ?_
    exact .drop 0 4 (.done ⟨rfl,rfl,P,cD⟩)
   ·skip
    refine .cX (args':=[.int .i64 k,.ae dC l,.ae (.slice (.int .i64)) P]) 5 b5 0 P.length 1 _ (.slice (.int .i64)) P rfl (by rw[iP,fe (by rw[uK,er];exact aR _)];exact w6 _) ⟨rfl,rfl,by decide⟩ (cg (.refl _) (cg (.refl _) (cg .here (.refl _)))) ?_
    refine az [] (Tz k l P _ cD hl (by omega) B2) ?_
    exact .drop 0 5 (.done ⟨rfl,rfl,P,cD⟩)
set_option maxHeartbeats 4000000
def fj(rw:List (Nat×List Int)):List AV:=rw.map fun r=>.af r.1 0 r.2.length 1
def eP(rw:List (Nat×List Int)):Hp:=rw.map fun r=>(r.1,ao r.2)
theorem YQ(rw:List (Nat×List Int)):(fj rw).length=rw.length:=cj _
def PO(P:List (List Int))(v:AV)(acc:Hp):Prop:=∃(ac:Hp) (rw:List (Nat×List Int)),acc=ac++eP rw∧Acc 1 rw.length v ac (fj rw)∧rw.map Prod.snd=P
theorem UQ(w bi bl bo n:Nat)(N:List (List Int))(ix lo A B:List Int)(on:List Bool)(P:List (List Int))(aF:Nat)(vs vp:AV)(lM eM:Hp)(a:Int)(σ:Hp)(h0:0≤a)(hn:a<n)(hi:ix.length=n)(hl:lo.length=n)(ho:on.length=n)(he:lo.getD a.toNat 0=ix.getD a.toNat 0)(OV:a ∉ A)(hB:∀x∈a::B,0≤x∧x<n)(cY:(A++a::B).length≤10000)(sW:P.length≤10000)
  (hs:iy 1 (A++a::B).length vs lM (ao (A++a::B))) (hp:PO P vp eM) :
  ACalls Tryz.prog 315 [.ptr w 0,.int .i64 a] ((w,dp N bi bl bo n vs aF vp)::(bi,ao ix)::(bl,ao lo)::(bo,bJ on)::(lM++(eM++σ)))
   (fun r σ'=>r=.tup []∧∃eE iZ gD gy,iy 1 A.length eE iZ (ao A)∧PO (P++[fF (a::B)]) gD gy∧σ'=(w,dp N bi bl bo n eE aF gD)::(bi,ao ix)::(bl,ao lo)::(bo,bJ (eV (a::B) on))::(iZ++(gy++σ))):=by
 obtain⟨ac,rw,rfl,hp,mV⟩:=hp
 have sW:rw.length≤10000:=by rw[← mV,cj]at sW;exact sW
 rw[dQ]
 obtain⟨K,hK⟩:∃K,(A++a::B).length=K:=⟨_,rfl⟩
 obtain⟨L,hL⟩:∃L:List Int,a::B=L:=⟨_,rfl⟩
 obtain⟨q,hq⟩:∃q,L.length=q:=⟨_,rfl⟩
 have hKA:K=A.length+q:=by rw[← hK,bV,hL,hq]
 have hq0:0<q:=by rw[← hq,← hL,gq];omega
 rw[hK]at hs cY
 obtain⟨bs,J,rfl,rfl,O7⟩:=hs.pos (by omega)
 have kx:((ao (A++a::B)++J).drop A.length).take (q*1)=ao L:=by
  rw[hL]
  unfold ao
  rw[dr,dQ,Pv (by rw[cj];exact aR _),FU (by rw[cj];exact aR _),ye,Kg (by rw[cj];omega),fe (by rw[cj];omega)]
 have ef:A.length+q*1≤(ao (A++a::B)++J).length:=by rw[bV,O7];omega
 refine au Tryz.func315 ?_
 refine .quiet (by kernel_rfl) ?_
 refine aa 0 ?_
 refine aK ?_
 refine aZ 2 rfl (fg rfl h0 (by omega)) ?_
 refine aa 0 ?_
 refine aK ?_
 refine aZ 1 rfl (fg rfl h0 (by omega)) ?_
 refine cI (fun c=>?_) (fun c=>?_)
 ·exact absurd he (by simpa using c)
 clear c
 refine aa 0 ?_
 refine az [4] (UR bs K A B J a _ hK OV (by omega)) ?_
 refine aa 1 ?_
 refine aG.mk ⟨by omega,by omega,by omega,rfl⟩ ?_
 have hC:∀σ,ACalls Tryz.prog 220 [.af bs (0+((A.length:Nat):Int).toNat*1) (((K:Nat):Int).toNat-((A.length:Nat):Int).toNat) 1] ((bs,ao (A++a::B)++J)::σ) (fun x σ'=>∃b',x=.af b' 0 q 1∧σ'=(b',ao L)::(bs,ao (A++a::B)++J)::σ):=fun σ=>by
  rw[show 0+((A.length:Nat):Int).toNat*1=A.length by omega,show ((K:Nat):Int).toNat-((A.length:Nat):Int).toNat=q by omega]
  exact UU bs A.length q _ _ σ kx ef (by omega)
 refine .mk [0] _ (hC _) ?_
 rintro _ _ ⟨bp,rfl,rfl⟩
 refine aa 2 ?_
 refine aG.mk ⟨by omega,by omega,by omega,by omega,rfl⟩ ?_
 refine aj 2 ?_
 refine cc (S:=Nat) (fun i=>[(0,.ptr w 0),(5,.af bp 0 q 1),(46,.af bp 0 q 1),(47,.int .i64 q),(48,.int .i64 i)]) (fun i=>(bp,ao L)::(bs,ao (A++a::B)++J)::(w,dp N bi bl bo n (.af bs 0 A.length 1) aF vp)::(bi,ao ix)::(bl,ao lo)::(bo,bJ (eV (L.take i) on))::(ac++(eP rw++σ))) (fun i=>i≤q) (fun i=>q-i) 0 ⟨bE _,⟨rfl,rfl,rfl,rfl,rfl,trivial⟩,rfl⟩ ?_
 rintro i g eD
 have hiq:i≤q:=eD
 clear eD
 refine ak (p:=(i:Int)<q) (fun ab=>?_) (fun aq=>?_)
 ·have ab:i<L.length:=by omega
  obtain⟨x,hx⟩:∃x,L[i]=x:=⟨_,rfl⟩
  have E2:=hB x (by rw[hL,← hx];exact bX ab)
  have nQ:=Gf (L.take i) on
  have NJ:(eV (L.take i) on).set x.toNat false=eV (L.take (i+1)) on:=by unfold eV;rw[fw ab,hx,s9];rfl
  have nO:eg ⟨.int .i64,1,8,[.int .i64 0]⟩ (ao L) (0+((i:Nat):Int).toNat*1)=some (.int .i64 x):=by
   rw[fg rfl (by omega) (by omega),bO,aW,bj ab,hx];rfl
  refine aK ?_
  refine aZ 0 rfl nO ?_
  refine aa 2 ?_
  refine aK ?_
  refine da 5 rfl (yH rfl false E2.1 (by omega)) ?_
  exact bg (i+1) (by show q-(i+1)<q-i;omega) (by show i+1≤q;omega) ⟨rfl,rfl,rfl,rfl,a8 (by omega),trivial⟩ (aN (by rw[NJ];rfl))
 ·have aq:i=q:=by omega
  subst aq
  refine az [0] (MU bp L i _ hq (by omega)) ?_
  refine aa 2 ?_
  intro du
  refine Ai [_,_,_,_,_,_,_] hp.xQ (.af 0 du 0 1 _ rfl (cR rfl)) rfl (by omega) (by decide) (by decide) (fun v' bQ h'=>?_)
  obtain⟨b5,rfl,rfl⟩:=tB (by omega) h'
  refine aj 3 ?_
  have gn:((w,dp N bi bl bo n (.af bs 0 A.length 1) aF (.af b5 0 (rw.length+1) 1))::(bi,ao ix)::(bl,ao lo)::(bo,bJ (eV (L.take i) on))::(bs,ao (A++a::B)++J)::([(b5,fj rw++[.af bp 0 i 1])]++((eP rw++[(bp,ao (fF L))])++σ))).Perm ((bp,ao (fF L))::(bs,ao (A++a::B)++J)::(w,dp N bi bl bo n (.af bs 0 A.length 1) aF (.af b5 0 (rw.length+1) 1))::(bi,ao ix)::(bl,ao lo)::(bo,bJ (eV (L.take i) on))::([(b5,fj rw++[.af bp 0 i 1])]++(eP rw++σ))):=by
   have h1:∀(X:Hp) (x y:Nat×List AV),(X++(x::([(b5,fj rw++[.af bp 0 i 1])]++((eP rw++[y])++σ)))).Perm (y::x::(X++([(b5,fj rw++[.af bp 0 i 1])]++(eP rw++σ)))):=fun X x y=>by
    refine nX.trans ?_
    refine (List.Perm.cons x ?_).trans (List.Perm.swap _ _ _)
    rw[dQ]
    have h2:([(b5,fj rw++[AV.af bp 0 i 1])]++(eP rw++([y]++σ))).Perm (y::([(b5,fj rw++[.af bp 0 i 1])]++(eP rw++σ))):=by
     have h3:=nX (l₁:=[(b5,fj rw++[AV.af bp 0 i 1])]++eP rw) (a:=y) (l₂:=σ)
     rw[dQ,dQ]at h3
     exact h3
    exact (List.Perm.append_left X h2).trans nX
   exact h1 [_,_,_,_] _ _
  refine .drop 0 1 (.perm gn (.done ⟨rfl,.af bs 0 A.length 1,[(bs,ao A++(ao L++J))],.af b5 0 (rw.length+1) 1,[(b5,fj rw++[.af bp 0 i 1])]++eP (rw++[(bp,fF L)]),.af bs A.length (ao A) (ao L++J) (by rw[nj,er]),⟨_,rw++[(bp,fF L)],rfl,?_,?_⟩,?_⟩))
  ·rw[bV]
   have e:fj (rw++[(bp,fF L)])=fj rw++[.af bp 0 i 1]:=by
    unfold fj
    rw[dr]
    show _++[AV.af bp 0 (fF L).length 1]=_
    rw[Ag,hq]
   rw[e]
   exact .af b5 (rw.length+1) _ (by rw[bV,YQ,er];rfl)
  ·rw[dr,mV];subst hL;rfl
  ·rw[fe (yc hq)]
   subst hL
   have e1:ao (A++a::B)++J=ao A++(ao (a::B)++J):=by unfold ao;rw[dr,dQ]
   have e3:eP (rw++[(bp,fF (a::B))])=eP rw++[(bp,ao (fF (a::B)))]:=dr
   rw[e1,e3]
   simp only[dQ,FK,ye]
theorem agx(n w bi bl bo:Nat)(l:List bA)(lP vY:List Int)(vV:List Bool)(dI:Nat)(P0:List (List Int))(ue fY:AV)(vw iv:Hp)(a:Int)(σ:Hp)(hn:n≤1000)(h:FI n (ar n l) lP vY vV [] dI P0 [])(ha:0≤a∧a<n)(hf:lP.getD a.toNat 0=0)(hs:iy 1 0 ue vw [])(hp:PO P0 fY iv):
  ACalls Tryz.prog 290 [.ptr w 0,.int .i64 a] ((w,dp (ca n l) bi bl bo n ue dI fY)::(bi,ao lP)::(bl,ao vY)::(bo,bJ vV)::(vw++(iv++σ)))
   (fun r σ'=>r=.tup []∧∃ix lo on aF P vs lM vp eM,FI n (ar n l) ix lo on [] aF P []∧iy 1 0 vs lM []∧PO P vp eM∧ix.getD a.toNat 0≠0∧(∀b:Nat,lP.getD b 0≠0→ix.getD b 0≠0)∧σ'=(w,dp (ca n l) bi bl bo n vs aF vp)::(bi,ao ix)::(bl,ao lo)::(bo,bJ on)::(lM++(eM++σ))):=by
 have hle:=h.A6
 refine au Tryz.func290 ?_
 refine Qy (S:=FrS) rfl (fun _=>0)
  (fun x=>[(0,.ptr w 0),(4,.af x.2.2.2.1 0 (x.2.2.1.1.length+1) 2)])
  (fun x=>(w,dp (ca n l) bi bl bo n (.af x.2.1.1 0 x.1.2.2.2.1.length 1) x.1.2.2.2.2.1 x.2.1.2.2.1)::(bi,ao x.1.1)::(bl,ao x.1.2.1)::(bo,bJ x.1.2.2.1)::(x.2.1.1,ao x.1.2.2.2.1++x.2.1.2.1)::(x.2.2.2.1,bF (x.2.2.1.1++[(x.2.2.1.2.1,x.2.2.1.2.2)])++x.2.2.2.2)::(x.2.1.2.2.2++σ))
  (fun x=>(FI n (ar n l) x.1.1 x.1.2.1 x.1.2.2.1 x.1.2.2.2.1 x.1.2.2.2.2.1 x.1.2.2.2.2.2 (x.2.2.1.1++[(x.2.2.1.2.1,x.2.2.1.2.2)])∧PO x.1.2.2.2.2.2 x.2.1.2.2.1 x.2.1.2.2.2)∧x.1.1.getD a.toNat 0≠0∧∀b:Nat,lP.getD b 0≠0→x.1.1.getD b 0≠0)
  (fun x=>jb (ar n l) (x.2.2.1.1++[(x.2.2.1.2.1,x.2.2.1.2.2)])+iw (ar n l) x.1.1 n) ?_ ?_
 ·rintro⟨⟨ix,lo,on,st,aF,P⟩,⟨bs,Js,vp,eM⟩,⟨wy,v,k⟩,⟨bw,J⟩⟩ g ⟨⟨p8,uu⟩,qX,ya⟩
  have hF:FI n (ar n l) ix lo on st aF P (wy++[(v,k)]):=p8
  have hP:PO P vp eM:=uu
  have hA:ix.getD a.toNat 0≠0:=qX
  have hM:∀b:Nat,lP.getD b 0≠0→ix.getD b 0≠0:=ya
  clear p8 uu qX ya
  have hle:=hF.A6
  have bN:=hF.mem
  have dy:=hF.tj.node v bN
  have BT:k≤(ar n l v).length:=hF.tn (v,k) (jE _ (bh.2 rfl))
  have mz:=yA n l v
  have v7:wy.length+1≤st.length:=by
   have:=hF.tj.sub.length_le
   rw[cj,bV]at this
   exact this
  have nF:IntKind.i64.wrap (((wy.length+1:Nat):Int)-1)=((wy.length:Nat):Int):=by rw[dx (by omega)];omega
  have hX:0+(IntKind.i64.wrap (((wy.length+1:Nat):Int)-1)).toNat*2=wy.length*2:=by rw[nF];omega
  have mW:eg ⟨.int .i64,1,8,[.int .i64 0]⟩ (bF (wy++[(v,k)])++J) (0+(IntKind.i64.wrap (((wy.length+1:Nat):Int)-1)).toNat*2+0)=some (.int .i64 v):=iV rfl (by rw[hX];exact sk rfl)
  have lS:eg ⟨.int .i64,1,8,[.int .i64 0]⟩ (bF (wy++[(v,k)])++J) (0+(IntKind.i64.wrap (((wy.length+1:Nat):Int)-1)).toNat*2+1)=some (.int .i64 k):=iV rfl (by rw[hX];exact CO rfl)
  have ef:(bF (wy++[(v,k)])++J).length=wy.length*2+2+J.length:=by rw[bV,mD,bV];show (wy.length+1)*2+_=_;omega
  have lV:IntKind.i64.wrap ((k:Int)+1)=((k+1:Nat):Int):=by rw[dx (by omega)];omega
  have v8:kP ⟨.int .i64,1,8,[.int .i64 0]⟩ (bF (wy++[(v,k)])++J) (0+(IntKind.i64.wrap (((wy.length+1:Nat):Int)-1)).toNat*2+1) (.int .i64 (IntKind.i64.wrap ((k:Int)+1)))=some (bF (wy++[(v,k+1)])++J):=by
   rw[rC rfl rfl (by rw[hX,ef];omega),hX,lV,C2 rfl]
  have vr:2=2∧0≤IntKind.i64.wrap (((wy.length+1:Nat):Int)-1)∧IntKind.i64.wrap (((wy.length+1:Nat):Int)-1)<((wy.length+1:Nat):Int):=⟨rfl,by omega,by omega⟩
  refine aG.mk vr ?_
  refine .quiet (by kernel_rfl) ?_
  refine aZ 5 rfl lS ?_
  refine aa 0 ?_
  refine aZ 5 rfl mW ?_
  refine aG.mk rfl ?_
  refine bM.mk (ar n l v) (by omega) (px dy) ?_
  refine ak (p:=(k:Int)<(ar n l v).length) (fun ab=>?_) (fun aq=>?_)
  ·have ab:k<(ar n l v).length:=by omega
   obtain⟨b,hb⟩:∃b,(ar n l v)[k]=b:=⟨_,rfl⟩
   have s4:b∈ar n l v:=hb▸bX ab
   have dK:=(mb.1 s4).1
   refine .quiet (by kernel_rfl) ?_
   refine aa 0 ?_
   refine aZ 5 rfl mW ?_
   refine aG.mk rfl ?_
   refine bM.mk (ar n l v) (by omega) (px dy) ?_
   refine aZ 5 rfl lS ?_
   refine aG.mk rfl ?_
   refine bM.mk b (by omega) ((get_some ab).trans (congrArg some hb)) ?_
   refine aZ 5 rfl lS ?_
   refine da 5 rfl v8 ?_
   refine aa 0 ?_
   refine aK ?_
   refine aZ 1 rfl (fg rfl dK.1 (by rw[hF.li];omega)) ?_
   refine ak (p:=ix.getD b.toNat 0=0) (fun c1=>?_) (fun c1=>?_)
   ·have hN:=hF.new ab hb dK c1
    have ee:(ao st).length=st.length*1:=by rw[nj,er]
    refine .mk [] _ (A8 w bi bl bo n (ca n l) ix lo st on aF _ vp _ b ((bw,bF (wy++[(v,k+1)])++J)::(eM++σ)) dK.1 dK.2 hF.li hF.ll hF.kD (.af bs st.length (ao st) Js ee) (by omega) (by omega)) ?_
    rintro _ _ ⟨rfl,BH,Ed,fk,rfl⟩
    obtain⟨l6,o9,rfl,rfl,_⟩:=fk.pos (by rw[bV];show 0<_+1;omega)
    intro aD
    have ID:(bF (wy++[(v,k+1)])).length=(wy.length+1)*2:=by rw[mD,bV];rfl
    refine yy (k:=wy.length+1) (n:=1) [_,_,_,_,_,_] (.af bw (wy.length+1) (bF (wy++[(v,k+1)])) J ID) (.af 0 aD 0 1 _ rfl (cR rfl)) rfl (by omega) (by decide) (by decide) (fun v' bQ h'=>?_)
    obtain⟨o8,J2,rfl,rfl,_⟩:=h'.pos (by omega)
    have OC:(wy++[(v,k+1)]).length+1=wy.length+1+1:=by rw[bV];rfl
    have wz:(b.toNat:Int)=b:=lB dK.1
    have sU:=LC (nx:=ar n l) (ix:=ix) (b:=b.toNat) (v:=((aF+1:Nat):Int)) (by omega) c1 (by rw[hF.li];omega) n
    rw[ah (by omega),wz]at sU
    refine .mk ((ix.set b.toNat ((aF+1:Nat):Int),lo.set b.toNat ((aF+1:Nat):Int),on.set b.toNat true,st++[b],aF+1,P),(l6,o9,vp,eM),(wy++[(v,k+1)],b,0),(o8,J2)) rfl ?_ ⟨⟨hN,hP⟩,?_,?_⟩ ⟨rfl,by rw[OC];rfl,trivial⟩ (.drop 0 1 (aN (by rw[pg (wy++[(v,k+1)])];rfl)))
    ·show jb (ar n l) ((wy++[(v,k+1)])++[(b,0)])+iw (ar n l) (ix.set b.toNat ((aF+1:Nat):Int)) n<jb (ar n l) (wy++[(v,k)])+iw (ar n l) ix n
     rw[l9,l9,l9];omega
    ·show (ix.set b.toNat ((aF+1:Nat):Int)).getD a.toNat 0≠0
     rw[mE];split
     ·omega
     ·exact hA
    ·intro z hz
     show (ix.set b.toNat ((aF+1:Nat):Int)).getD z 0≠0
     rw[mE];split
     ·omega
     ·exact hM z hz
   ·have c1:¬(ix.getD b.toNat 0=0):=c1
    refine aa 0 ?_
    refine aK ?_
    have lU:=hF.vU b dK.1 dK.2
    have Eu:eg ⟨.int .i64,1,8,[.int .i64 0]⟩ (bF (wy++[(v,k+1)])++J) (0+(IntKind.i64.wrap (((wy.length+1:Nat):Int)-1)).toNat*2+0)=some (.int .i64 v):=iV rfl (by rw[hX];exact sk rfl)
    refine eU.kC 3 _ _ rfl (tA rfl dK.1 (by rw[hF.kD];omega)) (fun c2=>?_) (fun c2=>?_)
    ·rw[lU]at c2
     have hO:=hF.Iy ab hb (fv c2)
     refine .sched [] (upto [] 28 0) (by kernel_rfl) ?_
     refine aa 0 ?_
     refine aZ 5 rfl Eu ?_
     refine aa 0 ?_
     refine aZ 5 rfl Eu ?_
     refine aK ?_
     refine aZ 2 rfl (fg rfl dy.1 (by rw[hF.ll];omega)) ?_
     refine aa 0 ?_
     refine aK ?_
     refine aZ 1 rfl (fg rfl dK.1 (by rw[hF.li];omega)) ?_
     refine aK ?_
     refine da 2 rfl (nq rfl _ dy.1 (by rw[hF.ll];omega)) ?_
     have iJ:(if ix.getD b.toNat 0<lo.getD v.toNat 0 then ix.getD b.toNat 0 else lo.getD v.toNat 0)=min (lo.getD v.toNat 0) (ix.getD b.toNat 0):=by split <;> omega
     refine .mk ((ix,lo.set v.toNat (min (lo.getD v.toNat 0) (ix.getD b.toNat 0)),on,st,aF,P),(bs,Js,vp,eM),(wy,v,k+1),(bw,J)) rfl ?_ ⟨⟨hO,hP⟩,hA,hM⟩ ⟨rfl,rfl,trivial⟩ (aN (by rw[← iJ];rfl))
     show jb (ar n l) (wy++[(v,k+1)])+iw (ar n l) ix n<jb (ar n l) (wy++[(v,k)])+iw (ar n l) ix n
     rw[l9,l9];omega
    ·rw[lU]at c2
     have hO:=hF.off ab hb dK.1 c1 (qd c2)
     refine .mk ((ix,lo,on,st,aF,P),(bs,Js,vp,eM),(wy,v,k+1),(bw,J)) rfl ?_ ⟨⟨hO,hP⟩,hA,hM⟩ ⟨rfl,rfl,trivial⟩ (.refl _)
     show jb (ar n l) (wy++[(v,k+1)])+iw (ar n l) ix n<jb (ar n l) (wy++[(v,k)])+iw (ar n l) ix n
     rw[l9,l9];omega
  ·have aq:k=(ar n l v).length:=by omega
   have mV:eg ⟨.bc [(0,3),(1,3)],2,16,[.int .i64 0,.int .i64 0]⟩ (bF (wy++[(v,k)])++J) (0+(IntKind.i64.wrap (((wy.length+1:Nat):Int)-1)).toNat*2)=some (.agg [.int .i64 v,.int .i64 k]):=TZ rfl (by rw[hX,ef];show wy.length*2+2≤_;omega) (by rw[hX];exact QA rfl)
   refine aZ 5 rfl mV ?_
   intro bt
   refine aj 0 ?_
   refine aa 0 ?_
   have qy:(IntKind.i64.wrap (((wy.length+1:Nat):Int)-1)).toNat-Int.toNat 0=wy.length:=by rw[nF];omega
   have cY:0≤(0:Int)∧(0:Int)≤IntKind.i64.wrap (((wy.length+1:Nat):Int)-1)∧IntKind.i64.wrap (((wy.length+1:Nat):Int)-1)≤((wy.length+1:Nat):Int)∧2=2:=⟨by omega,by omega,by omega,rfl⟩
   by_cases he:lo.getD v.toNat 0=ix.getD v.toNat 0
   ·obtain⟨A,B,an,Fx,hB1⟩:=RM hF.tj.inc bN
    have Ou:v ∉ A:=fun hm=>by have:=Fx v hm;omega
    have Ot:∀x∈v::B,0≤x∧x<(n:Int):=fun x hx=>hF.tj.node x (by rw[an];exact jE _ hx)
    have cf:=uI hF.tj.inc
    rw[an]at cf
    have hT:=hF.tell (by omega) an he (fun x y hy=>(mb.1 hy).1) (Cy (v::B)) (Gc (o7.1 cf).2.1)
    have Fv:=Gm hF.tj.prt
    subst an
    have ee:(ao (A++v::B)).length=(A++v::B).length*1:=by rw[nj,er]
    refine .perm _ (wT [_,_,_,_,_] eM σ _ _) (UQ w bi bl bo n (ca n l) ix lo A B on P aF _ vp _ eM v _ dy.1 dy.2 hF.li hF.ll hF.kD he Ou Ot (by omega) (by omega) (.af bs (A++v::B).length (ao (A++v::B)) Js ee) hP) ?_
    rintro _ _ ⟨rfl,eE,iZ,gD,gy,dP,nP,rfl⟩
    have gn:((bt,[AV.int .i64 v,.int .i64 k])::(w,dp (ca n l) bi bl bo n eE aF gD)::(bi,ao ix)::(bl,ao lo)::(bo,bJ (eV (v::B) on))::(bw,bF (wy++[(v,k)])++J)::(iZ++(gy++σ))).Perm ((w,dp (ca n l) bi bl bo n eE aF gD)::(bi,ao ix)::(bl,ao lo)::(bo,bJ (eV (v::B) on))::(iZ++(gy++((bt,[AV.int .i64 v,.int .i64 k])::(bw,bF (wy++[(v,k)])++J)::σ)))):=by
     have h1:=(wT [(w,dp (ca n l) bi bl bo n eE aF gD),(bi,ao ix),(bl,ao lo),(bo,bJ (eV (v::B) on))] (iZ++gy) σ (bt,[AV.int .i64 v,.int .i64 k]) (bw,bF (wy++[(v,k)])++J)).symm
     rw[dQ,dQ]at h1
     exact h1
    refine⟨_,gn,?_⟩
    refine aG.mk cY ?_
    rcases FR wy with dT | ⟨w',⟨u,i⟩,dT⟩
    ·have qD:wy.length=0:=by rw[dT];rfl
     rw[dT]at hT
     obtain rfl:A=[]:=hT.U4
     refine ak (p:=(0:Int)<(((IntKind.i64.wrap (((wy.length+1:Nat):Int)-1)).toNat-Int.toNat 0:Nat):Int)) (fun c3=>?_) (fun c3=>?_)
     ·rw[qy,qD]at c3;exact absurd c3 (by decide)
     ·refine .drop 0 1 (.drop 4 1 (.done ⟨rfl,ix,lo,eV (v::B) on,aF,P++[fF (v::B)],eE,iZ,gD,gy,hT,dP,nP,hA,hM,rfl⟩))
    ·have dT:wy=w'++[(u,i)]:=by simpa using dT
     have qD:wy.length=w'.length+1:=by rw[dT,bV];rfl
     have jd:(IntKind.i64.wrap (((wy.length+1:Nat):Int)-1)).toNat-Int.toNat 0=w'.length+1:=qy.trans qD
     have oq:IntKind.i64.wrap ((((IntKind.i64.wrap (((wy.length+1:Nat):Int)-1)).toNat-Int.toNat 0:Nat):Int)-1)=((w'.length:Nat):Int):=by rw[jd,dx (by omega)];omega
     have zR:(0+Int.toNat 0*2)+(IntKind.i64.wrap ((((IntKind.i64.wrap (((wy.length+1:Nat):Int)-1)).toNat-Int.toNat 0:Nat):Int)-1)).toNat*2+0=w'.length*2:=by rw[oq,bO];show 0+0*2+_+0=_;omega
     have oF:bF (wy++[(v,k)])++J=bF (w'++[(u,i)])++([.int .i64 v,.int .i64 k]++J):=by rw[dT,pg,dQ];rfl
     have sU:eg ⟨.int .i64,1,8,[.int .i64 0]⟩ (bF (wy++[(v,k)])++J) ((0+Int.toNat 0*2)+(IntKind.i64.wrap ((((IntKind.i64.wrap (((wy.length+1:Nat):Int)-1)).toNat-Int.toNat 0:Nat):Int)-1)).toNat*2+0)=some (.int .i64 u):=iV rfl (by rw[zR,oF];exact sk rfl)
     have fq:0≤u∧u<(n:Int):=hF.tj.node u (hF.tj.sub.subset (by rw[dT];simp))
     have kx:AV.af bw (0+Int.toNat 0*2) ((IntKind.i64.wrap (((wy.length+1:Nat):Int)-1)).toNat-Int.toNat 0) 2=.af bw 0 (w'.length+1) 2:=by rw[jd];rfl
     have Nk:AV.af bw 0 (w'.length+1) 2=AV.af bw (0+Int.toNat 0*2) ((IntKind.i64.wrap (((wy.length+1:Nat):Int)-1)).toNat-Int.toNat 0) 2:=kx.symm
     refine ak (p:=(0:Int)<(((IntKind.i64.wrap (((wy.length+1:Nat):Int)-1)).toNat-Int.toNat 0:Nat):Int)) (fun c3=>?_) (fun c3=>?_)
     rotate_left
     ·rw[jd]at c3;omega
     have yW:2=2∧0≤IntKind.i64.wrap ((((IntKind.i64.wrap (((wy.length+1:Nat):Int)-1)).toNat-Int.toNat 0:Nat):Int)-1)∧IntKind.i64.wrap ((((IntKind.i64.wrap (((wy.length+1:Nat):Int)-1)).toNat-Int.toNat 0:Nat):Int)-1)<(((IntKind.i64.wrap (((wy.length+1:Nat):Int)-1)).toNat-Int.toNat 0:Nat):Int):=⟨rfl,by rw[oq];omega,by rw[oq,jd];omega⟩
     refine aG.mk yW ?_
     refine aZ 5 rfl sU ?_
     refine .sched [] (upto [] 23 0) (by kernel_rfl) ?_
     refine aa 1 ?_
     refine aa 1 ?_
     refine aK ?_
     refine aZ 3 rfl (fg rfl fq.1 (by rw[hF.ll];omega)) ?_
     refine aa 1 ?_
     refine aa 0 ?_
     refine aK ?_
     refine aZ 3 rfl (fg rfl dy.1 (by rw[hF.ll];omega)) ?_
     refine aK ?_
     refine da 3 rfl (nq rfl _ fq.1 (by rw[hF.ll];omega)) ?_
     have iJ:(if lo.getD v.toNat 0<lo.getD u.toNat 0 then lo.getD v.toNat 0 else lo.getD u.toNat 0)=min (lo.getD u.toNat 0) (lo.getD v.toNat 0):=by split <;> omega
     have Pb:0<A.length:=List.length_pos_of_mem (a:=u) (hT.tj.sub.subset (by rw[dT];simp))
     obtain⟨l6,o9,rfl,rfl,_⟩:=dP.pos Pb
     have Ng:=FI.same (dT▸hF) he
     rw[dT]at hT
     have hE:(w,dp (ca n l) bi bl bo n (.af l6 0 A.length 1) aF gD)::(bi,ao ix)::(bl,ao (lo.set u.toNat (if lo.getD v.toNat 0<lo.getD u.toNat 0 then lo.getD v.toNat 0 else lo.getD u.toNat 0)))::(bo,bJ (eV (v::B) on))::(l6,ao A++o9)::(bw,bF (wy++[(v,k)])++J)::(gy++σ)=(w,dp (ca n l) bi bl bo n (.af l6 0 A.length 1) aF gD)::(bi,ao ix)::(bl,ao (lo))::(bo,bJ (eV (v::B) on))::(l6,ao A++o9)::(bw,bF (w'++[(u,i)])++([.int .i64 v,.int .i64 k]++J))::(gy++σ):=by rw[iJ,Ng,oF]
     refine .mk ((ix,lo,eV (v::B) on,A,aF,P++[fF (v::B)]),(l6,o9,gD,gy),(w',u,i),(bw,[AV.int .i64 v,.int .i64 k]++J)) rfl ?_ ⟨⟨hT,nP⟩,hA,hM⟩ ⟨rfl,kx,trivial⟩ (.drop 0 1 (.pull [4,4,4,4,5] (aN hE)))
     show jb (ar n l) (w'++[(u,i)])+iw (ar n l) ix n<jb (ar n l) (wy++[(v,k)])+iw (ar n l) ix n
     rw[dT,l9 (ar n l) (w'++[(u,i)])];omega
   ·have O5:=fun ρ=>TA w bi bl bo n (ca n l) ix lo on aF (.af bs 0 st.length 1) vp v ρ dy.1 dy.2 hF.li hF.ll he
    refine az [4,4,4,4] (O5 _) ?_
    refine aG.mk cY ?_
    rcases FR wy with dT | ⟨w',⟨u,i⟩,dT⟩
    ·have qD:wy.length=0:=by rw[dT];rfl
     rw[dT]at hF
     exact absurd hF.one he
    ·have dT:wy=w'++[(u,i)]:=by simpa using dT
     have qD:wy.length=w'.length+1:=by rw[dT,bV];rfl
     have jd:(IntKind.i64.wrap (((wy.length+1:Nat):Int)-1)).toNat-Int.toNat 0=w'.length+1:=qy.trans qD
     have oq:IntKind.i64.wrap ((((IntKind.i64.wrap (((wy.length+1:Nat):Int)-1)).toNat-Int.toNat 0:Nat):Int)-1)=((w'.length:Nat):Int):=by rw[jd,dx (by omega)];omega
     have zR:(0+Int.toNat 0*2)+(IntKind.i64.wrap ((((IntKind.i64.wrap (((wy.length+1:Nat):Int)-1)).toNat-Int.toNat 0:Nat):Int)-1)).toNat*2+0=w'.length*2:=by rw[oq,bO];show 0+0*2+_+0=_;omega
     have oF:bF (wy++[(v,k)])++J=bF (w'++[(u,i)])++([.int .i64 v,.int .i64 k]++J):=by rw[dT,pg,dQ];rfl
     have sU:eg ⟨.int .i64,1,8,[.int .i64 0]⟩ (bF (wy++[(v,k)])++J) ((0+Int.toNat 0*2)+(IntKind.i64.wrap ((((IntKind.i64.wrap (((wy.length+1:Nat):Int)-1)).toNat-Int.toNat 0:Nat):Int)-1)).toNat*2+0)=some (.int .i64 u):=iV rfl (by rw[zR,oF];exact sk rfl)
     have fq:0≤u∧u<(n:Int):=hF.tj.node u (hF.tj.sub.subset (by rw[dT];simp))
     have kx:AV.af bw (0+Int.toNat 0*2) ((IntKind.i64.wrap (((wy.length+1:Nat):Int)-1)).toNat-Int.toNat 0) 2=.af bw 0 (w'.length+1) 2:=by rw[jd];rfl
     have Nk:AV.af bw 0 (w'.length+1) 2=AV.af bw (0+Int.toNat 0*2) ((IntKind.i64.wrap (((wy.length+1:Nat):Int)-1)).toNat-Int.toNat 0) 2:=kx.symm
     refine ak (p:=(0:Int)<(((IntKind.i64.wrap (((wy.length+1:Nat):Int)-1)).toNat-Int.toNat 0:Nat):Int)) (fun c3=>?_) (fun c3=>?_)
     rotate_left
     ·rw[jd]at c3;omega
     have yW:2=2∧0≤IntKind.i64.wrap ((((IntKind.i64.wrap (((wy.length+1:Nat):Int)-1)).toNat-Int.toNat 0:Nat):Int)-1)∧IntKind.i64.wrap ((((IntKind.i64.wrap (((wy.length+1:Nat):Int)-1)).toNat-Int.toNat 0:Nat):Int)-1)<(((IntKind.i64.wrap (((wy.length+1:Nat):Int)-1)).toNat-Int.toNat 0:Nat):Int):=⟨rfl,by rw[oq];omega,by rw[oq,jd];omega⟩
     refine aG.mk yW ?_
     refine aZ 6 rfl sU ?_
     refine .sched [] (upto [] 23 0) (by kernel_rfl) ?_
     refine aa 0 ?_
     refine aa 0 ?_
     refine aK ?_
     refine aZ 2 rfl (fg rfl fq.1 (by rw[hF.ll];omega)) ?_
     refine aa 0 ?_
     refine aa 4 ?_
     refine aK ?_
     refine aZ 2 rfl (fg rfl dy.1 (by rw[hF.ll];omega)) ?_
     refine aK ?_
     refine da 2 rfl (nq rfl _ fq.1 (by rw[hF.ll];omega)) ?_
     have iJ:(if lo.getD v.toNat 0<lo.getD u.toNat 0 then lo.getD v.toNat 0 else lo.getD u.toNat 0)=min (lo.getD u.toNat 0) (lo.getD v.toNat 0):=by split <;> omega
     have hU:=FI.up (dT▸hF) (by omega) he
     have hE:(w,dp (ca n l) bi bl bo n (.af bs 0 st.length 1) aF vp)::(bi,ao ix)::(bl,ao (lo.set u.toNat (if lo.getD v.toNat 0<lo.getD u.toNat 0 then lo.getD v.toNat 0 else lo.getD u.toNat 0)))::(bo,bJ (on))::(bs,ao st++Js)::(bw,bF (wy++[(v,k)])++J)::(eM++σ)=(w,dp (ca n l) bi bl bo n (.af bs 0 st.length 1) aF vp)::(bi,ao ix)::(bl,ao (lo.set u.toNat (min (lo.getD u.toNat 0) (lo.getD v.toNat 0))))::(bo,bJ (on))::(bs,ao st++Js)::(bw,bF (w'++[(u,i)])++([.int .i64 v,.int .i64 k]++J))::(eM++σ):=by rw[iJ,oF]
     refine .mk ((ix,lo.set u.toNat (min (lo.getD u.toNat 0) (lo.getD v.toNat 0)),on,st,aF,P),(bs,Js,vp,eM),(w',u,i),(bw,[AV.int .i64 v,.int .i64 k]++J)) rfl ?_ ⟨⟨hU,hP⟩,hA,hM⟩ ⟨rfl,kx,trivial⟩ (.drop 4 1 (aN hE))
     show jb (ar n l) (w'++[(u,i)])+iw (ar n l) ix n<jb (ar n l) (wy++[(v,k)])+iw (ar n l) ix n
     rw[dT,l9 (ar n l) (w'++[(u,i)])];omega
 ·intro hr
  obtain⟨ix,lo,on,hF,hA,hM,heq,Pa⟩:∃ix lo on,FI n (ar n l) ix lo on [a] (dI+1) P0 [(a,0)]∧ix.getD a.toNat 0≠0∧(∀b:Nat,lP.getD b 0≠0→ix.getD b 0≠0)∧lo.getD a.toNat 0=ix.getD a.toNat 0∧∀ρ,ACalls Tryz.prog 314 [.ptr w 0,.int .i64 a] ((w,dp (ca n l) bi bl bo n ue dI fY)::(bi,ao lP)::(bl,ao vY)::(bo,bJ vV)::(vw++ρ))
    (fun r σ'=>r=.agg [.int .i64 a,.int .i64 0]∧∃bs Js,σ'=(w,dp (ca n l) bi bl bo n (.af bs 0 [a].length 1) (dI+1) fY)::(bi,ao ix)::(bl,ao lo)::(bo,bJ on)::(bs,ao [a]++Js)::ρ):=by
   have h1:=h.enter (way2:=[]) ha hf (fun v hv=>by cases hv) rfl (fun t ht=>by cases ht) (fun t ht=>by cases ht)
   refine⟨_,_,_,h1,?_,?_,?_,fun ρ=>(A8 w bi bl bo n (ca n l) lP vY [] vV dI ue fY vw a ρ ha.1 ha.2 h.li h.ll h.kD hs (bE _) (by omega)).mono ?_⟩
   ·rw[mE,ah ⟨rfl,by rw[h.li];omega⟩];omega
   ·intro z hz
    rw[mE];split
    ·omega
    ·exact hz
   ·rw[mE,mE,ah ⟨rfl,by rw[h.ll];omega⟩,ah ⟨rfl,by rw[h.li];omega⟩]
   ·rintro _ _ ⟨rfl,BH,Ed,fk,rfl⟩
    obtain⟨bs,Js,rfl,rfl,_⟩:=fk.pos (by show 0<1;decide)
    exact⟨rfl,bs,Js,rfl⟩
  clear hf hs h
  have hle:=hF.A6
  have BT:=yA n l a
  refine .mk [] _ (Pa (iv++σ)) ?_
  rintro _ _ ⟨rfl,bs,Js,rfl⟩
  intro bw
  refine aG.mk ⟨rfl,by decide,by decide⟩ ?_
  refine .quiet (by kernel_rfl) ?_
  refine aa 0 ?_
  refine aa 1 ?_
  refine aa 0 ?_
  refine aG.mk rfl ?_
  refine bM.mk (ar n l a) (by omega) (px ha) ?_
  refine ak (p:=(0:Int)<(ar n l a).length) (fun ab=>?_) (fun aq=>?_)
  ·have ab:0<(ar n l a).length:=by omega
   obtain⟨b,hb⟩:∃b,(ar n l a)[0]=b:=⟨_,rfl⟩
   have s4:b∈ar n l a:=hb▸bX ab
   have dK:=(mb.1 s4).1
   refine .quiet (by kernel_rfl) ?_
   refine aa 1 ?_
   refine aa 0 ?_
   refine aG.mk rfl ?_
   refine bM.mk (ar n l a) (by omega) (px ha) ?_
   refine aa 0 ?_
   refine aG.mk rfl ?_
   refine bM.mk b (by decide) ((get_some ab).trans (congrArg some hb)) ?_
   refine aa 0 ?_
   refine aj 0 ?_
   refine aa 1 ?_
   refine aK ?_
   refine aZ 2 rfl (fg rfl dK.1 (by rw[hF.li];omega)) ?_
   refine ak (p:=ix.getD b.toNat 0=0) (fun c1=>?_) (fun c1=>?_)
   ·have hN:=FI.new (w:=[]) hF ab hb dK c1
    refine .mk [5,5,5,5,5] _ (A8 w bi bl bo n (ca n l) ix lo [a] on (dI+1) _ fY _ b ((bw,[.int .i64 a,.int .i64 1])::(iv++σ)) dK.1 dK.2 hF.li hF.ll hF.kD (.af bs 1 (ao [a]) Js rfl) (by show 1≤10000;decide) (by omega)) ?_
    rintro _ _ ⟨rfl,BH,Ed,fk,rfl⟩
    obtain⟨l6,o9,rfl,rfl,_⟩:=fk.pos (by show 0<2;decide)
    intro aD
    refine yy (k:=1) (n:=1) [_,_,_,_,_,_] (.af bw 1 (bF [(a,1)]) [] rfl) (.af 0 aD 0 1 _ rfl (cR rfl)) rfl (by decide) (by decide) (by decide) (fun v' bQ h'=>?_)
    obtain⟨o8,J2,rfl,rfl,_⟩:=h'.pos (by decide)
    refine wX hr ((ix.set b.toNat ((dI+1+1:Nat):Int),lo.set b.toNat ((dI+1+1:Nat):Int),on.set b.toNat true,[a]++[b],dI+1+1,P0),(l6,o9,fY,iv),([(a,1)],b,0),(o8,J2)) ⟨rfl,⟨⟨hN,hp⟩,?_,?_⟩,⟨rfl,rfl,trivial⟩,.drop 0 1 (aN rfl)⟩
    ·show (ix.set b.toNat ((dI+1+1:Nat):Int)).getD a.toNat 0≠0
     rw[mE];split
     ·omega
     ·exact hA
    ·intro z hz
     show (ix.set b.toNat ((dI+1+1:Nat):Int)).getD z 0≠0
     rw[mE];split
     ·omega
     ·exact hM z hz
   ·have c1:¬(ix.getD b.toNat 0=0):=c1
    have lU:=hF.vU b dK.1 dK.2
    refine aa 1 ?_
    refine aK ?_
    refine eU.kC 4 _ _ rfl (tA rfl dK.1 (by rw[hF.kD];omega)) (fun c2=>?_) (fun c2=>?_)
    ·rw[lU]at c2
     have hO:=FI.Iy (w:=[]) hF ab hb (fv c2)
     refine .sched [] (upto [] 28 0) (by kernel_rfl) ?_
     refine aa 1 ?_
     refine aa 0 ?_
     refine aa 1 ?_
     refine aa 0 ?_
     refine aK ?_
     refine aZ 3 rfl (fg rfl ha.1 (by rw[hF.ll];omega)) ?_
     refine aa 1 ?_
     refine aK ?_
     refine aZ 2 rfl (fg rfl dK.1 (by rw[hF.li];omega)) ?_
     refine aK ?_
     refine da 3 rfl (nq rfl _ ha.1 (by rw[hF.ll];omega)) ?_
     have iJ:(if ix.getD b.toNat 0<lo.getD a.toNat 0 then ix.getD b.toNat 0 else lo.getD a.toNat 0)=min (lo.getD a.toNat 0) (ix.getD b.toNat 0):=by split <;> omega
     have hE:(w,dp (ca n l) bi bl bo n (.af bs 0 [a].length 1) (dI+1) fY)::(bi,ao ix)::(bl,ao (lo.set a.toNat (if ix.getD b.toNat 0<lo.getD a.toNat 0 then ix.getD b.toNat 0 else lo.getD a.toNat 0)))::(bo,bJ on)::(bs,ao [a]++Js)::(bw,bF [(a,1)]++[])::(iv++σ)=(w,dp (ca n l) bi bl bo n (.af bs 0 [a].length 1) (dI+1) fY)::(bi,ao ix)::(bl,ao (lo.set a.toNat (min (lo.getD a.toNat 0) (ix.getD b.toNat 0))))::(bo,bJ on)::(bs,ao [a]++Js)::(bw,bF [(a,1)]++[])::(iv++σ):=by rw[iJ]
     exact wX hr ((ix,lo.set a.toNat (min (lo.getD a.toNat 0) (ix.getD b.toNat 0)),on,[a],dI+1,P0),(bs,Js,fY,iv),([],a,1),(bw,[])) ⟨rfl,⟨⟨hO,hp⟩,hA,hM⟩,⟨rfl,rfl,trivial⟩,.pull [5,5,5,5,5] (aN hE)⟩
    ·rw[lU]at c2
     have hO:=FI.off (w:=[]) hF ab hb dK.1 c1 (qd c2)
     exact wX hr ((ix,lo,on,[a],dI+1,P0),(bs,Js,fY,iv),([],a,1),(bw,[])) ⟨rfl,⟨⟨hO,hp⟩,hA,hM⟩,⟨rfl,rfl,trivial⟩,.pull [5,5,5,5,5] (aN rfl)⟩
  ·have aq:(ar n l a).length=0:=by omega
   refine aa 0 ?_
   intro aD
   refine aj 0 ?_
   refine aa 0 ?_
   have hT:=FI.tell (w:=[]) (A:=[]) (B:=[]) (part:=fF [a]) hF (by omega) rfl heq (fun x y hy=>(mb.1 hy).1) (Cy [a]) (Gc (by simp))
   have Fv:=Gm hF.tj.prt
   have NI:((w,dp (ca n l) bi bl bo n (.af bs 0 [a].length 1) (dI+1) fY)::(bi,ao ix)::(bl,ao lo)::(bo,bJ on)::(bs,ao [a]++Js)::(iv++((aD,[AV.int .i64 a,.int .i64 0])::(bw,[AV.int .i64 a,.int .i64 0])::σ))).Perm ((aD,[AV.int .i64 a,.int .i64 0])::(bw,[AV.int .i64 a,.int .i64 0])::(w,dp (ca n l) bi bl bo n (.af bs 0 [a].length 1) (dI+1) fY)::(bi,ao ix)::(bl,ao lo)::(bo,bJ on)::(bs,ao [a]++Js)::(iv++σ)):=by
    have h1:=wT [(w,dp (ca n l) bi bl bo n (.af bs 0 [a].length 1) (dI+1) fY),(bi,ao ix),(bl,ao lo),(bo,bJ on),(bs,ao [a]++Js)] iv σ (aD,[AV.int .i64 a,.int .i64 0]) (bw,[AV.int .i64 a,.int .i64 0])
    exact h1.trans (List.Perm.cons _ (nX (l₁:=[(w,dp (ca n l) bi bl bo n (.af bs 0 [a].length 1) (dI+1) fY),(bi,ao ix),(bl,ao lo),(bo,bJ on),(bs,ao [a]++Js)])))
   refine .perm _ NI (UQ w bi bl bo n (ca n l) ix lo [] [] on P0 (dI+1) _ fY _ iv a _ ha.1 ha.2 hF.li hF.ll hF.kD heq (by simp) (fun x hx=>by rw[List.mem_singleton.1 hx];exact ha) (by show 1≤10000;decide) (by omega) (.af bs 1 (ao [a]) Js rfl) hp) ?_
   rintro _ _ ⟨rfl,eE,iZ,gD,gy,dP,nP,rfl⟩
   have gn:((aD,[AV.int .i64 a,.int .i64 0])::(w,dp (ca n l) bi bl bo n eE (dI+1) gD)::(bi,ao ix)::(bl,ao lo)::(bo,bJ (eV [a] on))::(bw,[AV.int .i64 a,.int .i64 0])::(iZ++(gy++σ))).Perm ((w,dp (ca n l) bi bl bo n eE (dI+1) gD)::(bi,ao ix)::(bl,ao lo)::(bo,bJ (eV [a] on))::(iZ++(gy++((aD,[AV.int .i64 a,.int .i64 0])::(bw,[AV.int .i64 a,.int .i64 0])::σ)))):=by
    have h1:=(wT [(w,dp (ca n l) bi bl bo n eE (dI+1) gD),(bi,ao ix),(bl,ao lo),(bo,bJ (eV [a] on))] (iZ++gy) σ (aD,[AV.int .i64 a,.int .i64 0]) (bw,[AV.int .i64 a,.int .i64 0])).symm
    rw[dQ,dQ]at h1
    exact h1
   refine⟨_,gn,?_⟩
   refine aG.mk (by decide) ?_
   exact .drop 0 1 (.drop 4 1 (.done ⟨rfl,ix,lo,eV [a] on,dI+1,P0++[fF [a]],eE,iZ,gD,gy,hT,dP,nP,hA,hM,rfl⟩))
end Go.Proofs.YtnikdflhefijbaaGreat
