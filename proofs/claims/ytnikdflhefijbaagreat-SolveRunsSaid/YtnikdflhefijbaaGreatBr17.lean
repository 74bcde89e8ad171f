import Derived.Test.YtnikdflhefijbaaGreatBr16
import Derived.Test.YtnikdflhefijbaaGreatBr15
namespace Go.Proofs.YtnikdflhefijbaaGreat
open Go.RowKit
set_option maxRecDepth 100000
theorem iA.zero{e:Nat}{v:AV}{acc:Hp}{cs:List AV}(h:iA e 0 v acc cs):(v=.ak∧acc=[])∨∃b J,v=.ah b 0 0 e∧acc=[(b,J)]:=by
 generalize hz:(0:Nat)=z at h
 cases h with
 |nil=>exact .inl ⟨rfl,rfl⟩
 |ah b k cs J h=>subst hz;exact .inr ⟨b,_,rfl,rfl⟩
def vG(W:List Int)(T:List Bool)(i:Int)(x:aT):Bool:=decide (W.getD x.2.1.toNat 0=i)&&decide (W.getD x.1.toNat 0≠i)&&!T.getD (W.getD x.1.toNat 0).toNat false
theorem ac8(bW bw bI bT bt n m:Nat)(W:List Int)(T:List Bool)(i:Int)(x:aT)(σ:Hp)(h1:0≤x.1∧x.1<n)(h2:0≤x.2.1∧x.2.1<n)(hW:W.length=n)(hT:T.length=m)(hr:0≤W.getD x.1.toNat 0∧W.getD x.1.toNat 0<m):
  ACalls Tryz.prog 317 (zr x::[.ptr bW 0,.ptr bI 0,.ptr bT 0]) ((bI,[.int .i64 i])::(bT,[.ah bt 0 m 1])::(bW,[.ah bw 0 n 1])::(bw,an W)::(bt,bK T)::σ) (aD (.bool (vG W T i x)) ((bI,[.int .i64 i])::(bT,[.ah bt 0 m 1])::(bW,[.ah bw 0 n 1])::(bw,an W)::(bt,bK T)::σ)):=by
 obtain⟨x1,x2,xu⟩:=x
 have h1:0≤x1∧x1<n:=h1
 have h2:0≤x2∧x2<n:=h2
 have hr:0≤W.getD x1.toNat 0∧W.getD x1.toNat 0<m:=hr
 refine au Tryz.func317 ?_
 intro bx
 refine .quiet (by kernel_rfl) ?_
 refine aa 3 ?_
 refine aa 0 ?_
 refine aQ ?_
 refine aW 4 rfl (eZ rfl h2.1 (by omega)) ?_
 refine aa 1 ?_
 refine aj (fun c1=>?_) (fun c1=>?_)
 ·have c1:W.getD x2.toNat 0=i:=c1
  refine aa 3 ?_
  refine aa 0 ?_
  refine aQ ?_
  refine aW 4 rfl (eZ rfl h1.1 (by omega)) ?_
  refine aa 1 ?_
  refine cQ (fun c2=>?_) (fun c2=>?_)
  ·have c2:¬(W.getD x1.toNat 0=i):=by simpa using c2
   refine aa 2 ?_
   refine aa 3 ?_
   refine aa 0 ?_
   refine aQ ?_
   have hL:∀b,T.getD (W.getD x1.toNat 0).toNat false=b→vG W T i (x1,x2,xu) = !b:=fun b hb=>by
    unfold vG
    rw[bj (show W.getD x2.toNat 0=i from c1),bj (show W.getD x1.toNat 0≠i from c2)]
    show (true&&true&&!T.getD (W.getD x1.toNat 0).toNat false)=_
    rw[hb];rfl
   refine aW 4 rfl (eZ rfl h1.1 (by omega)) ?_
   refine aQ ?_
   refine eH.ij 5 _ _ rfl (qo rfl hr.1 (by omega)) (fun c3=>?_) (fun c3=>?_)
   ·exact .drop 0 1 (.done ⟨cd (hL true c3).symm,rfl⟩)
   ·exact .drop 0 1 (.done ⟨cd (hL false c3).symm,rfl⟩)
  ·have c2:W.getD x1.toNat 0=i:=by simpa using c2
   refine .drop 0 1 (.done ⟨cd ?_,rfl⟩)
   unfold vG
   rw[cy (show ¬(W.getD x1.toNat 0≠i) from fun h=>h c2),Dp];rfl
 ·have c1:¬(W.getD x2.toNat 0=i):=c1
  refine .drop 0 1 (.done ⟨cd ?_,rfl⟩)
  unfold vG
  rw[cy (show ¬(W.getD x2.toNat 0=i) from c1)];rfl
theorem SA(bW bw bl bT bt n m:Nat)(l:List aT)(W:List Int)(T:List Bool)(i:Int)(σ:Hp)(hl:l.length≤100000)(hi:0≤i∧i<m)(hr:∀e∈l,(0≤e.1∧e.1<(n:Int))∧0≤e.2.1∧e.2.1<(n:Int))(hW:W.length=n)(hT:T.length=m)(hw:∀k:Nat,k<n→0≤W.getD k 0∧W.getD k 0<m):
  ACalls Tryz.prog 316 [.int .i64 i,.ptr bT 0,.ptr bl 0,.ptr bW 0] ((bT,[.ah bt 0 m 1])::(bW,[.ah bw 0 n 1])::(bw,an W)::(bt,bK T)::(bl,[.af cb l])::σ) (aD (.bool (mU l W T i)) ((bT,[.ah bt 0 m 1])::(bW,[.ah bw 0 n 1])::(bw,an W)::(bt,bK T)::(bl,[.af cb l])::σ)):=by
 have hF:∀b,T.getD i.toNat false=b→mU l W T i=(!b&&!l.any (vG W T i)):=fun b hb=>by unfold mU;rw[hb];rfl
 refine au Tryz.func316 ?_
 intro bI
 refine aa 1 ?_
 refine aa 0 ?_
 refine aQ ?_
 refine eH.ij 4 _ _ rfl (qo rfl hi.1 (by omega)) (fun c1=>?_) (fun c1=>?_)
 ·exact .drop 0 1 (.done ⟨cd (hF true c1).symm,rfl⟩)
 ·refine aa 5 ?_
  have hg:∀(k:Nat) (hk:k<l.length),ACalls Tryz.prog 317 (zr l[k]::[.ptr bW 0,.ptr bI 0,.ptr bT 0]) ((bI,[.int .i64 i])::(bT,[.ah bt 0 m 1])::(bW,[.ah bw 0 n 1])::(bw,an W)::(bt,bK T)::(bl,[.af cb l])::σ) (aD (.bool (vG W T i l[k])) ((bI,[.int .i64 i])::(bT,[.ah bt 0 m 1])::(bW,[.ah bw 0 n 1])::(bw,an W)::(bt,bK T)::(bl,[.af cb l])::σ)):=fun k hk=>by
   obtain⟨h1,h2⟩:=hr _ (cq hk)
   exact ac8 bW bw bI bT bt n m W T i l[k] _ h1 h2 hW hT (hw _ (by omega))
  refine ar [] (M4 317 _ l (vG W T i) _ (ey hl (by decide)) hg) ?_
  exact .drop 0 1 (.done ⟨cd (hF false c1).symm,rfl⟩)
theorem tk:∀n:Nat,cN [.int .i64 0] n=an (List.replicate n 0)
 | 0=>rfl
 |n+1=>by
  show [AV.int .i64 0]++cN [.int .i64 0] n=_
  rw[tk n];rfl
theorem PR(n:Nat)(l:List aT)(P:List (List Int))(σ:Hp)(h:n9 n l P)(hl:l.length≤100000)(hn:n≤1000)(hr:∀e∈l,(0≤e.1∧e.1<(n:Int))∧0≤e.2.1∧e.2.1<(n:Int)):
  ACalls Tryz.prog 291 [.int .i64 n,.af cb l,.af (.slice (.int .i64)) P] σ (aD (.af (.slice (.int .i64)) (gC n l)) σ):=by
 obtain⟨lG,hpf⟩:=AZ h.ok
 have hNt:((n:Nat):Int).toNat=n:=bR n
 refine au Tryz.func291 ?_
 intro bl
 refine bg ?_
 intro bw
 intro bW
 refine ag 0 ?_
 refine bh (S:=Nat) (fun k=>[(2,.af (.slice (.int .i64)) P),(4,.ptr bl 0),(7,.ptr bW 0),(20,.af (.slice (.int .i64)) P),(21,.int .i64 P.length),(22,.int .i64 k)]) (fun k=>(bW,[.ah bw 0 n 1])::(bw,an (mB P k (List.replicate n 0)))::(bl,[.af cb l])::σ) (fun k=>k≤P.length) (fun k=>P.length-k) 0 ⟨aY _,⟨rfl,rfl,rfl,rfl,rfl,rfl,trivial⟩,by rw[show an (mB P 0 (List.replicate n 0))=cN [.int .i64 0] n from (tk n).symm];rfl⟩ ?_
 intro k g aO
 have hk:k≤P.length:=aO
 clear aO
 refine aj (p:=(k:Int)<P.length) (fun ab=>?_) (fun aq=>?_)
 ·have ab:k<P.length:=by omega
  obtain⟨p,hp⟩:∃p,P[k]=p:=⟨_,rfl⟩
  have eS:P[k]?=some p:=(bN ab).trans (congrArg some hp)
  have qN:=h.ok.node p (dm eS)
  have FQ:p.length≤n:=A1 n p ((h.ok.zM p (dm eS)).imp fun h=>by omega) qN
  have ns:=AM P k (List.replicate n 0)
  rw[gY]at ns
  have sS:mB P (k+1) (List.replicate n 0)=kQ k p (mB P k (List.replicate n 0)):=by show kQ k (P.getD k []) _=_;rw[tE eS]
  generalize mB P k (List.replicate n 0)=W at ns sS
  refine aw.mk rfl (aX.mk p (by omega) (show P[((k:Nat):Int).toNat]?=some p by rw[bR];exact eS) ?_)
  refine bh (S:=Nat) (fun j=>[(2,.af (.slice (.int .i64)) P),(4,.ptr bl 0),(7,.ptr bW 0),(8,.int .i64 k),(20,.af (.slice (.int .i64)) P),(21,.int .i64 P.length),(22,.int .i64 k),(27,.af (.int .i64) p),(28,.int .i64 p.length),(29,.int .i64 j)]) (fun j=>(bW,[.ah bw 0 n 1])::(bw,an (kQ k (p.take j) W))::(bl,[.af cb l])::σ) (fun j=>j≤p.length) (fun j=>p.length-j) 0 ⟨aY _,⟨rfl,rfl,rfl,rfl,rfl,rfl,rfl,rfl,rfl,rfl,trivial⟩,rfl⟩ ?_
  intro j g2 jk
  have hj:j≤p.length:=jk
  clear jk
  refine aj (p:=(j:Int)<p.length) (fun db=>?_) (fun jx=>?_)
  ·have db:j<p.length:=by omega
   obtain⟨a,ha⟩:∃a,p[j]=a:=⟨_,rfl⟩
   have rU:=qN a (ha▸cq db)
   have ao:(kQ k (p.take j) W).set a.toNat k=kQ k (p.take (j+1)) W:=by unfold kQ;rw[eT db,ha,uQ];rfl
   have qL:=DR k (p.take j) W
   refine aw.mk rfl (aX.mk a (by omega) ((get_some db).trans (congrArg some ha)) ?_)
   refine aa 0 ?_
   refine aQ ?_
   refine cu 1 rfl (lS rfl _ rU.1 (by omega)) ?_
   exact aM (j+1) (by show p.length-(j+1)<p.length-j;omega) db ⟨rfl,rfl,rfl,rfl,rfl,rfl,rfl,rfl,rfl,aL (by omega),trivial⟩ (aN (by rw[← ao];rfl))
  ·have jx:j=p.length:=by omega
   subst jx
   exact aM (k+1) (by show P.length-(k+1)<P.length-k;omega) ab ⟨rfl,rfl,rfl,rfl,rfl,aL (by omega),trivial⟩ (aN (by rw[dW,sS]))
 ·have aq:k=P.length:=by omega
  subst aq
  have Lv:∀j:Nat,j<n→0≤(bH n P).getD j 0∧(bH n P).getD j 0<(P.length:Int):=fun j hj=>by
   obtain⟨i,p,hi,_,hw⟩:=h.idx (x:=(j:Int)) (by omega)
   rw[bR]at hw
   have:=xd hi
   rw[hw];omega
  have ns:=M8 n P
  have Cg:=fun k hk=>(EF h hr k hk)
  have pI:=I7 h hr
  have bc:∀(i:Nat) (p:List Int),P[i]?=some p→p[((0:Int)).toNat]?=some (iv P i):=fun i p hi=>by
   unfold iv
   rw[tE hi]
   exact IN (mK.2 (h.ok.ne p (dm hi)))
  rw[show mB P P.length (List.replicate n 0)=bH n P from rfl]
  refine aw.mk ⟨by omega,by omega,by show ((P.length:Nat):Int)≤1048576;omega,by decide⟩ ?_
  intro bt
  intro bT
  refine ag 0 ?_
  obtain⟨m,hm⟩:∃m,P.length=m:=⟨_,rfl⟩
  refine .wrap 14 _ rfl rfl ?_
  refine .dL (.pull [0,2,3,3] (.refl _)) ?_
  refine bh (S:=Nat×AV×Hp) (fun x=>[(2,.af (.slice (.int .i64)) P),(12,.ptr bT 0),(13,.fn (.func 316) [] [.ptr bT 0,.ptr bl 0,.ptr bW 0]),(14,.via x.2.1),(44,.int .i64 P.length),(45,.int .i64 x.1)]) (fun x=>(bT,[.ah bt 0 P.length 1])::(bW,[.ah bw 0 n 1])::(bw,an (bH n P))::(bt,bK (dG P l (bH n P) x.1).1)::(bl,[.af cb l])::(x.2.2++σ)) (fun x=>x.1≤P.length∧Acc 1 x.1 x.2.1 x.2.2 (cx (dG P l (bH n P) x.1).2)) (fun x=>P.length-x.1) (0,.ak,[]) ⟨⟨aY _,.nil⟩,⟨rfl,rfl,rfl,rfl,rfl,rfl,trivial⟩,by rw[show bK (dG P l (bH n P) 0).1=cN [.bool false] P.length from (yU P.length).symm];rfl⟩ ?_
  rintro⟨k,v,acc⟩ g2 ⟨aO,gQ⟩
  have hk:k≤P.length:=aO
  have bS:Acc 1 k v acc (cx (dG P l (bH n P) k).2):=gQ
  clear aO gQ
  refine aj (p:=(k:Int)<P.length) (fun ab=>?_) (fun aq=>?_)
  ·have ab:k<P.length:=by omega
   obtain⟨hO,BR,_⟩:=Cg k hk
   obtain⟨b,hb,pZ⟩:=BR ab
   have C5:=hO.tl
   have fE:(dG P l (bH n P) (k+1)).1=(dG P l (bH n P) k).1.set b true:=by
    show (dG P l (bH n P) k).1.set (fp P l (bH n P) (dG P l (bH n P) k).1 P.length).toNat true=_
    rw[hb,bR]
   have gV:(dG P l (bH n P) (k+1)).2=(dG P l (bH n P) k).2++[P.getD b []]:=by
    show (dG P l (bH n P) k).2++[P.getD (fp P l (bH n P) (dG P l (bH n P) k).1 P.length).toNat []]=_
    rw[hb,bR]
   generalize (dG P l (bH n P) k).1=T at hb C5 fE
   generalize (dG P l (bH n P) k).2=out at bS gV
   clear hO BR
   have xN:=DZ P l (bH n P) T
   refine bh (S:=Nat) (fun i=>[(2,.af (.slice (.int .i64)) P),(12,.ptr bT 0),(13,.fn (.func 316) [] [.ptr bT 0,.ptr bl 0,.ptr bW 0]),(14,.via v),(15,.int .i64 (fp P l (bH n P) T i)),(44,.int .i64 P.length),(45,.int .i64 k),(47,.af (.slice (.int .i64)) P),(48,.int .i64 P.length),(49,.int .i64 i)]) (fun _=>(bT,[.ah bt 0 P.length 1])::(bW,[.ah bw 0 n 1])::(bw,an (bH n P))::(bt,bK T)::(bl,[.af cb l])::(acc++σ)) (fun i=>i≤P.length) (fun i=>P.length-i) 0 ⟨aY _,⟨rfl,rfl,rfl,rfl,rfl,rfl,rfl,rfl,rfl,rfl,trivial⟩,rfl⟩ ?_
   intro i g3 dc
   have hi:i≤P.length:=dc
   clear dc
   refine aj (p:=(i:Int)<P.length) (fun db=>?_) (fun jx=>?_)
   ·have db:i<P.length:=by omega
    obtain⟨p,hp⟩:∃p,P[i]=p:=⟨_,rfl⟩
    have eS:P[i]?=some p:=(bN db).trans (congrArg some hp)
    have uM:=fun ρ=>SA bW bw bl bT bt n P.length l (bH n P) T i ρ hl (by omega) hr ns C5 Lv
    have im:fp P l (bH n P) T (i+1)=if mU l (bH n P) T i=true∧(fp P l (bH n P) T i<0∨iv P i<iv P (fp P l (bH n P) T i).toNat) then (i:Int) else fp P l (bH n P) T i:=rfl
    have C3:=xN i
    refine aw.mk rfl (aX.mk p (by omega) (show P[((i:Nat):Int).toNat]?=some p by rw[bR];exact eS) ?_)
    cases hf:mU l (bH n P) T i with
    |false=>
     rw[hf]at uM im
     rw[aA (fun h=>by cases h.1)]at im
     refine .quiet (by kernel_rfl) ?_
     refine aK [] (uM _) ?_
     exact aM (i+1) (by show P.length-(i+1)<P.length-i;omega) db ⟨rfl,rfl,rfl,rfl,by rw[im];rfl,rfl,rfl,rfl,rfl,aL (by omega),trivial⟩ (.refl _)
    |true=>
     rw[hf]at uM im
     refine .quiet (by kernel_rfl) ?_
     refine aK [] (uM _) ?_
     refine aj (p:=fp P l (bH n P) T i<0) (fun c1=>?_) (fun c1=>?_)
     ·rw[az ⟨rfl,.inl c1⟩]at im
      exact aM (i+1) (by show P.length-(i+1)<P.length-i;omega) db ⟨rfl,rfl,rfl,rfl,by rw[im];rfl,rfl,rfl,rfl,rfl,aL (by omega),trivial⟩ (.refl _)
     ·obtain⟨b2,e2,l2,_⟩:=C3.resolve_left fun h=>c1 (by rw[h.1];decide)
      obtain⟨p2,dE⟩:∃p,P[b2]?=some p:=⟨P[b2],bN (by omega)⟩
      have SV:P[(fp P l (bH n P) T i).toNat]?=some p2:=by rw[e2,bR];exact dE
      have sY:0≤fp P l (bH n P) T i:=by omega
      rw[e2,bR,← e2]at im
      refine aw.mk rfl ?_
      refine aX.mk (iv P i) (by decide) (bc i p eS) ?_
      refine aw.mk rfl ?_
      refine aX.mk p2 sY SV ?_
      refine aw.mk rfl ?_
      refine aX.mk (iv P b2) (by decide) (bc b2 p2 dE) ?_
      refine aj (p:=iv P i<iv P b2) (fun c2=>?_) (fun c2=>?_)
      ·rw[az ⟨rfl,.inr c2⟩]at im
       exact aM (i+1) (by show P.length-(i+1)<P.length-i;omega) db ⟨rfl,rfl,rfl,rfl,by rw[im];rfl,rfl,rfl,rfl,rfl,aL (by omega),trivial⟩ (.refl _)
      ·rw[aA (fun h=>h.2.elim c1 c2)]at im
       exact aM (i+1) (by show P.length-(i+1)<P.length-i;omega) db ⟨rfl,rfl,rfl,rfl,by rw[im];rfl,rfl,rfl,rfl,rfl,aL (by omega),trivial⟩ (.refl _)
   ·have jx:i=P.length:=by omega
    subst jx
    refine aa 0 ?_
    refine aQ ?_
    refine cu 3 rfl (ti rfl true (by omega) (by omega)) ?_
    refine aw.mk rfl ?_
    obtain⟨pb,pY⟩:∃p,P[b]?=some p:=⟨P[b],bN pZ⟩
    have adU:P[(fp P l (bH n P) T P.length).toNat]?=some pb:=by rw[hb,bR];exact pY
    rw[tE pY]at gV
    refine aX.mk pb (by omega) adU ?_
    intro bs
    refine eU [_,_,_,_,_,_] bS (.ah 0 bs 0 1 _ rfl (cp rfl)) rfl (by omega) (by decide) (by decide) (fun v' aU h'=>?_)
    refine aM (k+1,v',aU) (by show P.length-(k+1)<P.length-k;omega) ⟨ab,?_⟩ ⟨rfl,rfl,rfl,rfl,rfl,aL (by omega),trivial⟩ (.drop 0 1 (aN (by rw[fE,hb,bR];rfl)))
    show Acc 1 (k+1) v' aU (cx (dG P l (bH n P) (k+1)).2)
    rw[gV,show cx (out++[pb])=cx out++[.af (.int .i64) pb] from cC];exact h'
  ·have aq:k=P.length:=by omega
   subst aq
   rw[pI]at bS
   have jC:=(Cg P.length (bJ _)).1.ol
   rw[pI]at jC
   exact kZ (s:=.slice (.int .i64)) [_,_,_,_,_] bS jC.symm (tp _) (by decide) (.drop 0 5 (.done ⟨rfl,rfl⟩))
theorem aap(n:Nat)(l:List aT)(σ:Hp)(hl:l.length≤100000)(dT:ek n l=true):ACalls Tryz.prog 258 [.int .i64 n,.af cb l] σ (fun r σ'=>r=.tup [.af (.slice (.int .i64)) (gC n l),.int .i64 0]∧σ'=σ∧∃P,n9 n l P):=by
 have hn:1≤n∧n≤256:=by
  unfold ek at dT
  simp only[b9,decide_eq_true_eq]at dT
  omega
 have Ac:∀e∈l,(0≤e.1∧e.1<(n:Int))∧0≤e.2.1∧e.2.1<(n:Int):=fun e he=>by
  unfold ek at dT
  simp only[b9,fN]at dT
  have:=dT.2 e he
  exact⟨kB.1 this.1,kB.1 this.2⟩
 refine au Tryz.func258 ?_
 refine dr [] (BC n l _ (by omega)) (fun _=>?_) (fun c=>absurd c (by rw[dT];decide))
 refine fX.BK (S:=Nat×Nat×Nat×Nat) [] (.one 0 false (.one 2 false (.one 4 false (.alt 1 (.alt 3 (.alt 5 (.one 6 false (.one 7 false (.one 8 false .stop))) (.one 7 false (.one 5 false (.one 6 false (.one 8 false .stop))))) (.alt 5 (.alt 3 (.one 6 false (.one 7 false (.one 8 false .stop))) (.one 7 false (.one 3 false (.one 6 false (.one 8 false .stop))))) (.one 7 false (.alt 3 (.one 5 false (.one 6 false (.one 8 false .stop))) (.one 5 false (.one 3 false (.one 6 false (.one 8 false .stop)))))))) (.alt 3 (.alt 1 (.alt 5 (.one 6 false (.one 7 false (.one 8 false .stop))) (.one 7 false (.one 5 false (.one 6 false (.one 8 false .stop))))) (.alt 5 (.alt 1 (.one 6 false (.one 7 false (.one 8 false .stop))) (.one 7 false (.one 1 false (.one 6 false (.one 8 false .stop))))) (.one 7 false (.alt 1 (.one 5 false (.one 6 false (.one 8 false .stop))) (.one 5 false (.one 1 false (.one 6 false (.one 8 false .stop)))))))) (.alt 5 (.alt 1 (.alt 3 (.one 6 false (.one 7 false (.one 8 false .stop))) (.one 7 false (.one 3 false (.one 6 false (.one 8 false .stop))))) (.alt 3 (.alt 1 (.one 6 false (.one 7 false (.one 8 false .stop))) (.one 7 false (.one 1 false (.one 6 false (.one 8 false .stop))))) (.one 7 false (.alt 1 (.one 3 false (.one 6 false (.one 8 false .stop))) (.one 3 false (.one 1 false (.one 6 false (.one 8 false .stop)))))))) (.one 7 false (.alt 1 (.alt 3 (.one 5 false (.one 6 false (.one 8 false .stop))) (.one 5 false (.one 3 false (.one 6 false (.one 8 false .stop))))) (.alt 3 (.alt 1 (.one 5 false (.one 6 false (.one 8 false .stop))) (.one 5 false (.one 1 false (.one 6 false (.one 8 false .stop))))) (.one 5 false (.alt 1 (.one 3 false (.one 6 false (.one 8 false .stop))) (.one 3 false (.one 1 false (.one 6 false (.one 8 false .stop))))))))))))))) (fun x=>[(0,.int .i64 n),(1,.af cb l),(6,.ptr x.1 0)]) (fun x=>(x.1,[.ak,.ah x.2.1 0 n 1,.ah x.2.2.1 0 n 1,.ah x.2.2.2 0 n 1,.ak,.int .i64 0,.ak])::(x.2.1,cN [.int .i64 0] n)::(x.2.2.1,cN [.int .i64 0] n)::(x.2.2.2,cN [.bool false] n)::σ) (by kernel_rfl) ?_ ?_
 ·refine And.intro ?_ ?_
  ·refine bg ?_
   intro bi
   refine And.intro ?_ ?_
   ·refine bg ?_
    intro bl
    refine And.intro ?_ ?_
    ·refine bg ?_
     intro bo
     intro w
     refine ag 0 ?_
     exact cX.mk (w,bi,bl,bo) ⟨rfl,rfl,rfl,trivial⟩ (.pull [3,3,2,1] (aN rfl))
    ·intro w
     refine bg ?_
     intro bo
     refine ag 1 ?_
     exact cX.mk (w,bi,bl,bo) ⟨rfl,rfl,rfl,trivial⟩ (.pull [3,3,2,0] (aN rfl))
   ·refine And.intro ?_ ?_
    ·refine bg ?_
     intro bo
     refine And.intro ?_ ?_
     ·refine bg ?_
      intro bl
      intro w
      refine ag 0 ?_
      exact cX.mk (w,bi,bl,bo) ⟨rfl,rfl,rfl,trivial⟩ (.pull [3,3,2,2] (aN rfl))
     ·intro w
      refine bg ?_
      intro bl
      refine ag 1 ?_
      exact cX.mk (w,bi,bl,bo) ⟨rfl,rfl,rfl,trivial⟩ (.pull [3,3,1,2] (aN rfl))
    ·intro w
     refine And.intro ?_ ?_
     ·refine bg ?_
      intro bl
      refine bg ?_
      intro bo
      refine ag 2 ?_
      exact cX.mk (w,bi,bl,bo) ⟨rfl,rfl,rfl,trivial⟩ (.pull [3,3,1,0] (aN rfl))
     ·refine bg ?_
      intro bo
      refine bg ?_
      intro bl
      refine ag 2 ?_
      exact cX.mk (w,bi,bl,bo) ⟨rfl,rfl,rfl,trivial⟩ (.pull [3,3,1,1] (aN rfl))
  ·refine And.intro ?_ ?_
   ·refine bg ?_
    intro bl
    refine And.intro ?_ ?_
    ·refine bg ?_
     intro bi
     refine And.intro ?_ ?_
     ·refine bg ?_
      intro bo
      intro w
      refine ag 0 ?_
      exact cX.mk (w,bi,bl,bo) ⟨rfl,rfl,rfl,trivial⟩ (.pull [3,3,3,1] (aN rfl))
     ·intro w
      refine bg ?_
      intro bo
      refine ag 1 ?_
      exact cX.mk (w,bi,bl,bo) ⟨rfl,rfl,rfl,trivial⟩ (.pull [3,3,3,0] (aN rfl))
    ·refine And.intro ?_ ?_
     ·refine bg ?_
      intro bo
      refine And.intro ?_ ?_
      ·refine bg ?_
       intro bi
       intro w
       refine ag 0 ?_
       exact cX.mk (w,bi,bl,bo) ⟨rfl,rfl,rfl,trivial⟩ (.pull [3,3,3,2] (aN rfl))
      ·intro w
       refine bg ?_
       intro bi
       refine ag 1 ?_
       exact cX.mk (w,bi,bl,bo) ⟨rfl,rfl,rfl,trivial⟩ (.pull [3,2,3,2] (aN rfl))
     ·intro w
      refine And.intro ?_ ?_
      ·refine bg ?_
       intro bi
       refine bg ?_
       intro bo
       refine ag 2 ?_
       exact cX.mk (w,bi,bl,bo) ⟨rfl,rfl,rfl,trivial⟩ (.pull [3,2,3,0] (aN rfl))
      ·refine bg ?_
       intro bo
       refine bg ?_
       intro bi
       refine ag 2 ?_
       exact cX.mk (w,bi,bl,bo) ⟨rfl,rfl,rfl,trivial⟩ (.pull [3,2,3,1] (aN rfl))
   ·refine And.intro ?_ ?_
    ·refine bg ?_
     intro bo
     refine And.intro ?_ ?_
     ·refine bg ?_
      intro bi
      refine And.intro ?_ ?_
      ·refine bg ?_
       intro bl
       intro w
       refine ag 0 ?_
       exact cX.mk (w,bi,bl,bo) ⟨rfl,rfl,rfl,trivial⟩ (.pull [3,3,2,3] (aN rfl))
      ·intro w
       refine bg ?_
       intro bl
       refine ag 1 ?_
       exact cX.mk (w,bi,bl,bo) ⟨rfl,rfl,rfl,trivial⟩ (.pull [3,3,1,3] (aN rfl))
     ·refine And.intro ?_ ?_
      ·refine bg ?_
       intro bl
       refine And.intro ?_ ?_
       ·refine bg ?_
        intro bi
        intro w
        refine ag 0 ?_
        exact cX.mk (w,bi,bl,bo) ⟨rfl,rfl,rfl,trivial⟩ (.pull [3,3,3,3] (aN rfl))
       ·intro w
        refine bg ?_
        intro bi
        refine ag 1 ?_
        exact cX.mk (w,bi,bl,bo) ⟨rfl,rfl,rfl,trivial⟩ (.pull [3,2,3,3] (aN rfl))
      ·intro w
       refine And.intro ?_ ?_
       ·refine bg ?_
        intro bi
        refine bg ?_
        intro bl
        refine ag 2 ?_
        exact cX.mk (w,bi,bl,bo) ⟨rfl,rfl,rfl,trivial⟩ (.pull [3,2,1,3] (aN rfl))
       ·refine bg ?_
        intro bl
        refine bg ?_
        intro bi
        refine ag 2 ?_
        exact cX.mk (w,bi,bl,bo) ⟨rfl,rfl,rfl,trivial⟩ (.pull [3,2,2,3] (aN rfl))
    ·intro w
     refine And.intro ?_ ?_
     ·refine bg ?_
      intro bi
      refine And.intro ?_ ?_
      ·refine bg ?_
       intro bl
       refine bg ?_
       intro bo
       refine ag 3 ?_
       exact cX.mk (w,bi,bl,bo) ⟨rfl,rfl,rfl,trivial⟩ (.pull [3,2,1,0] (aN rfl))
      ·refine bg ?_
       intro bo
       refine bg ?_
       intro bl
       refine ag 3 ?_
       exact cX.mk (w,bi,bl,bo) ⟨rfl,rfl,rfl,trivial⟩ (.pull [3,2,1,1] (aN rfl))
     ·refine And.intro ?_ ?_
      ·refine bg ?_
       intro bl
       refine And.intro ?_ ?_
       ·refine bg ?_
        intro bi
        refine bg ?_
        intro bo
        refine ag 3 ?_
        exact cX.mk (w,bi,bl,bo) ⟨rfl,rfl,rfl,trivial⟩ (.pull [3,2,2,0] (aN rfl))
       ·refine bg ?_
        intro bo
        refine bg ?_
        intro bi
        refine ag 3 ?_
        exact cX.mk (w,bi,bl,bo) ⟨rfl,rfl,rfl,trivial⟩ (.pull [3,2,2,1] (aN rfl))
      ·refine bg ?_
       intro bo
       refine And.intro ?_ ?_
       ·refine bg ?_
        intro bi
        refine bg ?_
        intro bl
        refine ag 3 ?_
        exact cX.mk (w,bi,bl,bo) ⟨rfl,rfl,rfl,trivial⟩ (.pull [3,2,1,2] (aN rfl))
       ·refine bg ?_
        intro bl
        refine bg ?_
        intro bi
        refine ag 3 ?_
        exact cX.mk (w,bi,bl,bo) ⟨rfl,rfl,rfl,trivial⟩ (.pull [3,2,2,2] (aN rfl))
 rintro⟨w,bi,bl,bo⟩ g
 have cz:∀(a:Nat) (σ:Hp),ACalls Tryz.prog 289 [.int .i64 n,.af cb l,.int .i64 a] σ (aD (.af (.int .i64) (ax n l a)) σ):=fun a σ=>zu n l a σ hl
 have x8:∀k,cx ((List.range (k+1)).map fun a:Nat=>ax n l a)=cx ((List.range k).map fun a:Nat=>ax n l a)++[.af (.int .i64) (ax n l k)]:=fun k=>by rw[qe,cC];exact cC
 have eu:∀k,(cx ((List.range k).map fun a:Nat=>ax n l a)).length=k:=fun k=>by rw[th,cm,kx]
 refine bh (S:=Nat×AV×Hp) (fun x=>[(0,.int .i64 n),(1,.af cb l),(6,.ptr w 0),(20,.int .i64 n),(21,.int .i64 x.1)]) (fun x=>(w,[x.2.1,.ah bi 0 n 1,.ah bl 0 n 1,.ah bo 0 n 1,.ak,.int .i64 0,.ak])::(bi,cN [.int .i64 0] n)::(bl,cN [.int .i64 0] n)::(bo,cN [.bool false] n)::(x.2.2++σ)) (fun x=>x.1≤n∧(x.1<n→Acc 1 x.1 x.2.1 x.2.2 (cx ((List.range x.1).map fun a:Nat=>ax n l a)))∧(x.1=n→x.2.1=.af (.slice (.int .i64)) (cj n l)∧x.2.2=[])) (fun x=>n-x.1) (0,.ak,[]) ⟨⟨aY _,fun _=>.nil,fun h=>by have h:0=n:=h;omega⟩,⟨rfl,rfl,rfl,rfl,rfl,trivial⟩,rfl⟩ ?_
 rintro⟨k,v,acc⟩ g ⟨aO,gQ,BQ⟩
 have hk:k≤n:=aO
 have bS:k<n→Acc 1 k v acc (cx ((List.range k).map fun a:Nat=>ax n l a)):=gQ
 have lv:k=n→v=.af (.slice (.int .i64)) (cj n l)∧acc=[]:=BQ
 clear aO gQ BQ
 refine aj (p:=(k:Int)<n) (fun ab=>?_) (fun aq=>?_)
 ·have ab:k<n:=by omega
  have bS:=bS ab
  clear lv
  have kT:(cj n l).length=n:=by unfold cj;rw[cm,kx]
  have z8:∀k,k+1=n→((cx ((List.range k).map fun a:Nat=>ax n l a)++[AV.af (.int .i64) (ax n l k)]).drop 0).take ((k+1)*1)=(cj n l).flatMap (Sh.cells (.slice (.int .i64))):=fun k hk=>by
   rw[← x8,fG,dN (by rw[eu,dB];exact bJ _),hk]
   exact tp _
  refine .sched [5] (.one 0 false (.one 2 false (.one 3 false (.one 4 false (.one 5 true (.alt 1 (.one 6 false (.one 7 false (.one 8 false (.one 9 false .stop)))) (.one 6 false (.one 1 false (.one 7 false (.one 8 false (.one 9 false .stop))))))))))) (by kernel_rfl) ?_
  refine aK [] (zu n l _ _ hl) ?_
  refine And.intro ?_ ?_
  ·refine aa 0 ?_
   intro aB
   refine yC [_,_,_,_,_] bS.v8 (.ah 0 aB 0 1 _ rfl (cp rfl)) rfl (by omega) (by decide) (by decide) (fun v' aU h'=>?_)
   obtain⟨b5,rfl,rfl⟩:=sl (by omega) h'
   refine ag 1 ?_
   by_cases gN:k+1=n
   ·refine .kj 5 b5 0 (k+1) 1 _ (.slice (.int .i64)) (cj n l) rfl (z8 k gN) ⟨(kT.trans gN.symm),rfl,by decide⟩ 1 0 w _ rfl rfl ?_
    exact aM (k+1,.af (.slice (.int .i64)) (cj n l),[]) (by show n-(k+1)<n-k;omega) ⟨ab,fun h=>absurd gN (by have h:k+1<n:=h;omega),fun _=>⟨rfl,rfl⟩⟩ ⟨rfl,rfl,rfl,rfl,aL (by omega),trivial⟩ (.drop 0 1 (aN rfl))
   ·exact aM (k+1,.ah b5 0 (k+1) 1,[(b5,cx ((List.range k).map fun a:Nat=>ax n l a)++[.af (.int .i64) (ax n l k)])]) (by show n-(k+1)<n-k;omega) ⟨ab,fun _=>by show Acc 1 (k+1) _ _ (cx ((List.range (k+1)).map fun a:Nat=>ax n l a));rw[x8];exact h',fun h=>absurd h gN⟩ ⟨rfl,rfl,rfl,rfl,aL (by omega),trivial⟩ (.drop 0 1 (aN rfl))
  ·intro cE
   refine aa 1 ?_
   refine yC [_,_,_,_,_] bS.v8 (.ah 0 cE 0 1 _ rfl (cp rfl)) rfl (by omega) (by decide) (by decide) (fun v' aU h'=>?_)
   obtain⟨b5,rfl,rfl⟩:=sl (by omega) h'
   refine ag 1 ?_
   by_cases gN:k+1=n
   ·refine .kj 5 b5 0 (k+1) 1 _ (.slice (.int .i64)) (cj n l) rfl (z8 k gN) ⟨(kT.trans gN.symm),rfl,by decide⟩ 1 0 w _ rfl rfl ?_
    exact aM (k+1,.af (.slice (.int .i64)) (cj n l),[]) (by show n-(k+1)<n-k;omega) ⟨ab,fun h=>absurd gN (by have h:k+1<n:=h;omega),fun _=>⟨rfl,rfl⟩⟩ ⟨rfl,rfl,rfl,rfl,aL (by omega),trivial⟩ (.drop 0 1 (aN rfl))
   ·exact aM (k+1,.ah b5 0 (k+1) 1,[(b5,cx ((List.range k).map fun a:Nat=>ax n l a)++[.af (.int .i64) (ax n l k)])]) (by show n-(k+1)<n-k;omega) ⟨ab,fun _=>by show Acc 1 (k+1) _ _ (cx ((List.range (k+1)).map fun a:Nat=>ax n l a));rw[x8];exact h',fun h=>absurd h gN⟩ ⟨rfl,rfl,rfl,rfl,aL (by omega),trivial⟩ (.drop 0 1 (aN rfl))
 ·have aq:k=n:=by omega
  obtain⟨rfl,rfl⟩:=lv aq
  clear bS lv
  refine bh (S:=Nat×(List Int×List Int×List Bool×Nat×List (List Int))×(AV×Hp×AV×Hp)) (fun x=>[(0,.int .i64 n),(1,.af cb l),(6,.ptr w 0),(34,.int .i64 n),(35,.int .i64 x.1)]) (fun x=>(w,dq (cj n l) bi bl bo n x.2.2.1 x.2.1.2.2.2.1 x.2.2.2.2.1)::(bi,an x.2.1.1)::(bl,an x.2.1.2.1)::(bo,bK x.2.1.2.2.1)::(x.2.2.2.1++(x.2.2.2.2.2++σ))) (fun x=>x.1≤n∧FI n (ax n l) x.2.1.1 x.2.1.2.1 x.2.1.2.2.1 [] x.2.1.2.2.2.1 x.2.1.2.2.2.2 []∧iA 1 0 x.2.2.1 x.2.2.2.1 []∧Acc 1 x.2.1.2.2.2.2.length x.2.2.2.2.1 x.2.2.2.2.2 (cx x.2.1.2.2.2.2)∧∀b:Nat,b<x.1→x.2.1.1.getD b 0≠0) (fun x=>n-x.1) (0,(List.replicate n 0,List.replicate n 0,List.replicate n false,0,[]),(.ak,[],.ak,[])) ⟨⟨aY _,.start n (ax n l),.nil,.nil,fun _ h=>absurd h (s7 _)⟩,⟨rfl,rfl,rfl,rfl,rfl,trivial⟩,by rw[tk,yU];rfl⟩ ?_
  clear aq
  rintro⟨k,⟨ix,lo,on,aV,P⟩,⟨vs,ly,vp,eK⟩⟩ g2 ⟨aO,rV,lE,qO,ma⟩
  have hk:k≤n:=aO
  have hF:FI n (ax n l) ix lo on [] aV P []:=rV
  have hs:iA 1 0 vs ly []:=lE
  have hp:Acc 1 P.length vp eK (cx P):=qO
  have hv:∀b:Nat,b<k→ix.getD b 0≠0:=ma
  clear aO rV lE qO ma
  have CV:((k:Nat):Int).toNat=k:=bR k
  refine aj (p:=(k:Int)<n) (fun ab=>?_) (fun aq=>?_)
  ·have ab:k<n:=by omega
   refine aa 0 ?_
   refine aQ ?_
   refine aW 1 rfl (eZ rfl (by omega) (by rw[hF.li];omega)) ?_
   refine aj (p:=ix.getD ((k:Nat):Int).toNat 0=0) (fun c1=>?_) (fun c1=>?_)
   ·refine .mk [] _ (adh n w bi bl bo l ix lo on aV P vs vp ly eK k σ (by omega) hF (by omega) c1 hs hp) ?_
    rintro _ _ ⟨rfl,KQ,KP,KM,Kt,P2,Gf,JM,KC,JN,LG,gV,dE,nr,sU,rfl⟩
    rw[CV]at nr
    refine aM (k+1,(KQ,KP,KM,Kt,P2),(Gf,JM,KC,JN)) (by show n-(k+1)<n-k;omega) ⟨ab,LG,gV,dE,fun b hb=>?_⟩ ⟨rfl,rfl,rfl,rfl,aL (by omega),trivial⟩ (.refl _)
    have hb:b<k+1:=hb
    by_cases e:b=k
    ·subst e;exact nr
    ·exact sU b (hv b (by omega))
   ·rw[CV]at c1
    refine aM (k+1,(ix,lo,on,aV,P),(vs,ly,vp,eK)) (by show n-(k+1)<n-k;omega) ⟨ab,hF,hs,hp,fun b hb=>?_⟩ ⟨rfl,rfl,rfl,rfl,aL (by omega),trivial⟩ (.refl _)
    have hb:b<k+1:=hb
    by_cases e:b=k
    ·subst e;exact c1
    ·exact hv b (by omega)
  ·have aq:k=n:=by omega
   subst aq
   have bQ:n9 k l P:=⟨hF.tj.prt,fun x h0 h1=>by
    have h2:=hv x.toNat (by omega)
    have h3:=(hF.tj.vZ x h0 h1).1 (by rw[lX h0];exact h2)
    exact h3.resolve_left (by simp)⟩
   have Da:=AZ hF.tj.prt
   refine aa 0 ?_
   obtain⟨x,hx,_⟩:=bQ.all 0 (by omega) (by omega)
   have s4:=AB hx
   obtain⟨b5,rfl,rfl⟩:=sl s4 hp
   rcases hs.zero with ⟨rfl,rfl⟩ | ⟨bs,J,rfl,rfl⟩
   ·skip
    refine .cH (args':=[.int .i64 k,.af cb l,.af (.slice (.int .i64)) P]) 4 b5 0 P.length 1 _ (.slice (.int .i64)) P rfl (by rw[fG,dN (by rw[th,dB];exact bJ _)];exact tp _) ⟨rfl,rfl,by decide⟩ (cc (.refl _) (cc (.refl _) (cc .here (.refl _)))) ?_
    refine ar [] (PR k l P _ bQ hl (by omega) Ac) ?_
    exact .drop 0 4 (.done ⟨rfl,rfl,P,bQ⟩)
   ·skip
    refine .cH (args':=[.int .i64 k,.af cb l,.af (.slice (.int .i64)) P]) 5 b5 0 P.length 1 _ (.slice (.int .i64)) P rfl (by rw[fG,dN (by rw[th,dB];exact bJ _)];exact tp _) ⟨rfl,rfl,by decide⟩ (cc (.refl _) (cc (.refl _) (cc .here (.refl _)))) ?_
    refine ar [] (PR k l P _ bQ hl (by omega) Ac) ?_
    exact .drop 0 5 (.done ⟨rfl,rfl,P,bQ⟩)
set_option maxHeartbeats 4000000
def ff(rw:List (Nat×List Int)):List AV:=rw.map fun r=>.ah r.1 0 r.2.length 1
def eM(rw:List (Nat×List Int)):Hp:=rw.map fun r=>(r.1,an r.2)
theorem U2(rw:List (Nat×List Int)):(ff rw).length=rw.length:=cm _
def PO(P:List (List Int))(v:AV)(acc:Hp):Prop:=∃(ac:Hp) (rw:List (Nat×List Int)),acc=ac++eM rw∧Acc 1 rw.length v ac (ff rw)∧rw.map Prod.snd=P
theorem QM(w bi bl bo n:Nat)(N:List (List Int))(ix lo A B:List Int)(on:List Bool)(P:List (List Int))(aV:Nat)(vs vp:AV)(ly eK:Hp)(a:Int)(σ:Hp)(h0:0≤a)(hn:a<n)(hi:ix.length=n)(hl:lo.length=n)(ho:on.length=n)(he:lo.getD a.toNat 0=ix.getD a.toNat 0)(Lu:a ∉ A)(hB:∀x∈a::B,0≤x∧x<n)(dx:(A++a::B).length≤10000)(lG:P.length≤10000)
  (hs:iA 1 (A++a::B).length vs ly (an (A++a::B))) (hp:PO P vp eK) :
  ACalls Tryz.prog 315 [.ptr w 0,.int .i64 a] ((w,dq N bi bl bo n vs aV vp)::(bi,an ix)::(bl,an lo)::(bo,bK on)::(ly++(eK++σ)))
   (fun r σ'=>r=.tup []∧∃eD iZ gB gz,iA 1 A.length eD iZ (an A)∧PO (P++[fJ (a::B)]) gB gz∧σ'=(w,dq N bi bl bo n eD aV gB)::(bi,an ix)::(bl,an lo)::(bo,bK (eR (a::B) on))::(iZ++(gz++σ))):=by
 obtain⟨ac,rw,rfl,hp,mE⟩:=hp
 have lG:rw.length≤10000:=by rw[← mE,cm]at lG;exact lG
 rw[dh]
 obtain⟨K,hK⟩:∃K,(A++a::B).length=K:=⟨_,rfl⟩
 obtain⟨L,hL⟩:∃L:List Int,a::B=L:=⟨_,rfl⟩
 obtain⟨q,hq⟩:∃q,L.length=q:=⟨_,rfl⟩
 have hKA:K=A.length+q:=by rw[← hK,bG,hL,hq]
 have hq0:0<q:=by rw[← hq,← hL,iE];omega
 rw[hK]at hs dx
 obtain⟨bs,J,rfl,rfl,LF⟩:=hs.pos (by omega)
 have iK:((an (A++a::B)++J).drop A.length).take (q*1)=an L:=by
  rw[hL]
  unfold an
  rw[cC,dh,L4 (by rw[cm];exact bJ _),Dw (by rw[cm];exact bJ _),uP,G2 (by rw[cm];omega),dN (by rw[cm];omega)]
 have fh:A.length+q*1≤(an (A++a::B)++J).length:=by rw[bG,LF];omega
 refine au Tryz.func315 ?_
 refine .quiet (by kernel_rfl) ?_
 refine aa 0 ?_
 refine aQ ?_
 refine aW 2 rfl (eZ rfl h0 (by omega)) ?_
 refine aa 0 ?_
 refine aQ ?_
 refine aW 1 rfl (eZ rfl h0 (by omega)) ?_
 refine cQ (fun c=>?_) (fun c=>?_)
 ·exact absurd he (by simpa using c)
 clear c
 refine aa 0 ?_
 refine ar [4] (QN bs K A B J a _ hK Lu (by omega)) ?_
 refine aa 1 ?_
 refine aw.mk ⟨by omega,by omega,by omega,rfl⟩ ?_
 have hC:∀σ,ACalls Tryz.prog 220 [.ah bs (0+((A.length:Nat):Int).toNat*1) (((K:Nat):Int).toNat-((A.length:Nat):Int).toNat) 1] ((bs,an (A++a::B)++J)::σ) (fun x σ'=>∃b',x=.ah b' 0 q 1∧σ'=(b',an L)::(bs,an (A++a::B)++J)::σ):=fun σ=>by
  rw[show 0+((A.length:Nat):Int).toNat*1=A.length by omega,show ((K:Nat):Int).toNat-((A.length:Nat):Int).toNat=q by omega]
  exact QQ bs A.length q _ _ σ iK fh (by omega)
 refine .mk [0] _ (hC _) ?_
 rintro _ _ ⟨bp,rfl,rfl⟩
 refine aa 2 ?_
 refine aw.mk ⟨by omega,by omega,by omega,by omega,rfl⟩ ?_
 refine ag 2 ?_
 refine bh (S:=Nat) (fun i=>[(0,.ptr w 0),(5,.ah bp 0 q 1),(46,.ah bp 0 q 1),(47,.int .i64 q),(48,.int .i64 i)]) (fun i=>(bp,an L)::(bs,an (A++a::B)++J)::(w,dq N bi bl bo n (.ah bs 0 A.length 1) aV vp)::(bi,an ix)::(bl,an lo)::(bo,bK (eR (L.take i) on))::(ac++(eM rw++σ))) (fun i=>i≤q) (fun i=>q-i) 0 ⟨aY _,⟨rfl,rfl,rfl,rfl,rfl,trivial⟩,rfl⟩ ?_
 rintro i g dc
 have hiq:i≤q:=dc
 clear dc
 refine aj (p:=(i:Int)<q) (fun ab=>?_) (fun aq=>?_)
 ·have ab:i<L.length:=by omega
  obtain⟨x,hx⟩:∃x,L[i]=x:=⟨_,rfl⟩
  have wk:=hB x (by rw[hL,← hx];exact cq ab)
  have jC:=DN (L.take i) on
  have Ka:(eR (L.take i) on).set x.toNat false=eR (L.take (i+1)) on:=by unfold eR;rw[eT ab,hx,uQ];rfl
  have mb:eF ⟨.int .i64,1,8,[.int .i64 0]⟩ (an L) (0+((i:Nat):Int).toNat*1)=some (.int .i64 x):=by
   rw[eZ rfl (by omega) (by omega),bR,bO,bN ab,hx];rfl
  refine aQ ?_
  refine aW 0 rfl mb ?_
  refine aa 2 ?_
  refine aQ ?_
  refine cu 5 rfl (ti rfl false wk.1 (by omega)) ?_
  exact aM (i+1) (by show q-(i+1)<q-i;omega) (by show i+1≤q;omega) ⟨rfl,rfl,rfl,rfl,aL (by omega),trivial⟩ (aN (by rw[Ka];rfl))
 ·have aq:i=q:=by omega
  subst aq
  refine ar [0] (Jf bp L i _ hq (by omega)) ?_
  refine aa 2 ?_
  intro cE
  refine yC [_,_,_,_,_,_,_] hp.v8 (.ah 0 cE 0 1 _ rfl (cp rfl)) rfl (by omega) (by decide) (by decide) (fun v' aU h'=>?_)
  obtain⟨b5,rfl,rfl⟩:=sl (by omega) h'
  refine ag 3 ?_
  have gm:((w,dq N bi bl bo n (.ah bs 0 A.length 1) aV (.ah b5 0 (rw.length+1) 1))::(bi,an ix)::(bl,an lo)::(bo,bK (eR (L.take i) on))::(bs,an (A++a::B)++J)::([(b5,ff rw++[.ah bp 0 i 1])]++((eM rw++[(bp,an (fJ L))])++σ))).Perm ((bp,an (fJ L))::(bs,an (A++a::B)++J)::(w,dq N bi bl bo n (.ah bs 0 A.length 1) aV (.ah b5 0 (rw.length+1) 1))::(bi,an ix)::(bl,an lo)::(bo,bK (eR (L.take i) on))::([(b5,ff rw++[.ah bp 0 i 1])]++(eM rw++σ))):=by
   have h1:∀(X:Hp) (x y:Nat×List AV),(X++(x::([(b5,ff rw++[.ah bp 0 i 1])]++((eM rw++[y])++σ)))).Perm (y::x::(X++([(b5,ff rw++[.ah bp 0 i 1])]++(eM rw++σ)))):=fun X x y=>by
    refine nw.trans ?_
    refine (List.Perm.cons x ?_).trans (List.Perm.swap _ _ _)
    rw[dh]
    have h2:([(b5,ff rw++[AV.ah bp 0 i 1])]++(eM rw++([y]++σ))).Perm (y::([(b5,ff rw++[.ah bp 0 i 1])]++(eM rw++σ))):=by
     have h3:=nw (l₁:=[(b5,ff rw++[AV.ah bp 0 i 1])]++eM rw) (a:=y) (l₂:=σ)
     rw[dh,dh]at h3
     exact h3
    exact (List.Perm.append_left X h2).trans nw
   exact h1 [_,_,_,_] _ _
  refine .drop 0 1 (.perm gm (.done ⟨rfl,.ah bs 0 A.length 1,[(bs,an A++(an L++J))],.ah b5 0 (rw.length+1) 1,[(b5,ff rw++[.ah bp 0 i 1])]++eM (rw++[(bp,fJ L)]),.ah bs A.length (an A) (an L++J) (by rw[lO,dB]),⟨_,rw++[(bp,fJ L)],rfl,?_,?_⟩,?_⟩))
  ·rw[bG]
   have e:ff (rw++[(bp,fJ L)])=ff rw++[.ah bp 0 i 1]:=by
    unfold ff
    rw[cC]
    show _++[AV.ah bp 0 (fJ L).length 1]=_
    rw[yB,hq]
   rw[e]
   exact .ah b5 (rw.length+1) _ (by rw[bG,U2,dB];rfl)
  ·rw[cC,mE];subst hL;rfl
  ·rw[dN (Aj hq)]
   subst hL
   have e1:an (A++a::B)++J=an A++(an (a::B)++J):=by unfold an;rw[cC,dh]
   have e3:eM (rw++[(bp,fJ (a::B))])=eM rw++[(bp,an (fJ (a::B)))]:=cC
   rw[e1,e3]
   simp only[dh,go2,uP]
theorem ace(n w bi bl bo:Nat)(l:List aT)(lC uu:List Int)(uq:List Bool)(dJ:Nat)(P0:List (List Int))(sP fZ:AV)(tR iw:Hp)(a:Int)(σ:Hp)(hn:n≤1000)(h:FI n (ax n l) lC uu uq [] dJ P0 [])(ha:0≤a∧a<n)(hf:lC.getD a.toNat 0=0)(hs:iA 1 0 sP tR [])(hp:PO P0 fZ iw):
  ACalls Tryz.prog 290 [.ptr w 0,.int .i64 a] ((w,dq (cj n l) bi bl bo n sP dJ fZ)::(bi,an lC)::(bl,an uu)::(bo,bK uq)::(tR++(iw++σ)))
   (fun r σ'=>r=.tup []∧∃ix lo on aV P vs ly vp eK,FI n (ax n l) ix lo on [] aV P []∧iA 1 0 vs ly []∧PO P vp eK∧ix.getD a.toNat 0≠0∧(∀b:Nat,lC.getD b 0≠0→ix.getD b 0≠0)∧σ'=(w,dq (cj n l) bi bl bo n vs aV vp)::(bi,an ix)::(bl,an lo)::(bo,bK on)::(ly++(eK++σ))):=by
 have hle:=h.zc
 refine au Tryz.func290 ?_
 refine M7 (S:=FrS) rfl (fun _=>0)
  (fun x=>[(0,.ptr w 0),(4,.ah x.2.2.2.1 0 (x.2.2.1.1.length+1) 2)])
  (fun x=>(w,dq (cj n l) bi bl bo n (.ah x.2.1.1 0 x.1.2.2.2.1.length 1) x.1.2.2.2.2.1 x.2.1.2.2.1)::(bi,an x.1.1)::(bl,an x.1.2.1)::(bo,bK x.1.2.2.1)::(x.2.1.1,an x.1.2.2.2.1++x.2.1.2.1)::(x.2.2.2.1,bM (x.2.2.1.1++[(x.2.2.1.2.1,x.2.2.1.2.2)])++x.2.2.2.2)::(x.2.1.2.2.2++σ))
  (fun x=>(FI n (ax n l) x.1.1 x.1.2.1 x.1.2.2.1 x.1.2.2.2.1 x.1.2.2.2.2.1 x.1.2.2.2.2.2 (x.2.2.1.1++[(x.2.2.1.2.1,x.2.2.1.2.2)])∧PO x.1.2.2.2.2.2 x.2.1.2.2.1 x.2.1.2.2.2)∧x.1.1.getD a.toNat 0≠0∧∀b:Nat,lC.getD b 0≠0→x.1.1.getD b 0≠0)
  (fun x=>je (ax n l) (x.2.2.1.1++[(x.2.2.1.2.1,x.2.2.1.2.2)])+iy (ax n l) x.1.1 n) ?_ ?_
 ·rintro⟨⟨ix,lo,on,st,aV,P⟩,⟨bs,Js,vp,eK⟩,⟨wy,v,k⟩,⟨bw,J⟩⟩ g ⟨⟨rV,s4⟩,p8,Dc⟩
  have hF:FI n (ax n l) ix lo on st aV P (wy++[(v,k)]):=rV
  have hP:PO P vp eK:=s4
  have hA:ix.getD a.toNat 0≠0:=p8
  have hM:∀b:Nat,lC.getD b 0≠0→ix.getD b 0≠0:=Dc
  clear rV s4 p8 Dc
  have hle:=hF.zc
  have cg:=hF.mem
  have er:=hF.tj.node v cg
  have zV:k≤(ax n l v).length:=hF.tn (v,k) (iO _ (bE.2 rfl))
  have kT:=vb n l v
  have qL:wy.length+1≤st.length:=by
   have:=hF.tj.sub.length_le
   rw[cm,bG]at this
   exact this
  have l5:IntKind.i64.wrap (((wy.length+1:Nat):Int)-1)=((wy.length:Nat):Int):=by rw[fP (by omega)];omega
  have hX:0+(IntKind.i64.wrap (((wy.length+1:Nat):Int)-1)).toNat*2=wy.length*2:=by rw[l5];omega
  have mF:eF ⟨.int .i64,1,8,[.int .i64 0]⟩ (bM (wy++[(v,k)])++J) (0+(IntKind.i64.wrap (((wy.length+1:Nat):Int)-1)).toNat*2+0)=some (.int .i64 v):=gy rfl (by rw[hX];exact qY rfl)
  have lF:eF ⟨.int .i64,1,8,[.int .i64 0]⟩ (bM (wy++[(v,k)])++J) (0+(IntKind.i64.wrap (((wy.length+1:Nat):Int)-1)).toNat*2+1)=some (.int .i64 k):=gy rfl (by rw[hX];exact AT rfl)
  have fh:(bM (wy++[(v,k)])++J).length=wy.length*2+2+J.length:=by rw[bG,mm,bG];show (wy.length+1)*2+_=_;omega
  have jE:IntKind.i64.wrap ((k:Int)+1)=((k+1:Nat):Int):=by rw[fP (by omega)];omega
  have uz:kC ⟨.int .i64,1,8,[.int .i64 0]⟩ (bM (wy++[(v,k)])++J) (0+(IntKind.i64.wrap (((wy.length+1:Nat):Int)-1)).toNat*2+1) (.int .i64 (IntKind.i64.wrap ((k:Int)+1)))=some (bM (wy++[(v,k+1)])++J):=by
   rw[pz rfl rfl (by rw[hX,fh];omega),hX,jE,A6 rfl]
  have tN:2=2∧0≤IntKind.i64.wrap (((wy.length+1:Nat):Int)-1)∧IntKind.i64.wrap (((wy.length+1:Nat):Int)-1)<((wy.length+1:Nat):Int):=⟨rfl,by omega,by omega⟩
  refine aw.mk tN ?_
  refine .quiet (by kernel_rfl) ?_
  refine aW 5 rfl lF ?_
  refine aa 0 ?_
  refine aW 5 rfl mF ?_
  refine aw.mk rfl ?_
  refine aX.mk (ax n l v) (by omega) (oF er) ?_
  refine aj (p:=(k:Int)<(ax n l v).length) (fun ab=>?_) (fun aq=>?_)
  ·have ab:k<(ax n l v).length:=by omega
   obtain⟨b,hb⟩:∃b,(ax n l v)[k]=b:=⟨_,rfl⟩
   have rS:b∈ax n l v:=hb▸cq ab
   have dM:=(kD.1 rS).1
   refine .quiet (by kernel_rfl) ?_
   refine aa 0 ?_
   refine aW 5 rfl mF ?_
   refine aw.mk rfl ?_
   refine aX.mk (ax n l v) (by omega) (oF er) ?_
   refine aW 5 rfl lF ?_
   refine aw.mk rfl ?_
   refine aX.mk b (by omega) ((get_some ab).trans (congrArg some hb)) ?_
   refine aW 5 rfl lF ?_
   refine cu 5 rfl uz ?_
   refine aa 0 ?_
   refine aQ ?_
   refine aW 1 rfl (eZ rfl dM.1 (by rw[hF.li];omega)) ?_
   refine aj (p:=ix.getD b.toNat 0=0) (fun c1=>?_) (fun c1=>?_)
   ·have hN:=hF.new ab hb dM c1
    have ew:(an st).length=st.length*1:=by rw[lO,dB]
    refine .mk [] _ (ze w bi bl bo n (cj n l) ix lo st on aV _ vp _ b ((bw,bM (wy++[(v,k+1)])++J)::(eK++σ)) dM.1 dM.2 hF.li hF.ll hF.kq (.ah bs st.length (an st) Js ew) (by omega) (by omega)) ?_
    rintro _ _ ⟨rfl,zL,BZ,fE,rfl⟩
    obtain⟨lL,oq,rfl,rfl,_⟩:=fE.pos (by rw[bG];show 0<_+1;omega)
    intro aB
    have FO:(bM (wy++[(v,k+1)])).length=(wy.length+1)*2:=by rw[mm,bG];rfl
    refine xa (k:=wy.length+1) (n:=1) [_,_,_,_,_,_] (.ah bw (wy.length+1) (bM (wy++[(v,k+1)])) J FO) (.ah 0 aB 0 1 _ rfl (cp rfl)) rfl (by omega) (by decide) (by decide) (fun v' aU h'=>?_)
    obtain⟨om,J2,rfl,rfl,_⟩:=h'.pos (by omega)
    have Lc:(wy++[(v,k+1)]).length+1=wy.length+1+1:=by rw[bG];rfl
    have uJ:(b.toNat:Int)=b:=mL dM.1
    have pV:=Ii (nx:=ax n l) (ix:=ix) (b:=b.toNat) (v:=((aV+1:Nat):Int)) (by omega) c1 (by rw[hF.li];omega) n
    rw[az (by omega),uJ]at pV
    refine .mk ((ix.set b.toNat ((aV+1:Nat):Int),lo.set b.toNat ((aV+1:Nat):Int),on.set b.toNat true,st++[b],aV+1,P),(lL,oq,vp,eK),(wy++[(v,k+1)],b,0),(om,J2)) rfl ?_ ⟨⟨hN,hP⟩,?_,?_⟩ ⟨rfl,by rw[Lc];rfl,trivial⟩ (.drop 0 1 (aN (by rw[ou (wy++[(v,k+1)])];rfl)))
    ·show je (ax n l) ((wy++[(v,k+1)])++[(b,0)])+iy (ax n l) (ix.set b.toNat ((aV+1:Nat):Int)) n<je (ax n l) (wy++[(v,k)])+iy (ax n l) ix n
     rw[lP,lP,lP];omega
    ·show (ix.set b.toNat ((aV+1:Nat):Int)).getD a.toNat 0≠0
     rw[mq];split
     ·omega
     ·exact hA
    ·intro z hz
     show (ix.set b.toNat ((aV+1:Nat):Int)).getD z 0≠0
     rw[mq];split
     ·omega
     ·exact hM z hz
   ·have c1:¬(ix.getD b.toNat 0=0):=c1
    refine aa 0 ?_
    refine aQ ?_
    have o0:=hF.uo b dM.1 dM.2
    have Ce:eF ⟨.int .i64,1,8,[.int .i64 0]⟩ (bM (wy++[(v,k+1)])++J) (0+(IntKind.i64.wrap (((wy.length+1:Nat):Int)-1)).toNat*2+0)=some (.int .i64 v):=gy rfl (by rw[hX];exact qY rfl)
    refine eH.ij 3 _ _ rfl (qo rfl dM.1 (by rw[hF.kq];omega)) (fun c2=>?_) (fun c2=>?_)
    ·rw[o0]at c2
     have hO:=hF.FL ab hb (fk c2)
     refine .sched [] (upto [] 28 0) (by kernel_rfl) ?_
     refine aa 0 ?_
     refine aW 5 rfl Ce ?_
     refine aa 0 ?_
     refine aW 5 rfl Ce ?_
     refine aQ ?_
     refine aW 2 rfl (eZ rfl er.1 (by rw[hF.ll];omega)) ?_
     refine aa 0 ?_
     refine aQ ?_
     refine aW 1 rfl (eZ rfl dM.1 (by rw[hF.li];omega)) ?_
     refine aQ ?_
     refine cu 2 rfl (lS rfl _ er.1 (by rw[hF.ll];omega)) ?_
     have jw:(if ix.getD b.toNat 0<lo.getD v.toNat 0 then ix.getD b.toNat 0 else lo.getD v.toNat 0)=min (lo.getD v.toNat 0) (ix.getD b.toNat 0):=by split <;> omega
     refine .mk ((ix,lo.set v.toNat (min (lo.getD v.toNat 0) (ix.getD b.toNat 0)),on,st,aV,P),(bs,Js,vp,eK),(wy,v,k+1),(bw,J)) rfl ?_ ⟨⟨hO,hP⟩,hA,hM⟩ ⟨rfl,rfl,trivial⟩ (aN (by rw[← jw];rfl))
     show je (ax n l) (wy++[(v,k+1)])+iy (ax n l) ix n<je (ax n l) (wy++[(v,k)])+iy (ax n l) ix n
     rw[lP,lP];omega
    ·rw[o0]at c2
     have hO:=hF.off ab hb dM.1 c1 (pc c2)
     refine .mk ((ix,lo,on,st,aV,P),(bs,Js,vp,eK),(wy,v,k+1),(bw,J)) rfl ?_ ⟨⟨hO,hP⟩,hA,hM⟩ ⟨rfl,rfl,trivial⟩ (.refl _)
     show je (ax n l) (wy++[(v,k+1)])+iy (ax n l) ix n<je (ax n l) (wy++[(v,k)])+iy (ax n l) ix n
     rw[lP,lP];omega
  ·have aq:k=(ax n l v).length:=by omega
   have mE:eF ⟨.bB [(0,3),(1,3)],2,16,[.int .i64 0,.int .i64 0]⟩ (bM (wy++[(v,k)])++J) (0+(IntKind.i64.wrap (((wy.length+1:Nat):Int)-1)).toNat*2)=some (.agg [.int .i64 v,.int .i64 k]):=Qd rfl (by rw[hX,fh];show wy.length*2+2≤_;omega) (by rw[hX];exact M9 rfl)
   refine aW 5 rfl mE ?_
   intro bt
   refine ag 0 ?_
   refine aa 0 ?_
   have pE:(IntKind.i64.wrap (((wy.length+1:Nat):Int)-1)).toNat-Int.toNat 0=wy.length:=by rw[l5];omega
   have dx:0≤(0:Int)∧(0:Int)≤IntKind.i64.wrap (((wy.length+1:Nat):Int)-1)∧IntKind.i64.wrap (((wy.length+1:Nat):Int)-1)≤((wy.length+1:Nat):Int)∧2=2:=⟨by omega,by omega,by omega,rfl⟩
   by_cases he:lo.getD v.toNat 0=ix.getD v.toNat 0
   ·obtain⟨A,B,ao,Dk,hB1⟩:=Om hF.tj.inc cg
    have K5:v ∉ A:=fun hm=>by have:=Dk v hm;omega
    have K4:∀x∈v::B,0≤x∧x<(n:Int):=fun x hx=>hF.tj.node x (by rw[ao];exact iO _ hx)
    have ck:=tg hF.tj.inc
    rw[ao]at ck
    have hT:=hF.tell (by omega) ao he (fun x y hy=>(kD.1 hy).1) (AJ (v::B)) (DK (ml.1 ck).2.1)
    have Da:=DU hF.tj.prt
    subst ao
    have ew:(an (A++v::B)).length=(A++v::B).length*1:=by rw[lO,dB]
    refine .perm _ (vc [_,_,_,_,_] eK σ _ _) (QM w bi bl bo n (cj n l) ix lo A B on P aV _ vp _ eK v _ er.1 er.2 hF.li hF.ll hF.kq he K5 K4 (by omega) (by omega) (.ah bs (A++v::B).length (an (A++v::B)) Js ew) hP) ?_
    rintro _ _ ⟨rfl,eD,iZ,gB,gz,dS,rQ,rfl⟩
    have gm:((bt,[AV.int .i64 v,.int .i64 k])::(w,dq (cj n l) bi bl bo n eD aV gB)::(bi,an ix)::(bl,an lo)::(bo,bK (eR (v::B) on))::(bw,bM (wy++[(v,k)])++J)::(iZ++(gz++σ))).Perm ((w,dq (cj n l) bi bl bo n eD aV gB)::(bi,an ix)::(bl,an lo)::(bo,bK (eR (v::B) on))::(iZ++(gz++((bt,[AV.int .i64 v,.int .i64 k])::(bw,bM (wy++[(v,k)])++J)::σ)))):=by
     have h1:=(vc [(w,dq (cj n l) bi bl bo n eD aV gB),(bi,an ix),(bl,an lo),(bo,bK (eR (v::B) on))] (iZ++gz) σ (bt,[AV.int .i64 v,.int .i64 k]) (bw,bM (wy++[(v,k)])++J)).symm
     rw[dh,dh]at h1
     exact h1
    refine⟨_,gm,?_⟩
    refine aw.mk dx ?_
    rcases Aw wy with dQ | ⟨w',⟨u,i⟩,dQ⟩
    ·have pH:wy.length=0:=by rw[dQ];rfl
     rw[dQ]at hT
     obtain rfl:A=[]:=hT.Q1
     refine aj (p:=(0:Int)<(((IntKind.i64.wrap (((wy.length+1:Nat):Int)-1)).toNat-Int.toNat 0:Nat):Int)) (fun c3=>?_) (fun c3=>?_)
     ·rw[pE,pH]at c3;exact absurd c3 (by decide)
     ·refine .drop 0 1 (.drop 4 1 (.done ⟨rfl,ix,lo,eR (v::B) on,aV,P++[fJ (v::B)],eD,iZ,gB,gz,hT,dS,rQ,hA,hM,rfl⟩))
    ·have dQ:wy=w'++[(u,i)]:=by simpa using dQ
     have pH:wy.length=w'.length+1:=by rw[dQ,bG];rfl
     have jf:(IntKind.i64.wrap (((wy.length+1:Nat):Int)-1)).toNat-Int.toNat 0=w'.length+1:=pE.trans pH
     have nM:IntKind.i64.wrap ((((IntKind.i64.wrap (((wy.length+1:Nat):Int)-1)).toNat-Int.toNat 0:Nat):Int)-1)=((w'.length:Nat):Int):=by rw[jf,fP (by omega)];omega
     have yi:(0+Int.toNat 0*2)+(IntKind.i64.wrap ((((IntKind.i64.wrap (((wy.length+1:Nat):Int)-1)).toNat-Int.toNat 0:Nat):Int)-1)).toNat*2+0=w'.length*2:=by rw[nM,bR];show 0+0*2+_+0=_;omega
     have nU:bM (wy++[(v,k)])++J=bM (w'++[(u,i)])++([.int .i64 v,.int .i64 k]++J):=by rw[dQ,ou,dh];rfl
     have pV:eF ⟨.int .i64,1,8,[.int .i64 0]⟩ (bM (wy++[(v,k)])++J) ((0+Int.toNat 0*2)+(IntKind.i64.wrap ((((IntKind.i64.wrap (((wy.length+1:Nat):Int)-1)).toNat-Int.toNat 0:Nat):Int)-1)).toNat*2+0)=some (.int .i64 u):=gy rfl (by rw[yi,nU];exact qY rfl)
     have fR:0≤u∧u<(n:Int):=hF.tj.node u (hF.tj.sub.subset (by rw[dQ];simp))
     have iK:AV.ah bw (0+Int.toNat 0*2) ((IntKind.i64.wrap (((wy.length+1:Nat):Int)-1)).toNat-Int.toNat 0) 2=.ah bw 0 (w'.length+1) 2:=by rw[jf];rfl
     have JH:AV.ah bw 0 (w'.length+1) 2=AV.ah bw (0+Int.toNat 0*2) ((IntKind.i64.wrap (((wy.length+1:Nat):Int)-1)).toNat-Int.toNat 0) 2:=iK.symm
     refine aj (p:=(0:Int)<(((IntKind.i64.wrap (((wy.length+1:Nat):Int)-1)).toNat-Int.toNat 0:Nat):Int)) (fun c3=>?_) (fun c3=>?_)
     rotate_left
     ·rw[jf]at c3;omega
     have xw:2=2∧0≤IntKind.i64.wrap ((((IntKind.i64.wrap (((wy.length+1:Nat):Int)-1)).toNat-Int.toNat 0:Nat):Int)-1)∧IntKind.i64.wrap ((((IntKind.i64.wrap (((wy.length+1:Nat):Int)-1)).toNat-Int.toNat 0:Nat):Int)-1)<(((IntKind.i64.wrap (((wy.length+1:Nat):Int)-1)).toNat-Int.toNat 0:Nat):Int):=⟨rfl,by rw[nM];omega,by rw[nM,jf];omega⟩
     refine aw.mk xw ?_
     refine aW 5 rfl pV ?_
     refine .sched [] (upto [] 23 0) (by kernel_rfl) ?_
     refine aa 1 ?_
     refine aa 1 ?_
     refine aQ ?_
     refine aW 3 rfl (eZ rfl fR.1 (by rw[hF.ll];omega)) ?_
     refine aa 1 ?_
     refine aa 0 ?_
     refine aQ ?_
     refine aW 3 rfl (eZ rfl er.1 (by rw[hF.ll];omega)) ?_
     refine aQ ?_
     refine cu 3 rfl (lS rfl _ fR.1 (by rw[hF.ll];omega)) ?_
     have jw:(if lo.getD v.toNat 0<lo.getD u.toNat 0 then lo.getD v.toNat 0 else lo.getD u.toNat 0)=min (lo.getD u.toNat 0) (lo.getD v.toNat 0):=by split <;> omega
     have Di:0<A.length:=List.length_pos_of_mem (a:=u) (hT.tj.sub.subset (by rw[dQ];simp))
     obtain⟨lL,oq,rfl,rfl,_⟩:=dS.pos Di
     have zl:=FI.same (dQ▸hF) he
     rw[dQ]at hT
     have hE:(w,dq (cj n l) bi bl bo n (.ah lL 0 A.length 1) aV gB)::(bi,an ix)::(bl,an (lo.set u.toNat (if lo.getD v.toNat 0<lo.getD u.toNat 0 then lo.getD v.toNat 0 else lo.getD u.toNat 0)))::(bo,bK (eR (v::B) on))::(lL,an A++oq)::(bw,bM (wy++[(v,k)])++J)::(gz++σ)=(w,dq (cj n l) bi bl bo n (.ah lL 0 A.length 1) aV gB)::(bi,an ix)::(bl,an (lo))::(bo,bK (eR (v::B) on))::(lL,an A++oq)::(bw,bM (w'++[(u,i)])++([.int .i64 v,.int .i64 k]++J))::(gz++σ):=by rw[jw,zl,nU]
     refine .mk ((ix,lo,eR (v::B) on,A,aV,P++[fJ (v::B)]),(lL,oq,gB,gz),(w',u,i),(bw,[AV.int .i64 v,.int .i64 k]++J)) rfl ?_ ⟨⟨hT,rQ⟩,hA,hM⟩ ⟨rfl,iK,trivial⟩ (.drop 0 1 (.pull [4,4,4,4,5] (aN hE)))
     show je (ax n l) (w'++[(u,i)])+iy (ax n l) ix n<je (ax n l) (wy++[(v,k)])+iy (ax n l) ix n
     rw[dQ,lP (ax n l) (w'++[(u,i)])];omega
   ·have LD:=fun ρ=>PS w bi bl bo n (cj n l) ix lo on aV (.ah bs 0 st.length 1) vp v ρ er.1 er.2 hF.li hF.ll he
    refine ar [4,4,4,4] (LD _) ?_
    refine aw.mk dx ?_
    rcases Aw wy with dQ | ⟨w',⟨u,i⟩,dQ⟩
    ·have pH:wy.length=0:=by rw[dQ];rfl
     rw[dQ]at hF
     exact absurd hF.one he
    ·have dQ:wy=w'++[(u,i)]:=by simpa using dQ
     have pH:wy.length=w'.length+1:=by rw[dQ,bG];rfl
     have jf:(IntKind.i64.wrap (((wy.length+1:Nat):Int)-1)).toNat-Int.toNat 0=w'.length+1:=pE.trans pH
     have nM:IntKind.i64.wrap ((((IntKind.i64.wrap (((wy.length+1:Nat):Int)-1)).toNat-Int.toNat 0:Nat):Int)-1)=((w'.length:Nat):Int):=by rw[jf,fP (by omega)];omega
     have yi:(0+Int.toNat 0*2)+(IntKind.i64.wrap ((((IntKind.i64.wrap (((wy.length+1:Nat):Int)-1)).toNat-Int.toNat 0:Nat):Int)-1)).toNat*2+0=w'.length*2:=by rw[nM,bR];show 0+0*2+_+0=_;omega
     have nU:bM (wy++[(v,k)])++J=bM (w'++[(u,i)])++([.int .i64 v,.int .i64 k]++J):=by rw[dQ,ou,dh];rfl
     have pV:eF ⟨.int .i64,1,8,[.int .i64 0]⟩ (bM (wy++[(v,k)])++J) ((0+Int.toNat 0*2)+(IntKind.i64.wrap ((((IntKind.i64.wrap (((wy.length+1:Nat):Int)-1)).toNat-Int.toNat 0:Nat):Int)-1)).toNat*2+0)=some (.int .i64 u):=gy rfl (by rw[yi,nU];exact qY rfl)
     have fR:0≤u∧u<(n:Int):=hF.tj.node u (hF.tj.sub.subset (by rw[dQ];simp))
     have iK:AV.ah bw (0+Int.toNat 0*2) ((IntKind.i64.wrap (((wy.length+1:Nat):Int)-1)).toNat-Int.toNat 0) 2=.ah bw 0 (w'.length+1) 2:=by rw[jf];rfl
     have JH:AV.ah bw 0 (w'.length+1) 2=AV.ah bw (0+Int.toNat 0*2) ((IntKind.i64.wrap (((wy.length+1:Nat):Int)-1)).toNat-Int.toNat 0) 2:=iK.symm
     refine aj (p:=(0:Int)<(((IntKind.i64.wrap (((wy.length+1:Nat):Int)-1)).toNat-Int.toNat 0:Nat):Int)) (fun c3=>?_) (fun c3=>?_)
     rotate_left
     ·rw[jf]at c3;omega
     have xw:2=2∧0≤IntKind.i64.wrap ((((IntKind.i64.wrap (((wy.length+1:Nat):Int)-1)).toNat-Int.toNat 0:Nat):Int)-1)∧IntKind.i64.wrap ((((IntKind.i64.wrap (((wy.length+1:Nat):Int)-1)).toNat-Int.toNat 0:Nat):Int)-1)<(((IntKind.i64.wrap (((wy.length+1:Nat):Int)-1)).toNat-Int.toNat 0:Nat):Int):=⟨rfl,by rw[nM];omega,by rw[nM,jf];omega⟩
     refine aw.mk xw ?_
     refine aW 6 rfl pV ?_
     refine .sched [] (upto [] 23 0) (by kernel_rfl) ?_
     refine aa 0 ?_
     refine aa 0 ?_
     refine aQ ?_
     refine aW 2 rfl (eZ rfl fR.1 (by rw[hF.ll];omega)) ?_
     refine aa 0 ?_
     refine aa 4 ?_
     refine aQ ?_
     refine aW 2 rfl (eZ rfl er.1 (by rw[hF.ll];omega)) ?_
     refine aQ ?_
     refine cu 2 rfl (lS rfl _ fR.1 (by rw[hF.ll];omega)) ?_
     have jw:(if lo.getD v.toNat 0<lo.getD u.toNat 0 then lo.getD v.toNat 0 else lo.getD u.toNat 0)=min (lo.getD u.toNat 0) (lo.getD v.toNat 0):=by split <;> omega
     have hU:=FI.up (dQ▸hF) (by omega) he
     have hE:(w,dq (cj n l) bi bl bo n (.ah bs 0 st.length 1) aV vp)::(bi,an ix)::(bl,an (lo.set u.toNat (if lo.getD v.toNat 0<lo.getD u.toNat 0 then lo.getD v.toNat 0 else lo.getD u.toNat 0)))::(bo,bK (on))::(bs,an st++Js)::(bw,bM (wy++[(v,k)])++J)::(eK++σ)=(w,dq (cj n l) bi bl bo n (.ah bs 0 st.length 1) aV vp)::(bi,an ix)::(bl,an (lo.set u.toNat (min (lo.getD u.toNat 0) (lo.getD v.toNat 0))))::(bo,bK (on))::(bs,an st++Js)::(bw,bM (w'++[(u,i)])++([.int .i64 v,.int .i64 k]++J))::(eK++σ):=by rw[jw,nU]
     refine .mk ((ix,lo.set u.toNat (min (lo.getD u.toNat 0) (lo.getD v.toNat 0)),on,st,aV,P),(bs,Js,vp,eK),(w',u,i),(bw,[AV.int .i64 v,.int .i64 k]++J)) rfl ?_ ⟨⟨hU,hP⟩,hA,hM⟩ ⟨rfl,iK,trivial⟩ (.drop 4 1 (aN hE))
     show je (ax n l) (w'++[(u,i)])+iy (ax n l) ix n<je (ax n l) (wy++[(v,k)])+iy (ax n l) ix n
     rw[dQ,lP (ax n l) (w'++[(u,i)])];omega
 ·intro hr
  obtain⟨ix,lo,on,hF,hA,hM,heq,LI⟩:∃ix lo on,FI n (ax n l) ix lo on [a] (dJ+1) P0 [(a,0)]∧ix.getD a.toNat 0≠0∧(∀b:Nat,lC.getD b 0≠0→ix.getD b 0≠0)∧lo.getD a.toNat 0=ix.getD a.toNat 0∧∀ρ,ACalls Tryz.prog 314 [.ptr w 0,.int .i64 a] ((w,dq (cj n l) bi bl bo n sP dJ fZ)::(bi,an lC)::(bl,an uu)::(bo,bK uq)::(tR++ρ))
    (fun r σ'=>r=.agg [.int .i64 a,.int .i64 0]∧∃bs Js,σ'=(w,dq (cj n l) bi bl bo n (.ah bs 0 [a].length 1) (dJ+1) fZ)::(bi,an ix)::(bl,an lo)::(bo,bK on)::(bs,an [a]++Js)::ρ):=by
   have h1:=h.enter (way2:=[]) ha hf (fun v hv=>by cases hv) rfl (fun t ht=>by cases ht) (fun t ht=>by cases ht)
   refine⟨_,_,_,h1,?_,?_,?_,fun ρ=>(ze w bi bl bo n (cj n l) lC uu [] uq dJ sP fZ tR a ρ ha.1 ha.2 h.li h.ll h.kq hs (aY _) (by omega)).mono ?_⟩
   ·rw[mq,az ⟨rfl,by rw[h.li];omega⟩];omega
   ·intro z hz
    rw[mq];split
    ·omega
    ·exact hz
   ·rw[mq,mq,az ⟨rfl,by rw[h.ll];omega⟩,az ⟨rfl,by rw[h.li];omega⟩]
   ·rintro _ _ ⟨rfl,zL,BZ,fE,rfl⟩
    obtain⟨bs,Js,rfl,rfl,_⟩:=fE.pos (by show 0<1;decide)
    exact⟨rfl,bs,Js,rfl⟩
  clear hf hs h
  have hle:=hF.zc
  have zV:=vb n l a
  refine .mk [] _ (LI (iw++σ)) ?_
  rintro _ _ ⟨rfl,bs,Js,rfl⟩
  intro bw
  refine aw.mk ⟨rfl,by decide,by decide⟩ ?_
  refine .quiet (by kernel_rfl) ?_
  refine aa 0 ?_
  refine aa 1 ?_
  refine aa 0 ?_
  refine aw.mk rfl ?_
  refine aX.mk (ax n l a) (by omega) (oF ha) ?_
  refine aj (p:=(0:Int)<(ax n l a).length) (fun ab=>?_) (fun aq=>?_)
  ·have ab:0<(ax n l a).length:=by omega
   obtain⟨b,hb⟩:∃b,(ax n l a)[0]=b:=⟨_,rfl⟩
   have rS:b∈ax n l a:=hb▸cq ab
   have dM:=(kD.1 rS).1
   refine .quiet (by kernel_rfl) ?_
   refine aa 1 ?_
   refine aa 0 ?_
   refine aw.mk rfl ?_
   refine aX.mk (ax n l a) (by omega) (oF ha) ?_
   refine aa 0 ?_
   refine aw.mk rfl ?_
   refine aX.mk b (by decide) ((get_some ab).trans (congrArg some hb)) ?_
   refine aa 0 ?_
   refine ag 0 ?_
   refine aa 1 ?_
   refine aQ ?_
   refine aW 2 rfl (eZ rfl dM.1 (by rw[hF.li];omega)) ?_
   refine aj (p:=ix.getD b.toNat 0=0) (fun c1=>?_) (fun c1=>?_)
   ·have hN:=FI.new (w:=[]) hF ab hb dM c1
    refine .mk [5,5,5,5,5] _ (ze w bi bl bo n (cj n l) ix lo [a] on (dJ+1) _ fZ _ b ((bw,[.int .i64 a,.int .i64 1])::(iw++σ)) dM.1 dM.2 hF.li hF.ll hF.kq (.ah bs 1 (an [a]) Js rfl) (by show 1≤10000;decide) (by omega)) ?_
    rintro _ _ ⟨rfl,zL,BZ,fE,rfl⟩
    obtain⟨lL,oq,rfl,rfl,_⟩:=fE.pos (by show 0<2;decide)
    intro aB
    refine xa (k:=1) (n:=1) [_,_,_,_,_,_] (.ah bw 1 (bM [(a,1)]) [] rfl) (.ah 0 aB 0 1 _ rfl (cp rfl)) rfl (by decide) (by decide) (by decide) (fun v' aU h'=>?_)
    obtain⟨om,J2,rfl,rfl,_⟩:=h'.pos (by decide)
    refine vh hr ((ix.set b.toNat ((dJ+1+1:Nat):Int),lo.set b.toNat ((dJ+1+1:Nat):Int),on.set b.toNat true,[a]++[b],dJ+1+1,P0),(lL,oq,fZ,iw),([(a,1)],b,0),(om,J2)) ⟨rfl,⟨⟨hN,hp⟩,?_,?_⟩,⟨rfl,rfl,trivial⟩,.drop 0 1 (aN rfl)⟩
    ·show (ix.set b.toNat ((dJ+1+1:Nat):Int)).getD a.toNat 0≠0
     rw[mq];split
     ·omega
     ·exact hA
    ·intro z hz
     show (ix.set b.toNat ((dJ+1+1:Nat):Int)).getD z 0≠0
     rw[mq];split
     ·omega
     ·exact hM z hz
   ·have c1:¬(ix.getD b.toNat 0=0):=c1
    have o0:=hF.uo b dM.1 dM.2
    refine aa 1 ?_
    refine aQ ?_
    refine eH.ij 4 _ _ rfl (qo rfl dM.1 (by rw[hF.kq];omega)) (fun c2=>?_) (fun c2=>?_)
    ·rw[o0]at c2
     have hO:=FI.FL (w:=[]) hF ab hb (fk c2)
     refine .sched [] (upto [] 28 0) (by kernel_rfl) ?_
     refine aa 1 ?_
     refine aa 0 ?_
     refine aa 1 ?_
     refine aa 0 ?_
     refine aQ ?_
     refine aW 3 rfl (eZ rfl ha.1 (by rw[hF.ll];omega)) ?_
     refine aa 1 ?_
     refine aQ ?_
     refine aW 2 rfl (eZ rfl dM.1 (by rw[hF.li];omega)) ?_
     refine aQ ?_
     refine cu 3 rfl (lS rfl _ ha.1 (by rw[hF.ll];omega)) ?_
     have jw:(if ix.getD b.toNat 0<lo.getD a.toNat 0 then ix.getD b.toNat 0 else lo.getD a.toNat 0)=min (lo.getD a.toNat 0) (ix.getD b.toNat 0):=by split <;> omega
     have hE:(w,dq (cj n l) bi bl bo n (.ah bs 0 [a].length 1) (dJ+1) fZ)::(bi,an ix)::(bl,an (lo.set a.toNat (if ix.getD b.toNat 0<lo.getD a.toNat 0 then ix.getD b.toNat 0 else lo.getD a.toNat 0)))::(bo,bK on)::(bs,an [a]++Js)::(bw,bM [(a,1)]++[])::(iw++σ)=(w,dq (cj n l) bi bl bo n (.ah bs 0 [a].length 1) (dJ+1) fZ)::(bi,an ix)::(bl,an (lo.set a.toNat (min (lo.getD a.toNat 0) (ix.getD b.toNat 0))))::(bo,bK on)::(bs,an [a]++Js)::(bw,bM [(a,1)]++[])::(iw++σ):=by rw[jw]
     exact vh hr ((ix,lo.set a.toNat (min (lo.getD a.toNat 0) (ix.getD b.toNat 0)),on,[a],dJ+1,P0),(bs,Js,fZ,iw),([],a,1),(bw,[])) ⟨rfl,⟨⟨hO,hp⟩,hA,hM⟩,⟨rfl,rfl,trivial⟩,.pull [5,5,5,5,5] (aN hE)⟩
    ·rw[o0]at c2
     have hO:=FI.off (w:=[]) hF ab hb dM.1 c1 (pc c2)
     exact vh hr ((ix,lo,on,[a],dJ+1,P0),(bs,Js,fZ,iw),([],a,1),(bw,[])) ⟨rfl,⟨⟨hO,hp⟩,hA,hM⟩,⟨rfl,rfl,trivial⟩,.pull [5,5,5,5,5] (aN rfl)⟩
  ·have aq:(ax n l a).length=0:=by omega
   refine aa 0 ?_
   intro aB
   refine ag 0 ?_
   refine aa 0 ?_
   have hT:=FI.tell (w:=[]) (A:=[]) (B:=[]) (part:=fJ [a]) hF (by omega) rfl heq (fun x y hy=>(kD.1 hy).1) (AJ [a]) (DK (by simp))
   have Da:=DU hF.tj.prt
   have J9:((w,dq (cj n l) bi bl bo n (.ah bs 0 [a].length 1) (dJ+1) fZ)::(bi,an ix)::(bl,an lo)::(bo,bK on)::(bs,an [a]++Js)::(iw++((aB,[AV.int .i64 a,.int .i64 0])::(bw,[AV.int .i64 a,.int .i64 0])::σ))).Perm ((aB,[AV.int .i64 a,.int .i64 0])::(bw,[AV.int .i64 a,.int .i64 0])::(w,dq (cj n l) bi bl bo n (.ah bs 0 [a].length 1) (dJ+1) fZ)::(bi,an ix)::(bl,an lo)::(bo,bK on)::(bs,an [a]++Js)::(iw++σ)):=by
    have h1:=vc [(w,dq (cj n l) bi bl bo n (.ah bs 0 [a].length 1) (dJ+1) fZ),(bi,an ix),(bl,an lo),(bo,bK on),(bs,an [a]++Js)] iw σ (aB,[AV.int .i64 a,.int .i64 0]) (bw,[AV.int .i64 a,.int .i64 0])
    exact h1.trans (List.Perm.cons _ (nw (l₁:=[(w,dq (cj n l) bi bl bo n (.ah bs 0 [a].length 1) (dJ+1) fZ),(bi,an ix),(bl,an lo),(bo,bK on),(bs,an [a]++Js)])))
   refine .perm _ J9 (QM w bi bl bo n (cj n l) ix lo [] [] on P0 (dJ+1) _ fZ _ iw a _ ha.1 ha.2 hF.li hF.ll hF.kq heq (by simp) (fun x hx=>by rw[List.mem_singleton.1 hx];exact ha) (by show 1≤10000;decide) (by omega) (.ah bs 1 (an [a]) Js rfl) hp) ?_
   rintro _ _ ⟨rfl,eD,iZ,gB,gz,dS,rQ,rfl⟩
   have gm:((aB,[AV.int .i64 a,.int .i64 0])::(w,dq (cj n l) bi bl bo n eD (dJ+1) gB)::(bi,an ix)::(bl,an lo)::(bo,bK (eR [a] on))::(bw,[AV.int .i64 a,.int .i64 0])::(iZ++(gz++σ))).Perm ((w,dq (cj n l) bi bl bo n eD (dJ+1) gB)::(bi,an ix)::(bl,an lo)::(bo,bK (eR [a] on))::(iZ++(gz++((aB,[AV.int .i64 a,.int .i64 0])::(bw,[AV.int .i64 a,.int .i64 0])::σ)))):=by
    have h1:=(vc [(w,dq (cj n l) bi bl bo n eD (dJ+1) gB),(bi,an ix),(bl,an lo),(bo,bK (eR [a] on))] (iZ++gz) σ (aB,[AV.int .i64 a,.int .i64 0]) (bw,[AV.int .i64 a,.int .i64 0])).symm
    rw[dh,dh]at h1
    exact h1
   refine⟨_,gm,?_⟩
   refine aw.mk (by decide) ?_
   exact .drop 0 1 (.drop 4 1 (.done ⟨rfl,ix,lo,eR [a] on,dJ+1,P0++[fJ [a]],eD,iZ,gB,gz,hT,dS,rQ,hA,hM,rfl⟩))
set_option maxHeartbeats 4000000
theorem BH{P:List (List Int)}{rw:List (Nat×List Int)}{i:Nat}{p:List Int}(h:rw.map Prod.snd=P)(hp:P[i]?=some p):∃b,rw[i]?=some (b,p):=by
 rw[← h,fm]at hp
 cases hr:rw[i]? with
 |none=>rw[hr]at hp;cases hp
 |some r=>rw[hr]at hp;cases hp;exact⟨r.1,rfl⟩
theorem By{i:TI}(hw:i.wide=false){rw:List (Nat×List Int)}{z:Int}{b:Nat}{p:List Int}(_hz:0≤z)(h:rw[z.toNat]?=some (b,p)):eF i (ff rw) (0+z.toNat*1)=some (.ah b 0 p.length 1):=
 gy hw (by rw[dU,dB];unfold ff;rw[fm,h];rfl)
theorem EX{rw:List (Nat×List Int)}{i b:Nat}{p:List Int}{σ:Hp}(h:rw[i]?=some (b,p)):(eM rw++σ)[i]?=some (b,an p):=by
 have hi:i<(eM rw).length:=by unfold eM;rw[cm];exact (cR.1 h).1
 rw[ky hi]
 unfold eM
 rw[fm,h];rfl
theorem Ot{p:List Int}{x:Int}(h:p[((0:Int)).toNat]?=some x):p.getD ((0:Int)).toNat 0=x:=by rw[bO,h];rfl
theorem Nh:∀{ro:List (Nat×List Int)},(ro.map Prod.snd).flatten.Nodup→(∀r∈ro,r.2≠[])→ro.Nodup
 | [],_,_=>G1
 |r::ro,h,bc=>by
  have h:(r.2++(ro.map Prod.snd).flatten).Nodup:=h
  have h:=ml.1 h
  refine mJ.2 ⟨fun hm=>?_,Nh h.2.1 fun q hq=>bc q (dy _ hq)⟩
  obtain⟨x,hx⟩:=List.exists_mem_of_ne_nil _ (bc r (cF ..))
  exact h.2.2 x hx x (nu.2 ⟨r.2,fi.2 ⟨r,hm,rfl⟩,hx⟩) rfl
theorem MS{α:Type}[DecidableEq α]:∀{A B:List α},A.Nodup→(∀x∈A,x∈B)→B.length≤A.length→A.Perm B
 | [],B,_,_,h=>by rw[jm.1 (Nat.le_zero.1 h)]
 |a::A,B,hn,hs,hl=>by
  have hn:=mJ.1 hn
  have ha:=hs a (cF ..)
  have hp:=List.perm_cons_erase ha
  have hle:=hp.length_eq
  refine (List.Perm.cons a (MS hn.2 (fun x hx=>?_) ?_)).trans hp.symm
  ·exact (LU (fun e:x=a=>hn.1 (e▸hx))).2 (hs x (dy _ hx))
  ·rw[iE]at hle hl;omega
theorem Xl(n:Nat)(l:List aT)(P:List (List Int))(rw:List (Nat×List Int))(bq:Nat)(σ:Hp)(h:n9 n l P)(mE:rw.map Prod.snd=P)(s4:0<P.length)(hl:l.length≤100000)(hn:n≤1000)(hr:∀e∈l,(0≤e.1∧e.1<(n:Int))∧0≤e.2.1∧e.2.1<(n:Int)):
  ACalls Tryz.prog 291 [.int .i64 n,.af cb l,.ah bq 0 P.length 1] ((bq,ff rw)::(eM rw++σ)) (fun r σ'=>∃bo eL,r=.ah bo 0 eL.length 1∧eL.map Prod.snd=gC n l∧σ'=(bo,ff eL)::(eM eL++σ)∧(gC n l).Perm P):=by
 have qM:rw.length=P.length:=by rw[← mE,cm]
 obtain⟨lG,hpf⟩:=AZ h.ok
 have hNt:((n:Nat):Int).toNat=n:=bR n
 refine au Tryz.func291 ?_
 intro bl
 refine bg ?_
 intro bw
 intro bW
 refine ag 0 ?_
 refine bh (S:=Nat) (fun k=>[(2,.ah bq 0 P.length 1),(4,.ptr bl 0),(7,.ptr bW 0),(20,.ah bq 0 P.length 1),(21,.int .i64 P.length),(22,.int .i64 k)]) (fun k=>(bW,[.ah bw 0 n 1])::(bw,an (mB P k (List.replicate n 0)))::(bl,[.af cb l])::(bq,ff rw)::(eM rw++σ)) (fun k=>k≤P.length) (fun k=>P.length-k) 0 ⟨aY _,⟨rfl,rfl,rfl,rfl,rfl,rfl,trivial⟩,by rw[show an (mB P 0 (List.replicate n 0))=cN [.int .i64 0] n from (tk n).symm];rfl⟩ ?_
 intro k g aO
 have hk:k≤P.length:=aO
 clear aO
 refine aj (p:=(k:Int)<P.length) (fun ab=>?_) (fun aq=>?_)
 ·have ab:k<P.length:=by omega
  obtain⟨p,hp⟩:∃p,P[k]=p:=⟨_,rfl⟩
  have eS:P[k]?=some p:=(bN ab).trans (congrArg some hp)
  have qN:=h.ok.node p (dm eS)
  have FQ:p.length≤n:=A1 n p ((h.ok.zM p (dm eS)).imp fun h=>by omega) qN
  have ns:=AM P k (List.replicate n 0)
  rw[gY]at ns
  have sS:mB P (k+1) (List.replicate n 0)=kQ k p (mB P k (List.replicate n 0)):=by show kQ k (P.getD k []) _=_;rw[tE eS]
  generalize mB P k (List.replicate n 0)=W at ns sS
  obtain⟨bk,mI⟩:=BH mE eS
  refine aQ ?_
  refine aW 3 rfl (By rfl (by omega) (by rw[bR];exact mI)) ?_
  refine bh (S:=Nat) (fun j=>[(2,.ah bq 0 P.length 1),(4,.ptr bl 0),(7,.ptr bW 0),(8,.int .i64 k),(20,.ah bq 0 P.length 1),(21,.int .i64 P.length),(22,.int .i64 k),(27,.ah bk 0 p.length 1),(28,.int .i64 p.length),(29,.int .i64 j)]) (fun j=>(bW,[.ah bw 0 n 1])::(bw,an (kQ k (p.take j) W))::(bl,[.af cb l])::(bq,ff rw)::(eM rw++σ)) (fun j=>j≤p.length) (fun j=>p.length-j) 0 ⟨aY _,⟨rfl,rfl,rfl,rfl,rfl,rfl,rfl,rfl,rfl,rfl,trivial⟩,rfl⟩ ?_
  intro j g2 jk
  have hj:j≤p.length:=jk
  clear jk
  refine aj (p:=(j:Int)<p.length) (fun db=>?_) (fun jx=>?_)
  ·have db:j<p.length:=by omega
   obtain⟨a,ha⟩:∃a,p[j]=a:=⟨_,rfl⟩
   have rU:=qN a (ha▸cq db)
   have ao:(kQ k (p.take j) W).set a.toNat k=kQ k (p.take (j+1)) W:=by unfold kQ;rw[eT db,ha,uQ];rfl
   have qL:=DR k (p.take j) W
   refine aQ ?_
   refine eH.mk (k+4) _ _ (EX mI) (eZ rfl (by omega) (by omega)) ?_
   rw[bR,show p.getD j 0=a by rw[bO,bN db,ha];rfl]
   refine aa 0 ?_
   refine aQ ?_
   refine cu 1 rfl (lS rfl _ rU.1 (by omega)) ?_
   exact aM (j+1) (by show p.length-(j+1)<p.length-j;omega) db ⟨rfl,rfl,rfl,rfl,rfl,rfl,rfl,rfl,rfl,aL (by omega),trivial⟩ (aN (by rw[← ao];rfl))
  ·have jx:j=p.length:=by omega
   subst jx
   exact aM (k+1) (by show P.length-(k+1)<P.length-k;omega) ab ⟨rfl,rfl,rfl,rfl,rfl,aL (by omega),trivial⟩ (aN (by rw[dW,sS]))
 ·have aq:k=P.length:=by omega
  subst aq
  have Lv:∀j:Nat,j<n→0≤(bH n P).getD j 0∧(bH n P).getD j 0<(P.length:Int):=fun j hj=>by
   obtain⟨i,p,hi,_,hw⟩:=h.idx (x:=(j:Int)) (by omega)
   rw[bR]at hw
   have:=xd hi
   rw[hw];omega
  have ns:=M8 n P
  have Cg:=fun k hk=>(EF h hr k hk)
  have pI:=I7 h hr
  have bc:∀(i:Nat) (p:List Int),P[i]?=some p→p[((0:Int)).toNat]?=some (iv P i):=fun i p hi=>by
   unfold iv
   rw[tE hi]
   exact IN (mK.2 (h.ok.ne p (dm hi)))
  rw[show mB P P.length (List.replicate n 0)=bH n P from rfl]
  refine aw.mk ⟨by omega,by omega,by show ((P.length:Nat):Int)≤1048576;omega,by decide⟩ ?_
  intro bt
  intro bT
  refine ag 0 ?_
  obtain⟨m,hm⟩:∃m,P.length=m:=⟨_,rfl⟩
  refine .wrap 14 _ rfl rfl ?_
  refine .dL (.pull [0,2,3,3] (.refl _)) ?_
  refine bh (S:=Nat×(AV×Hp)×List (Nat×List Int)) (fun x=>[(2,.ah bq 0 P.length 1),(12,.ptr bT 0),(13,.fn (.func 316) [] [.ptr bT 0,.ptr bl 0,.ptr bW 0]),(14,.via x.2.1.1),(44,.int .i64 P.length),(45,.int .i64 x.1)]) (fun x=>(bT,[.ah bt 0 P.length 1])::(bW,[.ah bw 0 n 1])::(bw,an (bH n P))::(bt,bK (dG P l (bH n P) x.1).1)::(bl,[.af cb l])::(bq,ff rw)::(eM rw++(x.2.1.2++σ))) (fun x=>x.1≤P.length∧Acc 1 x.1 x.2.1.1 x.2.1.2 (ff x.2.2)∧x.2.2.map Prod.snd=(dG P l (bH n P) x.1).2∧∀r∈x.2.2,r∈rw) (fun x=>P.length-x.1) (0,(.ak,[]),[]) ⟨⟨Nat.zero_le _,.nil,rfl,fun r hr=>absurd hr (by simp)⟩,⟨rfl,rfl,rfl,rfl,rfl,rfl,trivial⟩,by rw[show bK (dG P l (bH n P) 0).1=cN [.bool false] P.length from (yU P.length).symm];rfl⟩ ?_
  rintro⟨k,⟨v,acc⟩,ro⟩ g2 ⟨aO,gQ,SR,Sa⟩
  have hk:k≤P.length:=aO
  have bS:Acc 1 k v acc (ff ro):=gQ
  have mD:ro.map Prod.snd=(dG P l (bH n P) k).2:=SR
  have l0:∀r∈ro,r∈rw:=Sa
  clear aO gQ SR Sa
  refine aj (p:=(k:Int)<P.length) (fun ab=>?_) (fun aq=>?_)
  ·have ab:k<P.length:=by omega
   obtain⟨hO,BR,_⟩:=Cg k hk
   obtain⟨b,hb,pZ⟩:=BR ab
   have C5:=hO.tl
   have fE:(dG P l (bH n P) (k+1)).1=(dG P l (bH n P) k).1.set b true:=by
    show (dG P l (bH n P) k).1.set (fp P l (bH n P) (dG P l (bH n P) k).1 P.length).toNat true=_
    rw[hb,bR]
   have gV:(dG P l (bH n P) (k+1)).2=(dG P l (bH n P) k).2++[P.getD b []]:=by
    show (dG P l (bH n P) k).2++[P.getD (fp P l (bH n P) (dG P l (bH n P) k).1 P.length).toNat []]=_
    rw[hb,bR]
   generalize (dG P l (bH n P) k).1=T at hb C5 fE
   rw[← mD]at gV
   clear hO BR
   have xN:=DZ P l (bH n P) T
   refine bh (S:=Nat) (fun i=>[(2,.ah bq 0 P.length 1),(12,.ptr bT 0),(13,.fn (.func 316) [] [.ptr bT 0,.ptr bl 0,.ptr bW 0]),(14,.via v),(15,.int .i64 (fp P l (bH n P) T i)),(44,.int .i64 P.length),(45,.int .i64 k),(47,.ah bq 0 P.length 1),(48,.int .i64 P.length),(49,.int .i64 i)]) (fun _=>(bT,[.ah bt 0 P.length 1])::(bW,[.ah bw 0 n 1])::(bw,an (bH n P))::(bt,bK T)::(bl,[.af cb l])::(bq,ff rw)::(eM rw++(acc++σ))) (fun i=>i≤P.length) (fun i=>P.length-i) 0 ⟨aY _,⟨rfl,rfl,rfl,rfl,rfl,rfl,rfl,rfl,rfl,rfl,trivial⟩,rfl⟩ ?_
   intro i g3 dc
   have hi:i≤P.length:=dc
   clear dc
   refine aj (p:=(i:Int)<P.length) (fun db=>?_) (fun jx=>?_)
   ·have db:i<P.length:=by omega
    obtain⟨p,hp⟩:∃p,P[i]=p:=⟨_,rfl⟩
    have eS:P[i]?=some p:=(bN db).trans (congrArg some hp)
    have uM:=fun ρ=>SA bW bw bl bT bt n P.length l (bH n P) T i ρ hl (by omega) hr ns C5 Lv
    have im:fp P l (bH n P) T (i+1)=if mU l (bH n P) T i=true∧(fp P l (bH n P) T i<0∨iv P i<iv P (fp P l (bH n P) T i).toNat) then (i:Int) else fp P l (bH n P) T i:=rfl
    have C3:=xN i
    obtain⟨bi,hbi⟩:=BH mE eS
    have qO:0<p.length:=mK.2 (h.ok.ne p (dm eS))
    refine aQ ?_
    refine aW 5 rfl (By rfl (by omega) (by rw[bR];exact hbi)) ?_
    cases hf:mU l (bH n P) T i with
    |false=>
     rw[hf]at uM im
     rw[aA (fun h=>by cases h.1)]at im
     refine .quiet (by kernel_rfl) ?_
     refine aK [] (uM _) ?_
     exact aM (i+1) (by show P.length-(i+1)<P.length-i;omega) db ⟨rfl,rfl,rfl,rfl,by rw[im];rfl,rfl,rfl,rfl,rfl,aL (by omega),trivial⟩ (.refl _)
    |true=>
     rw[hf]at uM im
     refine .quiet (by kernel_rfl) ?_
     refine aK [] (uM _) ?_
     refine aj (p:=fp P l (bH n P) T i<0) (fun c1=>?_) (fun c1=>?_)
     ·rw[az ⟨rfl,.inl c1⟩]at im
      exact aM (i+1) (by show P.length-(i+1)<P.length-i;omega) db ⟨rfl,rfl,rfl,rfl,by rw[im];rfl,rfl,rfl,rfl,rfl,aL (by omega),trivial⟩ (.refl _)
     ·obtain⟨b2,e2,l2,_⟩:=C3.resolve_left fun h=>c1 (by rw[h.1];decide)
      obtain⟨p2,dE⟩:∃p,P[b2]?=some p:=⟨P[b2],bN (by omega)⟩
      have SV:P[(fp P l (bH n P) T i).toNat]?=some p2:=by rw[e2,bR];exact dE
      have sY:0≤fp P l (bH n P) T i:=by omega
      rw[e2,bR,← e2]at im
      obtain⟨bb,rT⟩:=BH mE dE
      have hp20:0<p2.length:=mK.2 (h.ok.ne p2 (dm dE))
      refine aw.mk ⟨rfl,by decide,by omega⟩ ?_
      refine eH.mk (i+6) _ _ (EX hbi) (eZ rfl (by decide) (by omega)) ?_
      refine aQ ?_
      refine aW 5 rfl (By rfl (by omega) (by rw[e2,bR];exact rT)) ?_
      refine aw.mk ⟨rfl,by decide,by omega⟩ ?_
      refine eH.mk (b2+6) _ _ (EX rT) (eZ rfl (by decide) (by omega)) ?_
      rw[show p.getD (0:Int).toNat 0=iv P i from Ot (bc i p eS),show p2.getD (0:Int).toNat 0=iv P b2 from Ot (bc b2 p2 dE)]
      refine aj (p:=iv P i<iv P b2) (fun c2=>?_) (fun c2=>?_)
      ·rw[az ⟨rfl,.inr c2⟩]at im
       exact aM (i+1) (by show P.length-(i+1)<P.length-i;omega) db ⟨rfl,rfl,rfl,rfl,by rw[im];rfl,rfl,rfl,rfl,rfl,aL (by omega),trivial⟩ (.refl _)
      ·rw[aA (fun h=>h.2.elim c1 c2)]at im
       exact aM (i+1) (by show P.length-(i+1)<P.length-i;omega) db ⟨rfl,rfl,rfl,rfl,by rw[im];rfl,rfl,rfl,rfl,rfl,aL (by omega),trivial⟩ (.refl _)
   ·have jx:i=P.length:=by omega
    subst jx
    refine aa 0 ?_
    refine aQ ?_
    refine cu 3 rfl (ti rfl true (by omega) (by omega)) ?_
    obtain⟨pb,pY⟩:∃p,P[b]?=some p:=⟨P[b],bN pZ⟩
    obtain⟨bb,rT⟩:=BH mE pY
    rw[tE pY]at gV
    refine aQ ?_
    refine aW 5 rfl (By rfl (by omega) (by rw[hb,bR];exact rT)) ?_
    intro bs
    refine eU (_::_::_::_::_::_::_::eM rw) bS (.ah 0 bs 0 1 _ rfl (cp rfl)) rfl (by omega) (by decide) (by decide) (fun v' aU h'=>?_)
    refine aM (k+1,(v',aU),ro++[(bb,pb)]) (by show P.length-(k+1)<P.length-k;omega) ⟨ab,?_,?_,fun r hr=>?_⟩ ⟨rfl,rfl,rfl,rfl,rfl,aL (by omega),trivial⟩ (.drop 0 1 (aN (by rw[fE,hb,bR];rfl)))
    ·show Acc 1 (k+1) v' aU (ff (ro++[(bb,pb)]))
     rw[show ff (ro++[(bb,pb)])=ff ro++[.ah bb 0 pb.length 1] from cC];exact h'
    ·show (ro++[(bb,pb)]).map Prod.snd=(dG P l (bH n P) (k+1)).2
     rw[gV,cC];rfl
    ·rcases bU.1 hr with hr | hr
     ·exact l0 r hr
     ·rw[bE.1 hr];exact dm rT
  ·have aq:k=P.length:=by omega
   subst aq
   have hOI:=(Cg P.length (bJ _)).1
   have jC:=hOI.ol
   have ck:=hOI.nd
   rw[← mD]at jC ck
   rw[pI]at mD
   rw[cm]at jC
   have adV:∀r∈ro,r.2≠[]:=fun r hr=>h.ok.ne r.2 (by rw[← mE];exact fi.2 ⟨r,l0 r hr,rfl⟩)
   have acH:ro.Nodup:=Nh ck adV
   have nL:ro.Perm rw:=MS acH l0 (by omega)
   obtain⟨bo,rfl,rfl⟩:=sl (by omega) bS
   have hH:((bo,ff ro)::(eM ro++σ)).Perm (eM rw++([(bo,ff ro)]++σ)):=by
    refine (List.Perm.cons _ (List.Perm.append_right σ (List.Perm.map _ nL))).trans nw.symm
   exact .drop 0 6 (.perm hH (.done ⟨bo,ro,by rw[jC];rfl,mD,rfl,by rw[← mD,← mE];exact List.Perm.map _ nL⟩))
set_option maxHeartbeats 4000000
theorem aaq(n:Nat)(l:List aT)(σ:Hp)(hl:l.length≤100000)(dT:ek n l=true):ACalls Tryz.prog 258 [.int .i64 n,.af cb l] σ (fun r σ'=>∃bo eL,r=.tup [.ah bo 0 eL.length 1,.int .i64 0]∧eL.map Prod.snd=gC n l∧σ'=(bo,ff eL)::(eM eL++σ)∧∃P,n9 n l P∧(gC n l).Perm P):=by
 have hn:1≤n∧n≤256:=by
  unfold ek at dT
  simp only[b9,decide_eq_true_eq]at dT
  omega
 have Ac:∀e∈l,(0≤e.1∧e.1<(n:Int))∧0≤e.2.1∧e.2.1<(n:Int):=fun e he=>by
  unfold ek at dT
  simp only[b9,fN]at dT
  have:=dT.2 e he
  exact⟨kB.1 this.1,kB.1 this.2⟩
 refine au Tryz.func258 ?_
 refine dr [] (BC n l _ (by omega)) (fun _=>?_) (fun c=>absurd c (by rw[dT];decide))
 refine fX.BK (S:=Nat×Nat×Nat×Nat) [] (.one 0 false (.one 2 false (.one 4 false (.alt 1 (.alt 3 (.alt 5 (.one 6 false (.one 7 false (.one 8 false .stop))) (.one 7 false (.one 5 false (.one 6 false (.one 8 false .stop))))) (.alt 5 (.alt 3 (.one 6 false (.one 7 false (.one 8 false .stop))) (.one 7 false (.one 3 false (.one 6 false (.one 8 false .stop))))) (.one 7 false (.alt 3 (.one 5 false (.one 6 false (.one 8 false .stop))) (.one 5 false (.one 3 false (.one 6 false (.one 8 false .stop)))))))) (.alt 3 (.alt 1 (.alt 5 (.one 6 false (.one 7 false (.one 8 false .stop))) (.one 7 false (.one 5 false (.one 6 false (.one 8 false .stop))))) (.alt 5 (.alt 1 (.one 6 false (.one 7 false (.one 8 false .stop))) (.one 7 false (.one 1 false (.one 6 false (.one 8 false .stop))))) (.one 7 false (.alt 1 (.one 5 false (.one 6 false (.one 8 false .stop))) (.one 5 false (.one 1 false (.one 6 false (.one 8 false .stop)))))))) (.alt 5 (.alt 1 (.alt 3 (.one 6 false (.one 7 false (.one 8 false .stop))) (.one 7 false (.one 3 false (.one 6 false (.one 8 false .stop))))) (.alt 3 (.alt 1 (.one 6 false (.one 7 false (.one 8 false .stop))) (.one 7 false (.one 1 false (.one 6 false (.one 8 false .stop))))) (.one 7 false (.alt 1 (.one 3 false (.one 6 false (.one 8 false .stop))) (.one 3 false (.one 1 false (.one 6 false (.one 8 false .stop)))))))) (.one 7 false (.alt 1 (.alt 3 (.one 5 false (.one 6 false (.one 8 false .stop))) (.one 5 false (.one 3 false (.one 6 false (.one 8 false .stop))))) (.alt 3 (.alt 1 (.one 5 false (.one 6 false (.one 8 false .stop))) (.one 5 false (.one 1 false (.one 6 false (.one 8 false .stop))))) (.one 5 false (.alt 1 (.one 3 false (.one 6 false (.one 8 false .stop))) (.one 3 false (.one 1 false (.one 6 false (.one 8 false .stop))))))))))))))) (fun x=>[(0,.int .i64 n),(1,.af cb l),(6,.ptr x.1 0)]) (fun x=>(x.1,[.ak,.ah x.2.1 0 n 1,.ah x.2.2.1 0 n 1,.ah x.2.2.2 0 n 1,.ak,.int .i64 0,.ak])::(x.2.1,cN [.int .i64 0] n)::(x.2.2.1,cN [.int .i64 0] n)::(x.2.2.2,cN [.bool false] n)::σ) (by kernel_rfl) ?_ ?_
 ·refine And.intro ?_ ?_
  ·refine bg ?_
   intro bi
   refine And.intro ?_ ?_
   ·refine bg ?_
    intro bl
    refine And.intro ?_ ?_
    ·refine bg ?_
     intro bo
     intro w
     refine ag 0 ?_
     exact cX.mk (w,bi,bl,bo) ⟨rfl,rfl,rfl,trivial⟩ (.pull [3,3,2,1] (aN rfl))
    ·intro w
     refine bg ?_
     intro bo
     refine ag 1 ?_
     exact cX.mk (w,bi,bl,bo) ⟨rfl,rfl,rfl,trivial⟩ (.pull [3,3,2,0] (aN rfl))
   ·refine And.intro ?_ ?_
    ·refine bg ?_
     intro bo
     refine And.intro ?_ ?_
     ·refine bg ?_
      intro bl
      intro w
      refine ag 0 ?_
      exact cX.mk (w,bi,bl,bo) ⟨rfl,rfl,rfl,trivial⟩ (.pull [3,3,2,2] (aN rfl))
     ·intro w
      refine bg ?_
      intro bl
      refine ag 1 ?_
      exact cX.mk (w,bi,bl,bo) ⟨rfl,rfl,rfl,trivial⟩ (.pull [3,3,1,2] (aN rfl))
    ·intro w
     refine And.intro ?_ ?_
     ·refine bg ?_
      intro bl
      refine bg ?_
      intro bo
      refine ag 2 ?_
      exact cX.mk (w,bi,bl,bo) ⟨rfl,rfl,rfl,trivial⟩ (.pull [3,3,1,0] (aN rfl))
     ·refine bg ?_
      intro bo
      refine bg ?_
      intro bl
      refine ag 2 ?_
      exact cX.mk (w,bi,bl,bo) ⟨rfl,rfl,rfl,trivial⟩ (.pull [3,3,1,1] (aN rfl))
  ·refine And.intro ?_ ?_
   ·refine bg ?_
    intro bl
    refine And.intro ?_ ?_
    ·refine bg ?_
     intro bi
     refine And.intro ?_ ?_
     ·refine bg ?_
      intro bo
      intro w
      refine ag 0 ?_
      exact cX.mk (w,bi,bl,bo) ⟨rfl,rfl,rfl,trivial⟩ (.pull [3,3,3,1] (aN rfl))
     ·intro w
      refine bg ?_
      intro bo
      refine ag 1 ?_
      exact cX.mk (w,bi,bl,bo) ⟨rfl,rfl,rfl,trivial⟩ (.pull [3,3,3,0] (aN rfl))
    ·refine And.intro ?_ ?_
     ·refine bg ?_
      intro bo
      refine And.intro ?_ ?_
      ·refine bg ?_
       intro bi
       intro w
       refine ag 0 ?_
       exact cX.mk (w,bi,bl,bo) ⟨rfl,rfl,rfl,trivial⟩ (.pull [3,3,3,2] (aN rfl))
      ·intro w
       refine bg ?_
       intro bi
       refine ag 1 ?_
       exact cX.mk (w,bi,bl,bo) ⟨rfl,rfl,rfl,trivial⟩ (.pull [3,2,3,2] (aN rfl))
     ·intro w
      refine And.intro ?_ ?_
      ·refine bg ?_
       intro bi
       refine bg ?_
       intro bo
       refine ag 2 ?_
       exact cX.mk (w,bi,bl,bo) ⟨rfl,rfl,rfl,trivial⟩ (.pull [3,2,3,0] (aN rfl))
      ·refine bg ?_
       intro bo
       refine bg ?_
       intro bi
       refine ag 2 ?_
       exact cX.mk (w,bi,bl,bo) ⟨rfl,rfl,rfl,trivial⟩ (.pull [3,2,3,1] (aN rfl))
   ·refine And.intro ?_ ?_
    ·refine bg ?_
     intro bo
     refine And.intro ?_ ?_
     ·refine bg ?_
      intro bi
      refine And.intro ?_ ?_
      ·refine bg ?_
       intro bl
       intro w
       refine ag 0 ?_
       exact cX.mk (w,bi,bl,bo) ⟨rfl,rfl,rfl,trivial⟩ (.pull [3,3,2,3] (aN rfl))
      ·intro w
       refine bg ?_
       intro bl
       refine ag 1 ?_
       exact cX.mk (w,bi,bl,bo) ⟨rfl,rfl,rfl,trivial⟩ (.pull [3,3,1,3] (aN rfl))
     ·refine And.intro ?_ ?_
      ·refine bg ?_
       intro bl
       refine And.intro ?_ ?_
       ·refine bg ?_
        intro bi
        intro w
        refine ag 0 ?_
        exact cX.mk (w,bi,bl,bo) ⟨rfl,rfl,rfl,trivial⟩ (.pull [3,3,3,3] (aN rfl))
       ·intro w
        refine bg ?_
        intro bi
        refine ag 1 ?_
        exact cX.mk (w,bi,bl,bo) ⟨rfl,rfl,rfl,trivial⟩ (.pull [3,2,3,3] (aN rfl))
      ·intro w
       refine And.intro ?_ ?_
       ·refine bg ?_
        intro bi
        refine bg ?_
        intro bl
        refine ag 2 ?_
        exact cX.mk (w,bi,bl,bo) ⟨rfl,rfl,rfl,trivial⟩ (.pull [3,2,1,3] (aN rfl))
       ·refine bg ?_
        intro bl
        refine bg ?_
        intro bi
        refine ag 2 ?_
        exact cX.mk (w,bi,bl,bo) ⟨rfl,rfl,rfl,trivial⟩ (.pull [3,2,2,3] (aN rfl))
    ·intro w
     refine And.intro ?_ ?_
     ·refine bg ?_
      intro bi
      refine And.intro ?_ ?_
      ·refine bg ?_
       intro bl
       refine bg ?_
       intro bo
       refine ag 3 ?_
       exact cX.mk (w,bi,bl,bo) ⟨rfl,rfl,rfl,trivial⟩ (.pull [3,2,1,0] (aN rfl))
      ·refine bg ?_
       intro bo
       refine bg ?_
       intro bl
       refine ag 3 ?_
       exact cX.mk (w,bi,bl,bo) ⟨rfl,rfl,rfl,trivial⟩ (.pull [3,2,1,1] (aN rfl))
     ·refine And.intro ?_ ?_
      ·refine bg ?_
       intro bl
       refine And.intro ?_ ?_
       ·refine bg ?_
        intro bi
        refine bg ?_
        intro bo
        refine ag 3 ?_
        exact cX.mk (w,bi,bl,bo) ⟨rfl,rfl,rfl,trivial⟩ (.pull [3,2,2,0] (aN rfl))
       ·refine bg ?_
        intro bo
        refine bg ?_
        intro bi
        refine ag 3 ?_
        exact cX.mk (w,bi,bl,bo) ⟨rfl,rfl,rfl,trivial⟩ (.pull [3,2,2,1] (aN rfl))
      ·refine bg ?_
       intro bo
       refine And.intro ?_ ?_
       ·refine bg ?_
        intro bi
        refine bg ?_
        intro bl
        refine ag 3 ?_
        exact cX.mk (w,bi,bl,bo) ⟨rfl,rfl,rfl,trivial⟩ (.pull [3,2,1,2] (aN rfl))
       ·refine bg ?_
        intro bl
        refine bg ?_
        intro bi
        refine ag 3 ?_
        exact cX.mk (w,bi,bl,bo) ⟨rfl,rfl,rfl,trivial⟩ (.pull [3,2,2,2] (aN rfl))
 rintro⟨w,bi,bl,bo⟩ g
 have cz:∀(a:Nat) (σ:Hp),ACalls Tryz.prog 289 [.int .i64 n,.af cb l,.int .i64 a] σ (aD (.af (.int .i64) (ax n l a)) σ):=fun a σ=>zu n l a σ hl
 have x8:∀k,cx ((List.range (k+1)).map fun a:Nat=>ax n l a)=cx ((List.range k).map fun a:Nat=>ax n l a)++[.af (.int .i64) (ax n l k)]:=fun k=>by rw[qe,cC];exact cC
 have eu:∀k,(cx ((List.range k).map fun a:Nat=>ax n l a)).length=k:=fun k=>by rw[th,cm,kx]
 refine bh (S:=Nat×AV×Hp) (fun x=>[(0,.int .i64 n),(1,.af cb l),(6,.ptr w 0),(20,.int .i64 n),(21,.int .i64 x.1)]) (fun x=>(w,[x.2.1,.ah bi 0 n 1,.ah bl 0 n 1,.ah bo 0 n 1,.ak,.int .i64 0,.ak])::(bi,cN [.int .i64 0] n)::(bl,cN [.int .i64 0] n)::(bo,cN [.bool false] n)::(x.2.2++σ)) (fun x=>x.1≤n∧(x.1<n→Acc 1 x.1 x.2.1 x.2.2 (cx ((List.range x.1).map fun a:Nat=>ax n l a)))∧(x.1=n→x.2.1=.af (.slice (.int .i64)) (cj n l)∧x.2.2=[])) (fun x=>n-x.1) (0,.ak,[]) ⟨⟨aY _,fun _=>.nil,fun h=>by have h:0=n:=h;omega⟩,⟨rfl,rfl,rfl,rfl,rfl,trivial⟩,rfl⟩ ?_
 rintro⟨k,v,acc⟩ g ⟨aO,gQ,BQ⟩
 have hk:k≤n:=aO
 have bS:k<n→Acc 1 k v acc (cx ((List.range k).map fun a:Nat=>ax n l a)):=gQ
 have lv:k=n→v=.af (.slice (.int .i64)) (cj n l)∧acc=[]:=BQ
 clear aO gQ BQ
 refine aj (p:=(k:Int)<n) (fun ab=>?_) (fun aq=>?_)
 ·have ab:k<n:=by omega
  have bS:=bS ab
  clear lv
  have kT:(cj n l).length=n:=by unfold cj;rw[cm,kx]
  have z8:∀k,k+1=n→((cx ((List.range k).map fun a:Nat=>ax n l a)++[AV.af (.int .i64) (ax n l k)]).drop 0).take ((k+1)*1)=(cj n l).flatMap (Sh.cells (.slice (.int .i64))):=fun k hk=>by
   rw[← x8,fG,dN (by rw[eu,dB];exact bJ _),hk]
   exact tp _
  refine .sched [5] (.one 0 false (.one 2 false (.one 3 false (.one 4 false (.one 5 true (.alt 1 (.one 6 false (.one 7 false (.one 8 false (.one 9 false .stop)))) (.one 6 false (.one 1 false (.one 7 false (.one 8 false (.one 9 false .stop))))))))))) (by kernel_rfl) ?_
  refine aK [] (zu n l _ _ hl) ?_
  refine And.intro ?_ ?_
  ·refine aa 0 ?_
   intro aB
   refine yC [_,_,_,_,_] bS.v8 (.ah 0 aB 0 1 _ rfl (cp rfl)) rfl (by omega) (by decide) (by decide) (fun v' aU h'=>?_)
   obtain⟨b5,rfl,rfl⟩:=sl (by omega) h'
   refine ag 1 ?_
   by_cases gN:k+1=n
   ·refine .kj 5 b5 0 (k+1) 1 _ (.slice (.int .i64)) (cj n l) rfl (z8 k gN) ⟨(kT.trans gN.symm),rfl,by decide⟩ 1 0 w _ rfl rfl ?_
    exact aM (k+1,.af (.slice (.int .i64)) (cj n l),[]) (by show n-(k+1)<n-k;omega) ⟨ab,fun h=>absurd gN (by have h:k+1<n:=h;omega),fun _=>⟨rfl,rfl⟩⟩ ⟨rfl,rfl,rfl,rfl,aL (by omega),trivial⟩ (.drop 0 1 (aN rfl))
   ·exact aM (k+1,.ah b5 0 (k+1) 1,[(b5,cx ((List.range k).map fun a:Nat=>ax n l a)++[.af (.int .i64) (ax n l k)])]) (by show n-(k+1)<n-k;omega) ⟨ab,fun _=>by show Acc 1 (k+1) _ _ (cx ((List.range (k+1)).map fun a:Nat=>ax n l a));rw[x8];exact h',fun h=>absurd h gN⟩ ⟨rfl,rfl,rfl,rfl,aL (by omega),trivial⟩ (.drop 0 1 (aN rfl))
  ·intro cE
   refine aa 1 ?_
   refine yC [_,_,_,_,_] bS.v8 (.ah 0 cE 0 1 _ rfl (cp rfl)) rfl (by omega) (by decide) (by decide) (fun v' aU h'=>?_)
   obtain⟨b5,rfl,rfl⟩:=sl (by omega) h'
   refine ag 1 ?_
   by_cases gN:k+1=n
   ·refine .kj 5 b5 0 (k+1) 1 _ (.slice (.int .i64)) (cj n l) rfl (z8 k gN) ⟨(kT.trans gN.symm),rfl,by decide⟩ 1 0 w _ rfl rfl ?_
    exact aM (k+1,.af (.slice (.int .i64)) (cj n l),[]) (by show n-(k+1)<n-k;omega) ⟨ab,fun h=>absurd gN (by have h:k+1<n:=h;omega),fun _=>⟨rfl,rfl⟩⟩ ⟨rfl,rfl,rfl,rfl,aL (by omega),trivial⟩ (.drop 0 1 (aN rfl))
   ·exact aM (k+1,.ah b5 0 (k+1) 1,[(b5,cx ((List.range k).map fun a:Nat=>ax n l a)++[.af (.int .i64) (ax n l k)])]) (by show n-(k+1)<n-k;omega) ⟨ab,fun _=>by show Acc 1 (k+1) _ _ (cx ((List.range (k+1)).map fun a:Nat=>ax n l a));rw[x8];exact h',fun h=>absurd h gN⟩ ⟨rfl,rfl,rfl,rfl,aL (by omega),trivial⟩ (.drop 0 1 (aN rfl))
 ·have aq:k=n:=by omega
  obtain⟨rfl,rfl⟩:=lv aq
  clear bS lv
  refine bh (S:=Nat×(List Int×List Int×List Bool×Nat×List (List Int))×(AV×Hp×AV×Hp)) (fun x=>[(0,.int .i64 n),(1,.af cb l),(6,.ptr w 0),(34,.int .i64 n),(35,.int .i64 x.1)]) (fun x=>(w,dq (cj n l) bi bl bo n x.2.2.1 x.2.1.2.2.2.1 x.2.2.2.2.1)::(bi,an x.2.1.1)::(bl,an x.2.1.2.1)::(bo,bK x.2.1.2.2.1)::(x.2.2.2.1++(x.2.2.2.2.2++σ))) (fun x=>x.1≤n∧FI n (ax n l) x.2.1.1 x.2.1.2.1 x.2.1.2.2.1 [] x.2.1.2.2.2.1 x.2.1.2.2.2.2 []∧iA 1 0 x.2.2.1 x.2.2.2.1 []∧PO x.2.1.2.2.2.2 x.2.2.2.2.1 x.2.2.2.2.2∧∀b:Nat,b<x.1→x.2.1.1.getD b 0≠0) (fun x=>n-x.1) (0,(List.replicate n 0,List.replicate n 0,List.replicate n false,0,[]),(.ak,[],.ak,[])) ⟨⟨aY _,.start n (ax n l),.nil,⟨[],[],rfl,.nil,rfl⟩,fun _ h=>absurd h (s7 _)⟩,⟨rfl,rfl,rfl,rfl,rfl,trivial⟩,by rw[tk,yU];rfl⟩ ?_
  clear aq
  rintro⟨k,⟨ix,lo,on,aV,P⟩,⟨vs,ly,vp,eK⟩⟩ g2 ⟨aO,rV,lE,qO,ma⟩
  have hk:k≤n:=aO
  have hF:FI n (ax n l) ix lo on [] aV P []:=rV
  have hs:iA 1 0 vs ly []:=lE
  have hp:PO P vp eK:=qO
  have hv:∀b:Nat,b<k→ix.getD b 0≠0:=ma
  clear aO rV lE qO ma
  have CV:((k:Nat):Int).toNat=k:=bR k
  refine aj (p:=(k:Int)<n) (fun ab=>?_) (fun aq=>?_)
  ·have ab:k<n:=by omega
   refine aa 0 ?_
   refine aQ ?_
   refine aW 1 rfl (eZ rfl (by omega) (by rw[hF.li];omega)) ?_
   refine aj (p:=ix.getD ((k:Nat):Int).toNat 0=0) (fun c1=>?_) (fun c1=>?_)
   ·refine .mk [] _ (ace n w bi bl bo l ix lo on aV P vs vp ly eK k σ (by omega) hF (by omega) c1 hs hp) ?_
    rintro _ _ ⟨rfl,KQ,KP,KM,Kt,P2,Gf,JM,KC,JN,LG,gV,dE,nr,sU,rfl⟩
    rw[CV]at nr
    refine aM (k+1,(KQ,KP,KM,Kt,P2),(Gf,JM,KC,JN)) (by show n-(k+1)<n-k;omega) ⟨ab,LG,gV,dE,fun b hb=>?_⟩ ⟨rfl,rfl,rfl,rfl,aL (by omega),trivial⟩ (.refl _)
    have hb:b<k+1:=hb
    by_cases e:b=k
    ·subst e;exact nr
    ·exact sU b (hv b (by omega))
   ·rw[CV]at c1
    refine aM (k+1,(ix,lo,on,aV,P),(vs,ly,vp,eK)) (by show n-(k+1)<n-k;omega) ⟨ab,hF,hs,hp,fun b hb=>?_⟩ ⟨rfl,rfl,rfl,rfl,aL (by omega),trivial⟩ (.refl _)
    have hb:b<k+1:=hb
    by_cases e:b=k
    ·subst e;exact c1
    ·exact hv b (by omega)
  ·have aq:k=n:=by omega
   subst aq
   have bQ:n9 k l P:=⟨hF.tj.prt,fun x h0 h1=>by
    have h2:=hv x.toNat (by omega)
    have h3:=(hF.tj.vZ x h0 h1).1 (by rw[lX h0];exact h2)
    exact h3.resolve_left (by simp)⟩
   have Da:=AZ hF.tj.prt
   refine aa 0 ?_
   obtain⟨x,hx,_⟩:=bQ.all 0 (by omega) (by omega)
   have s4:=AB hx
   obtain⟨ac,rw,rfl,Ls,mE⟩:=hp
   have qM:rw.length=P.length:=by rw[← mE,cm]
   obtain⟨b5,rfl,rfl⟩:=sl (by omega) Ls
   have hO:=fun τ=>Xl k l P rw b5 τ bQ mE s4 hl (by omega) Ac
   rw[← qM]at hO
   rcases hs.zero with ⟨rfl,rfl⟩ | ⟨bs,J,rfl,rfl⟩
   ·refine .perm _ (vu [_,_,_,_] ((b5,ff rw)::eM rw) σ) (hO _) ?_
    rintro _ _ ⟨DD,eL,rfl,mD,rfl,wz⟩
    exact⟨_,(vu [_,_,_,_] ((DD,ff eL)::eM eL) σ).symm,.drop 0 4 (.done ⟨DD,eL,rfl,mD,rfl,P,bQ,wz⟩)⟩
   ·refine .perm _ (vu [_,_,_,_,_] ((b5,ff rw)::eM rw) σ) (hO _) ?_
    rintro _ _ ⟨DD,eL,rfl,mD,rfl,wz⟩
    exact⟨_,(vu [_,_,_,_,_] ((DD,ff eL)::eM eL) σ).symm,.drop 0 5 (.done ⟨DD,eL,rfl,mD,rfl,P,bQ,wz⟩)⟩
end Go.Proofs.YtnikdflhefijbaaGreat
