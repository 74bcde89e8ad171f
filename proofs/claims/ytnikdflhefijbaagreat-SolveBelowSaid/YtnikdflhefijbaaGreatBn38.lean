import Derived.Test.YtnikdflhefijbaaGreatBn37
import Derived.Test.YtnikdflhefijbaaGreatBn34
namespace Go.Proofs.YtnikdflhefijbaaGreat
open Go.RowKit
set_option maxRecDepth 100000
theorem ir.zero{e:Nat}{v:AV}{acc:Hp}{cs:List AV}(h:ir e 0 v acc cs):(v=.aj∧acc=[])∨∃b J,v=.ae b 0 0 e∧acc=[(b,J)]:=by
 generalize hz:(0:Nat)=z at h
 cases h with
 |nil=>exact .inl ⟨rfl,rfl⟩
 |ae b k cs J h=>subst hz;exact .inr ⟨b,_,rfl,rfl⟩
def wL(W:List Int)(T:List Bool)(i:Int)(x:bC):Bool:=decide (W.getD x.2.1.toNat 0=i)&&decide (W.getD x.1.toNat 0≠i)&&!T.getD (W.getD x.1.toNat 0).toNat false
theorem aem(bW bw bI bT bt n m:Nat)(W:List Int)(T:List Bool)(i:Int)(x:bC)(σ:Hp)(h1:0≤x.1∧x.1<n)(h2:0≤x.2.1∧x.2.1<n)(hW:W.length=n)(hT:T.length=m)(hr:0≤W.getD x.1.toNat 0∧W.getD x.1.toNat 0<m):
  ACalls Tryz.prog 317 (Aq x::[.ptr bW 0,.ptr bI 0,.ptr bT 0]) ((bI,[.int .i64 i])::(bT,[.ae bt 0 m 1])::(bW,[.ae bw 0 n 1])::(bw,ao W)::(bt,bK T)::σ) (aE (.bool (wL W T i x)) ((bI,[.int .i64 i])::(bT,[.ae bt 0 m 1])::(bW,[.ae bw 0 n 1])::(bw,ao W)::(bt,bK T)::σ)):=by
 obtain⟨x1,x2,xu⟩:=x
 have h1:0≤x1∧x1<n:=h1
 have h2:0≤x2∧x2<n:=h2
 have hr:0≤W.getD x1.toNat 0∧W.getD x1.toNat 0<m:=hr
 refine ay Tryz.func317 ?_
 intro bx
 refine .quiet (by kernel_rfl) ?_
 refine aa 3 ?_
 refine aa 0 ?_
 refine ag.mk ⟨rfl,by omega,by omega⟩ ?_
 refine aT 4 rfl (eT rfl h2.1 (by omega)) ?_
 refine aa 1 ?_
 refine an (fun c1=>?_) (fun c1=>?_)
 ·have c1:W.getD x2.toNat 0=i:=c1
  refine aa 3 ?_
  refine aa 0 ?_
  refine ag.mk ⟨rfl,by omega,by omega⟩ ?_
  refine aT 4 rfl (eT rfl h1.1 (by omega)) ?_
  refine aa 1 ?_
  refine dB (fun c2=>?_) (fun c2=>?_)
  ·have c2:¬(W.getD x1.toNat 0=i):=by simpa using c2
   refine aa 2 ?_
   refine aa 3 ?_
   refine aa 0 ?_
   refine ag.mk ⟨rfl,by omega,by omega⟩ ?_
   have hL:∀b,T.getD (W.getD x1.toNat 0).toNat false=b→wL W T i (x1,x2,xu) = !b:=fun b hb=>by
    unfold wL
    rw[aV (show W.getD x2.toNat 0=i from c1),aV (show W.getD x1.toNat 0≠i from c2)]
    show (true&&true&&!T.getD (W.getD x1.toNat 0).toNat false)=_
    rw[hb];rfl
   refine aT 4 rfl (eT rfl h1.1 (by omega)) ?_
   refine ag.mk ⟨rfl,by omega,by omega⟩ ?_
   refine fu.kv 5 _ _ rfl (sQ rfl hr.1 (by omega)) (fun c3=>?_) (fun c3=>?_)
   ·exact .drop 0 1 (.done ⟨cz (hL true c3).symm,rfl⟩)
   ·exact .drop 0 1 (.done ⟨cz (hL false c3).symm,rfl⟩)
  ·have c2:W.getD x1.toNat 0=i:=by simpa using c2
   refine .drop 0 1 (.done ⟨cz ?_,rfl⟩)
   unfold wL
   rw[bR (show ¬(W.getD x1.toNat 0≠i) from fun h=>h c2),IP];rfl
 ·have c1:¬(W.getD x2.toNat 0=i):=c1
  refine .drop 0 1 (.done ⟨cz ?_,rfl⟩)
  unfold wL
  rw[bR (show ¬(W.getD x2.toNat 0=i) from c1)];rfl
theorem Va(bW bw bl bT bt n m:Nat)(l:List bC)(W:List Int)(T:List Bool)(i:Int)(σ:Hp)(hl:l.length≤100000)(hi:0≤i∧i<m)(hr:∀e∈l,(0≤e.1∧e.1<(n:Int))∧0≤e.2.1∧e.2.1<(n:Int))(hW:W.length=n)(hT:T.length=m)(hw:∀k:Nat,k<n→0≤W.getD k 0∧W.getD k 0<m):
  ACalls Tryz.prog 316 [.int .i64 i,.ptr bT 0,.ptr bl 0,.ptr bW 0] ((bT,[.ae bt 0 m 1])::(bW,[.ae bw 0 n 1])::(bw,ao W)::(bt,bK T)::(bl,[.af dv l])::σ) (aE (.bool (mY l W T i)) ((bT,[.ae bt 0 m 1])::(bW,[.ae bw 0 n 1])::(bw,ao W)::(bt,bK T)::(bl,[.af dv l])::σ)):=by
 have hF:∀b,T.getD i.toNat false=b→mY l W T i=(!b&&!l.any (wL W T i)):=fun b hb=>by unfold mY;rw[hb];rfl
 refine ay Tryz.func316 ?_
 intro bI
 refine aa 1 ?_
 refine aa 0 ?_
 refine ag.mk ⟨rfl,by omega,by omega⟩ ?_
 refine fu.kv 4 _ _ rfl (sQ rfl hi.1 (by omega)) (fun c1=>?_) (fun c1=>?_)
 ·exact .drop 0 1 (.done ⟨cz (hF true c1).symm,rfl⟩)
 ·refine aa 5 ?_
  have hg:∀(k:Nat) (hk:k<l.length),ACalls Tryz.prog 317 (Aq l[k]::[.ptr bW 0,.ptr bI 0,.ptr bT 0]) ((bI,[.int .i64 i])::(bT,[.ae bt 0 m 1])::(bW,[.ae bw 0 n 1])::(bw,ao W)::(bt,bK T)::(bl,[.af dv l])::σ) (aE (.bool (wL W T i l[k])) ((bI,[.int .i64 i])::(bT,[.ae bt 0 m 1])::(bW,[.ae bw 0 n 1])::(bw,ao W)::(bt,bK T)::(bl,[.af dv l])::σ)):=fun k hk=>by
   obtain⟨h1,h2⟩:=hr _ (bX hk)
   exact aem bW bw bI bT bt n m W T i l[k] _ h1 h2 hW hT (hw _ (by omega))
  refine az [] (Pp 317 _ l (wL W T i) _ (fD hl (by decide)) hg) ?_
  exact .drop 0 1 (.done ⟨cz (hF false c1).symm,rfl⟩)
theorem xZ:∀n:Nat,cE [.int .i64 0] n=ao (List.replicate n 0)
 | 0=>rfl
 |n+1=>by
  show [AV.int .i64 0]++cE [.int .i64 0] n=_
  rw[xZ n];rfl
theorem Sm(n:Nat)(l:List bC)(P:List (List Int))(σ:Hp)(h:oq n l P)(hl:l.length≤100000)(hn:n≤1000)(hr:∀e∈l,(0≤e.1∧e.1<(n:Int))∧0≤e.2.1∧e.2.1<(n:Int)):
  ACalls Tryz.prog 291 [.int .i64 n,.af dv l,.af (.slice (.int .i64)) P] σ (aE (.af (.slice (.int .i64)) (ka n l)) σ):=by
 obtain⟨oE,hpf⟩:=BR h.ok
 have hNt:((n:Nat):Int).toNat=n:=bM n
 refine ay Tryz.func291 ?_
 intro bl
 refine ag.mk ⟨by omega,by omega,by omega,by decide⟩ ?_
 intro bw
 intro bW
 refine ak 0 ?_
 refine bV (S:=Nat) (fun k=>[(2,.af (.slice (.int .i64)) P),(4,.ptr bl 0),(7,.ptr bW 0),(20,.af (.slice (.int .i64)) P),(21,.int .i64 P.length),(22,.int .i64 k)]) (fun k=>(bW,[.ae bw 0 n 1])::(bw,ao (mB P k (List.replicate n 0)))::(bl,[.af dv l])::σ) (fun k=>k≤P.length) (fun k=>P.length-k) 0 ⟨bA _,⟨rfl,rfl,rfl,rfl,rfl,rfl,trivial⟩,by rw[show ao (mB P 0 (List.replicate n 0))=cE [.int .i64 0] n from (xZ n).symm];rfl⟩ ?_
 intro k g aL
 have hk:k≤P.length:=aL
 clear aL
 refine an (p:=(k:Int)<P.length) (fun ab=>?_) (fun ar=>?_)
 ·have ab:k<P.length:=by omega
  obtain⟨p,hp⟩:∃p,P[k]=p:=⟨_,rfl⟩
  have eM:P[k]?=some p:=(bJ ab).trans (congrArg some hp)
  have sq:=h.ok.node p (cq eM)
  have afK:p.length≤n:=BT n p ((h.ok.AO p (cq eM)).imp fun h=>by omega) sq
  have oJ:=BD P k (List.replicate n 0)
  rw[gb]at oJ
  have sl:mB P (k+1) (List.replicate n 0)=kX k p (mB P k (List.replicate n 0)):=by show kX k (P.getD k []) _=_;rw[ur eM]
  generalize mB P k (List.replicate n 0)=W at oJ sl
  refine ag.mk rfl (bG.mk p (by omega) (show P[((k:Nat):Int).toNat]?=some p by rw[bM];exact eM) ?_)
  refine bV (S:=Nat) (fun j=>[(2,.af (.slice (.int .i64)) P),(4,.ptr bl 0),(7,.ptr bW 0),(8,.int .i64 k),(20,.af (.slice (.int .i64)) P),(21,.int .i64 P.length),(22,.int .i64 k),(27,.af (.int .i64) p),(28,.int .i64 p.length),(29,.int .i64 j)]) (fun j=>(bW,[.ae bw 0 n 1])::(bw,ao (kX k (p.take j) W))::(bl,[.af dv l])::σ) (fun j=>j≤p.length) (fun j=>p.length-j) 0 ⟨bA _,⟨rfl,rfl,rfl,rfl,rfl,rfl,rfl,rfl,rfl,rfl,trivial⟩,rfl⟩ ?_
  intro j g2 xo
  have hj:j≤p.length:=xo
  clear xo
  refine an (p:=(j:Int)<p.length) (fun dN=>?_) (fun lF=>?_)
  ·have dN:j<p.length:=by omega
   obtain⟨a,ha⟩:∃a,p[j]=a:=⟨_,rfl⟩
   have sy:=sq a (ha▸bX dN)
   have aq:(kX k (p.take j) W).set a.toNat k=kX k (p.take (j+1)) W:=by unfold kX;rw[fp dN,ha,tS];rfl
   have vv:=Fc k (p.take j) W
   refine ag.mk rfl (bG.mk a (by omega) ((get_some dN).trans (congrArg some ha)) ?_)
   refine aa 0 ?_
   refine ag.mk ⟨rfl,by omega,by omega⟩ ?_
   refine cX 1 rfl (mV rfl _ sy.1 (by omega)) ?_
   exact a8 (j+1) (by show p.length-(j+1)<p.length-j;omega) dN ⟨rfl,rfl,rfl,rfl,rfl,rfl,rfl,rfl,rfl,aX (by omega),trivial⟩ (aJ (by rw[← aq];rfl))
  ·have lF:j=p.length:=by omega
   subst lF
   exact a8 (k+1) (by show P.length-(k+1)<P.length-k;omega) ab ⟨rfl,rfl,rfl,rfl,rfl,aX (by omega),trivial⟩ (aJ (by rw[fj,sl]))
 ·have ar:k=P.length:=by omega
  subst ar
  have NO:∀j:Nat,j<n→0≤(bj n P).getD j 0∧(bj n P).getD j 0<(P.length:Int):=fun j hj=>by
   obtain⟨i,p,hi,_,hw⟩:=h.idx (x:=(j:Int)) (by omega)
   rw[bM]at hw
   have:=xS hi
   rw[hw];omega
  have oJ:=Pt n P
  have Dw:=fun k hk=>(Gp h hr k hk)
  have w5:=Lu h hr
  have aP:∀(i:Nat) (p:List Int),P[i]?=some p→p[((0:Int)).toNat]?=some (ik P i):=fun i p hi=>by
   unfold ik
   rw[ur hi]
   exact S1 (mM.2 (h.ok.ne p (cq hi)))
  rw[show mB P P.length (List.replicate n 0)=bj n P from rfl]
  refine ag.mk ⟨by omega,by omega,by show ((P.length:Nat):Int)≤1048576;omega,by decide⟩ ?_
  intro bt
  intro bT
  refine ak 0 ?_
  obtain⟨m,hm⟩:∃m,P.length=m:=⟨_,rfl⟩
  refine .wrap 14 _ rfl rfl ?_
  refine .dJ (.pull [0,2,3,3] (.refl _)) ?_
  refine bV (S:=Nat×AV×Hp) (fun x=>[(2,.af (.slice (.int .i64)) P),(12,.ptr bT 0),(13,.fn (.func 316) [] [.ptr bT 0,.ptr bl 0,.ptr bW 0]),(14,.via x.2.1),(44,.int .i64 P.length),(45,.int .i64 x.1)]) (fun x=>(bT,[.ae bt 0 P.length 1])::(bW,[.ae bw 0 n 1])::(bw,ao (bj n P))::(bt,bK (dy P l (bj n P) x.1).1)::(bl,[.af dv l])::(x.2.2++σ)) (fun x=>x.1≤P.length∧Acc 1 x.1 x.2.1 x.2.2 (cy (dy P l (bj n P) x.1).2)) (fun x=>P.length-x.1) (0,.aj,[]) ⟨⟨bA _,.nil⟩,⟨rfl,rfl,rfl,rfl,rfl,rfl,trivial⟩,by rw[show bK (dy P l (bj n P) 0).1=cE [.bool false] P.length from (Cn P.length).symm];rfl⟩ ?_
  rintro⟨k,v,acc⟩ g2 ⟨aL,gK⟩
  have hk:k≤P.length:=aL
  have bY:Acc 1 k v acc (cy (dy P l (bj n P) k).2):=gK
  clear aL gK
  refine an (p:=(k:Int)<P.length) (fun ab=>?_) (fun ar=>?_)
  ·have ab:k<P.length:=by omega
   obtain⟨hO,C4,_⟩:=Dw k hk
   obtain⟨b,hb,oI⟩:=C4 ab
   have El:=hO.tl
   have fh:(dy P l (bj n P) (k+1)).1=(dy P l (bj n P) k).1.set b true:=by
    show (dy P l (bj n P) k).1.set (eY P l (bj n P) (dy P l (bj n P) k).1 P.length).toNat true=_
    rw[hb,bM]
   have gQ:(dy P l (bj n P) (k+1)).2=(dy P l (bj n P) k).2++[P.getD b []]:=by
    show (dy P l (bj n P) k).2++[P.getD (eY P l (bj n P) (dy P l (bj n P) k).1 P.length).toNat []]=_
    rw[hb,bM]
   generalize (dy P l (bj n P) k).1=T at hb El fh
   generalize (dy P l (bj n P) k).2=out at bY gQ
   clear hO C4
   have MG:=Fm P l (bj n P) T
   refine bV (S:=Nat) (fun i=>[(2,.af (.slice (.int .i64)) P),(12,.ptr bT 0),(13,.fn (.func 316) [] [.ptr bT 0,.ptr bl 0,.ptr bW 0]),(14,.via v),(15,.int .i64 (eY P l (bj n P) T i)),(44,.int .i64 P.length),(45,.int .i64 k),(47,.af (.slice (.int .i64)) P),(48,.int .i64 P.length),(49,.int .i64 i)]) (fun _=>(bT,[.ae bt 0 P.length 1])::(bW,[.ae bw 0 n 1])::(bw,ao (bj n P))::(bt,bK T)::(bl,[.af dv l])::(acc++σ)) (fun i=>i≤P.length) (fun i=>P.length-i) 0 ⟨bA _,⟨rfl,rfl,rfl,rfl,rfl,rfl,rfl,rfl,rfl,rfl,trivial⟩,rfl⟩ ?_
   intro i g3 fC
   have hi:i≤P.length:=fC
   clear fC
   refine an (p:=(i:Int)<P.length) (fun dN=>?_) (fun lF=>?_)
   ·have dN:i<P.length:=by omega
    obtain⟨p,hp⟩:∃p,P[i]=p:=⟨_,rfl⟩
    have eM:P[i]?=some p:=(bJ dN).trans (congrArg some hp)
    have vJ:=fun ρ=>Va bW bw bl bT bt n P.length l (bj n P) T i ρ hl (by omega) hr oJ El NO
    have er:eY P l (bj n P) T (i+1)=if mY l (bj n P) T i=true∧(eY P l (bj n P) T i<0∨ik P i<ik P (eY P l (bj n P) T i).toNat) then (i:Int) else eY P l (bj n P) T i:=rfl
    have Ej:=MG i
    refine ag.mk rfl (bG.mk p (by omega) (show P[((i:Nat):Int).toNat]?=some p by rw[bM];exact eM) ?_)
    cases hf:mY l (bj n P) T i with
    |false=>
     rw[hf]at vJ er
     rw[ah (fun h=>by cases h.1)]at er
     refine .quiet (by kernel_rfl) ?_
     refine aH [] (vJ _) ?_
     exact a8 (i+1) (by show P.length-(i+1)<P.length-i;omega) dN ⟨rfl,rfl,rfl,rfl,by rw[er];rfl,rfl,rfl,rfl,rfl,aX (by omega),trivial⟩ (.refl _)
    |true=>
     rw[hf]at vJ er
     refine .quiet (by kernel_rfl) ?_
     refine aH [] (vJ _) ?_
     refine an (p:=eY P l (bj n P) T i<0) (fun c1=>?_) (fun c1=>?_)
     ·rw[ai ⟨rfl,.inl c1⟩]at er
      exact a8 (i+1) (by show P.length-(i+1)<P.length-i;omega) dN ⟨rfl,rfl,rfl,rfl,by rw[er];rfl,rfl,rfl,rfl,rfl,aX (by omega),trivial⟩ (.refl _)
     ·obtain⟨b2,e2,l2,_⟩:=Ej.resolve_left fun h=>c1 (by rw[h.1];decide)
      obtain⟨p2,df⟩:∃p,P[b2]?=some p:=⟨P[b2],bJ (by omega)⟩
      have Vs:P[(eY P l (bj n P) T i).toNat]?=some p2:=by rw[e2,bM];exact df
      have IG:0≤eY P l (bj n P) T i:=by omega
      rw[e2,bM,← e2]at er
      refine ag.mk rfl ?_
      refine bG.mk (ik P i) (by decide) (aP i p eM) ?_
      refine ag.mk rfl ?_
      refine bG.mk p2 IG Vs ?_
      refine ag.mk rfl ?_
      refine bG.mk (ik P b2) (by decide) (aP b2 p2 df) ?_
      refine an (p:=ik P i<ik P b2) (fun c2=>?_) (fun c2=>?_)
      ·rw[ai ⟨rfl,.inr c2⟩]at er
       exact a8 (i+1) (by show P.length-(i+1)<P.length-i;omega) dN ⟨rfl,rfl,rfl,rfl,by rw[er];rfl,rfl,rfl,rfl,rfl,aX (by omega),trivial⟩ (.refl _)
      ·rw[ah (fun h=>h.2.elim c1 c2)]at er
       exact a8 (i+1) (by show P.length-(i+1)<P.length-i;omega) dN ⟨rfl,rfl,rfl,rfl,by rw[er];rfl,rfl,rfl,rfl,rfl,aX (by omega),trivial⟩ (.refl _)
   ·have lF:i=P.length:=by omega
    subst lF
    refine aa 0 ?_
    refine ag.mk ⟨rfl,by omega,by omega⟩ ?_
    refine cX 3 rfl (xX rfl true (by omega) (by omega)) ?_
    refine ag.mk rfl ?_
    obtain⟨pb,qq⟩:∃p,P[b]?=some p:=⟨P[b],bJ oI⟩
    have afL:P[(eY P l (bj n P) T P.length).toNat]?=some pb:=by rw[hb,bM];exact qq
    rw[ur qq]at gQ
    refine bG.mk pb (by omega) afL ?_
    intro bs
    refine jU [_,_,_,_,_,_] bY (.ae 0 bs 0 1 _ rfl (cH rfl)) rfl (by omega) (by decide) (by decide) (fun v' bu h'=>?_)
    refine a8 (k+1,v',bu) (by show P.length-(k+1)<P.length-k;omega) ⟨ab,?_⟩ ⟨rfl,rfl,rfl,rfl,rfl,aX (by omega),trivial⟩ (.drop 0 1 (aJ (by rw[fh,hb,bM];rfl)))
    show Acc 1 (k+1) v' bu (cy (dy P l (bj n P) (k+1)).2)
    rw[gQ,show cy (out++[pb])=cy out++[.af (.int .i64) pb] from cS];exact h'
  ·have ar:k=P.length:=by omega
   subst ar
   rw[w5]at bY
   have ny:=(Dw P.length (aU _)).1.ol
   rw[w5]at ny
   exact pO (s:=.slice (.int .i64)) [_,_,_,_,_] bY ny.symm (wh _) (by decide) (.drop 0 5 (.done ⟨rfl,rfl⟩))
theorem acX(n:Nat)(l:List bC)(σ:Hp)(hl:l.length≤100000)(dQ:fe n l=true):ACalls Tryz.prog 258 [.int .i64 n,.af dv l] σ (fun r σ'=>r=.tup [.af (.slice (.int .i64)) (ka n l),.int .i64 0]∧σ'=σ∧∃P,oq n l P):=by
 have hn:1≤n∧n≤256:=by
  unfold fe at dQ
  simp only[bL,decide_eq_true_eq]at dQ
  omega
 have A6:∀e∈l,(0≤e.1∧e.1<(n:Int))∧0≤e.2.1∧e.2.1<(n:Int):=fun e he=>by
  unfold fe at dQ
  simp only[bL,fk]at dQ
  have:=dQ.2 e he
  exact⟨kI.1 this.1,kI.1 this.2⟩
 refine ay Tryz.func258 ?_
 refine eb [] (CN n l _ (by omega)) (fun _=>?_) (fun c=>absurd c (by rw[dQ];decide))
 refine gn.Hg (S:=Nat×Nat×Nat×Nat) [] (.one 0 false (.one 2 false (.one 4 false (.alt 1 (.alt 3 (.alt 5 (.one 6 false (.one 7 false (.one 8 false .stop))) (.one 7 false (.one 5 false (.one 6 false (.one 8 false .stop))))) (.alt 5 (.alt 3 (.one 6 false (.one 7 false (.one 8 false .stop))) (.one 7 false (.one 3 false (.one 6 false (.one 8 false .stop))))) (.one 7 false (.alt 3 (.one 5 false (.one 6 false (.one 8 false .stop))) (.one 5 false (.one 3 false (.one 6 false (.one 8 false .stop)))))))) (.alt 3 (.alt 1 (.alt 5 (.one 6 false (.one 7 false (.one 8 false .stop))) (.one 7 false (.one 5 false (.one 6 false (.one 8 false .stop))))) (.alt 5 (.alt 1 (.one 6 false (.one 7 false (.one 8 false .stop))) (.one 7 false (.one 1 false (.one 6 false (.one 8 false .stop))))) (.one 7 false (.alt 1 (.one 5 false (.one 6 false (.one 8 false .stop))) (.one 5 false (.one 1 false (.one 6 false (.one 8 false .stop)))))))) (.alt 5 (.alt 1 (.alt 3 (.one 6 false (.one 7 false (.one 8 false .stop))) (.one 7 false (.one 3 false (.one 6 false (.one 8 false .stop))))) (.alt 3 (.alt 1 (.one 6 false (.one 7 false (.one 8 false .stop))) (.one 7 false (.one 1 false (.one 6 false (.one 8 false .stop))))) (.one 7 false (.alt 1 (.one 3 false (.one 6 false (.one 8 false .stop))) (.one 3 false (.one 1 false (.one 6 false (.one 8 false .stop)))))))) (.one 7 false (.alt 1 (.alt 3 (.one 5 false (.one 6 false (.one 8 false .stop))) (.one 5 false (.one 3 false (.one 6 false (.one 8 false .stop))))) (.alt 3 (.alt 1 (.one 5 false (.one 6 false (.one 8 false .stop))) (.one 5 false (.one 1 false (.one 6 false (.one 8 false .stop))))) (.one 5 false (.alt 1 (.one 3 false (.one 6 false (.one 8 false .stop))) (.one 3 false (.one 1 false (.one 6 false (.one 8 false .stop))))))))))))))) (fun x=>[(0,.int .i64 n),(1,.af dv l),(6,.ptr x.1 0)]) (fun x=>(x.1,[.aj,.ae x.2.1 0 n 1,.ae x.2.2.1 0 n 1,.ae x.2.2.2 0 n 1,.aj,.int .i64 0,.aj])::(x.2.1,cE [.int .i64 0] n)::(x.2.2.1,cE [.int .i64 0] n)::(x.2.2.2,cE [.bool false] n)::σ) (by kernel_rfl) ?_ ?_
 ·refine And.intro ?_ ?_
  ·refine ag.mk ⟨by omega,by omega,by omega,by decide⟩ ?_
   intro bi
   refine And.intro ?_ ?_
   ·refine ag.mk ⟨by omega,by omega,by omega,by decide⟩ ?_
    intro bl
    refine And.intro ?_ ?_
    ·refine ag.mk ⟨by omega,by omega,by omega,by decide⟩ ?_
     intro bo
     intro w
     refine ak 0 ?_
     exact cR.mk (w,bi,bl,bo) ⟨rfl,rfl,rfl,trivial⟩ (.pull [3,3,2,1] (aJ rfl))
    ·intro w
     refine ag.mk ⟨by omega,by omega,by omega,by decide⟩ ?_
     intro bo
     refine ak 1 ?_
     exact cR.mk (w,bi,bl,bo) ⟨rfl,rfl,rfl,trivial⟩ (.pull [3,3,2,0] (aJ rfl))
   ·refine And.intro ?_ ?_
    ·refine ag.mk ⟨by omega,by omega,by omega,by decide⟩ ?_
     intro bo
     refine And.intro ?_ ?_
     ·refine ag.mk ⟨by omega,by omega,by omega,by decide⟩ ?_
      intro bl
      intro w
      refine ak 0 ?_
      exact cR.mk (w,bi,bl,bo) ⟨rfl,rfl,rfl,trivial⟩ (.pull [3,3,2,2] (aJ rfl))
     ·intro w
      refine ag.mk ⟨by omega,by omega,by omega,by decide⟩ ?_
      intro bl
      refine ak 1 ?_
      exact cR.mk (w,bi,bl,bo) ⟨rfl,rfl,rfl,trivial⟩ (.pull [3,3,1,2] (aJ rfl))
    ·intro w
     refine And.intro ?_ ?_
     ·refine ag.mk ⟨by omega,by omega,by omega,by decide⟩ ?_
      intro bl
      refine ag.mk ⟨by omega,by omega,by omega,by decide⟩ ?_
      intro bo
      refine ak 2 ?_
      exact cR.mk (w,bi,bl,bo) ⟨rfl,rfl,rfl,trivial⟩ (.pull [3,3,1,0] (aJ rfl))
     ·refine ag.mk ⟨by omega,by omega,by omega,by decide⟩ ?_
      intro bo
      refine ag.mk ⟨by omega,by omega,by omega,by decide⟩ ?_
      intro bl
      refine ak 2 ?_
      exact cR.mk (w,bi,bl,bo) ⟨rfl,rfl,rfl,trivial⟩ (.pull [3,3,1,1] (aJ rfl))
  ·refine And.intro ?_ ?_
   ·refine ag.mk ⟨by omega,by omega,by omega,by decide⟩ ?_
    intro bl
    refine And.intro ?_ ?_
    ·refine ag.mk ⟨by omega,by omega,by omega,by decide⟩ ?_
     intro bi
     refine And.intro ?_ ?_
     ·refine ag.mk ⟨by omega,by omega,by omega,by decide⟩ ?_
      intro bo
      intro w
      refine ak 0 ?_
      exact cR.mk (w,bi,bl,bo) ⟨rfl,rfl,rfl,trivial⟩ (.pull [3,3,3,1] (aJ rfl))
     ·intro w
      refine ag.mk ⟨by omega,by omega,by omega,by decide⟩ ?_
      intro bo
      refine ak 1 ?_
      exact cR.mk (w,bi,bl,bo) ⟨rfl,rfl,rfl,trivial⟩ (.pull [3,3,3,0] (aJ rfl))
    ·refine And.intro ?_ ?_
     ·refine ag.mk ⟨by omega,by omega,by omega,by decide⟩ ?_
      intro bo
      refine And.intro ?_ ?_
      ·refine ag.mk ⟨by omega,by omega,by omega,by decide⟩ ?_
       intro bi
       intro w
       refine ak 0 ?_
       exact cR.mk (w,bi,bl,bo) ⟨rfl,rfl,rfl,trivial⟩ (.pull [3,3,3,2] (aJ rfl))
      ·intro w
       refine ag.mk ⟨by omega,by omega,by omega,by decide⟩ ?_
       intro bi
       refine ak 1 ?_
       exact cR.mk (w,bi,bl,bo) ⟨rfl,rfl,rfl,trivial⟩ (.pull [3,2,3,2] (aJ rfl))
     ·intro w
      refine And.intro ?_ ?_
      ·refine ag.mk ⟨by omega,by omega,by omega,by decide⟩ ?_
       intro bi
       refine ag.mk ⟨by omega,by omega,by omega,by decide⟩ ?_
       intro bo
       refine ak 2 ?_
       exact cR.mk (w,bi,bl,bo) ⟨rfl,rfl,rfl,trivial⟩ (.pull [3,2,3,0] (aJ rfl))
      ·refine ag.mk ⟨by omega,by omega,by omega,by decide⟩ ?_
       intro bo
       refine ag.mk ⟨by omega,by omega,by omega,by decide⟩ ?_
       intro bi
       refine ak 2 ?_
       exact cR.mk (w,bi,bl,bo) ⟨rfl,rfl,rfl,trivial⟩ (.pull [3,2,3,1] (aJ rfl))
   ·refine And.intro ?_ ?_
    ·refine ag.mk ⟨by omega,by omega,by omega,by decide⟩ ?_
     intro bo
     refine And.intro ?_ ?_
     ·refine ag.mk ⟨by omega,by omega,by omega,by decide⟩ ?_
      intro bi
      refine And.intro ?_ ?_
      ·refine ag.mk ⟨by omega,by omega,by omega,by decide⟩ ?_
       intro bl
       intro w
       refine ak 0 ?_
       exact cR.mk (w,bi,bl,bo) ⟨rfl,rfl,rfl,trivial⟩ (.pull [3,3,2,3] (aJ rfl))
      ·intro w
       refine ag.mk ⟨by omega,by omega,by omega,by decide⟩ ?_
       intro bl
       refine ak 1 ?_
       exact cR.mk (w,bi,bl,bo) ⟨rfl,rfl,rfl,trivial⟩ (.pull [3,3,1,3] (aJ rfl))
     ·refine And.intro ?_ ?_
      ·refine ag.mk ⟨by omega,by omega,by omega,by decide⟩ ?_
       intro bl
       refine And.intro ?_ ?_
       ·refine ag.mk ⟨by omega,by omega,by omega,by decide⟩ ?_
        intro bi
        intro w
        refine ak 0 ?_
        exact cR.mk (w,bi,bl,bo) ⟨rfl,rfl,rfl,trivial⟩ (.pull [3,3,3,3] (aJ rfl))
       ·intro w
        refine ag.mk ⟨by omega,by omega,by omega,by decide⟩ ?_
        intro bi
        refine ak 1 ?_
        exact cR.mk (w,bi,bl,bo) ⟨rfl,rfl,rfl,trivial⟩ (.pull [3,2,3,3] (aJ rfl))
      ·intro w
       refine And.intro ?_ ?_
       ·refine ag.mk ⟨by omega,by omega,by omega,by decide⟩ ?_
        intro bi
        refine ag.mk ⟨by omega,by omega,by omega,by decide⟩ ?_
        intro bl
        refine ak 2 ?_
        exact cR.mk (w,bi,bl,bo) ⟨rfl,rfl,rfl,trivial⟩ (.pull [3,2,1,3] (aJ rfl))
       ·refine ag.mk ⟨by omega,by omega,by omega,by decide⟩ ?_
        intro bl
        refine ag.mk ⟨by omega,by omega,by omega,by decide⟩ ?_
        intro bi
        refine ak 2 ?_
        exact cR.mk (w,bi,bl,bo) ⟨rfl,rfl,rfl,trivial⟩ (.pull [3,2,2,3] (aJ rfl))
    ·intro w
     refine And.intro ?_ ?_
     ·refine ag.mk ⟨by omega,by omega,by omega,by decide⟩ ?_
      intro bi
      refine And.intro ?_ ?_
      ·refine ag.mk ⟨by omega,by omega,by omega,by decide⟩ ?_
       intro bl
       refine ag.mk ⟨by omega,by omega,by omega,by decide⟩ ?_
       intro bo
       refine ak 3 ?_
       exact cR.mk (w,bi,bl,bo) ⟨rfl,rfl,rfl,trivial⟩ (.pull [3,2,1,0] (aJ rfl))
      ·refine ag.mk ⟨by omega,by omega,by omega,by decide⟩ ?_
       intro bo
       refine ag.mk ⟨by omega,by omega,by omega,by decide⟩ ?_
       intro bl
       refine ak 3 ?_
       exact cR.mk (w,bi,bl,bo) ⟨rfl,rfl,rfl,trivial⟩ (.pull [3,2,1,1] (aJ rfl))
     ·refine And.intro ?_ ?_
      ·refine ag.mk ⟨by omega,by omega,by omega,by decide⟩ ?_
       intro bl
       refine And.intro ?_ ?_
       ·refine ag.mk ⟨by omega,by omega,by omega,by decide⟩ ?_
        intro bi
        refine ag.mk ⟨by omega,by omega,by omega,by decide⟩ ?_
        intro bo
        refine ak 3 ?_
        exact cR.mk (w,bi,bl,bo) ⟨rfl,rfl,rfl,trivial⟩ (.pull [3,2,2,0] (aJ rfl))
       ·refine ag.mk ⟨by omega,by omega,by omega,by decide⟩ ?_
        intro bo
        refine ag.mk ⟨by omega,by omega,by omega,by decide⟩ ?_
        intro bi
        refine ak 3 ?_
        exact cR.mk (w,bi,bl,bo) ⟨rfl,rfl,rfl,trivial⟩ (.pull [3,2,2,1] (aJ rfl))
      ·refine ag.mk ⟨by omega,by omega,by omega,by decide⟩ ?_
       intro bo
       refine And.intro ?_ ?_
       ·refine ag.mk ⟨by omega,by omega,by omega,by decide⟩ ?_
        intro bi
        refine ag.mk ⟨by omega,by omega,by omega,by decide⟩ ?_
        intro bl
        refine ak 3 ?_
        exact cR.mk (w,bi,bl,bo) ⟨rfl,rfl,rfl,trivial⟩ (.pull [3,2,1,2] (aJ rfl))
       ·refine ag.mk ⟨by omega,by omega,by omega,by decide⟩ ?_
        intro bl
        refine ag.mk ⟨by omega,by omega,by omega,by decide⟩ ?_
        intro bi
        refine ak 3 ?_
        exact cR.mk (w,bi,bl,bo) ⟨rfl,rfl,rfl,trivial⟩ (.pull [3,2,2,2] (aJ rfl))
 rintro⟨w,bi,bl,bo⟩ g
 have cU:∀(a:Nat) (σ:Hp),ACalls Tryz.prog 289 [.int .i64 n,.af dv l,.int .i64 a] σ (aE (.af (.int .i64) (au n l a)) σ):=fun a σ=>Aw n l a σ hl
 have l6:∀k,cy ((List.range (k+1)).map fun a:Nat=>au n l a)=cy ((List.range k).map fun a:Nat=>au n l a)++[.af (.int .i64) (au n l k)]:=fun k=>by rw[tV,cS];exact cS
 have fK:∀k,(cy ((List.range k).map fun a:Nat=>au n l a)).length=k:=fun k=>by rw[uc,cd,oO]
 refine bV (S:=Nat×AV×Hp) (fun x=>[(0,.int .i64 n),(1,.af dv l),(6,.ptr w 0),(20,.int .i64 n),(21,.int .i64 x.1)]) (fun x=>(w,[x.2.1,.ae bi 0 n 1,.ae bl 0 n 1,.ae bo 0 n 1,.aj,.int .i64 0,.aj])::(bi,cE [.int .i64 0] n)::(bl,cE [.int .i64 0] n)::(bo,cE [.bool false] n)::(x.2.2++σ)) (fun x=>x.1≤n∧(x.1<n→Acc 1 x.1 x.2.1 x.2.2 (cy ((List.range x.1).map fun a:Nat=>au n l a)))∧(x.1=n→x.2.1=.af (.slice (.int .i64)) (bS n l)∧x.2.2=[])) (fun x=>n-x.1) (0,.aj,[]) ⟨⟨bA _,fun _=>.nil,fun h=>by have h:0=n:=h;omega⟩,⟨rfl,rfl,rfl,rfl,rfl,trivial⟩,rfl⟩ ?_
 rintro⟨k,v,acc⟩ g ⟨aL,gK,C2⟩
 have hk:k≤n:=aL
 have bY:k<n→Acc 1 k v acc (cy ((List.range k).map fun a:Nat=>au n l a)):=gK
 have kV:k=n→v=.af (.slice (.int .i64)) (bS n l)∧acc=[]:=C2
 clear aL gK C2
 refine an (p:=(k:Int)<n) (fun ab=>?_) (fun ar=>?_)
 ·have ab:k<n:=by omega
  have bY:=bY ab
  clear kV
  have l7:(bS n l).length=n:=by unfold bS;rw[cd,oO]
  have A3:∀k,k+1=n→((cy ((List.range k).map fun a:Nat=>au n l a)++[AV.af (.int .i64) (au n l k)]).drop 0).take ((k+1)*1)=(bS n l).flatMap (Sh.cells (.slice (.int .i64))):=fun k hk=>by
   rw[← l6,gR,eI (by rw[fK,eH];exact aU _),hk]
   exact wh _
  refine .sched [5] (.one 0 false (.one 2 false (.one 3 false (.one 4 false (.one 5 true (.alt 1 (.one 6 false (.one 7 false (.one 8 false (.one 9 false .stop)))) (.one 6 false (.one 1 false (.one 7 false (.one 8 false (.one 9 false .stop))))))))))) (by kernel_rfl) ?_
  refine aH [] (Aw n l _ _ hl) ?_
  refine And.intro ?_ ?_
  ·refine aa 0 ?_
   intro aD
   refine zy [_,_,_,_,_] bY.xe (.ae 0 aD 0 1 _ rfl (cH rfl)) rfl (by omega) (by decide) (by decide) (fun v' bu h'=>?_)
   obtain⟨b5,rfl,rfl⟩:=sR (by omega) h'
   refine ak 1 ?_
   by_cases kA:k+1=n
   ·refine .kp 5 b5 0 (k+1) 1 _ (.slice (.int .i64)) (bS n l) rfl (A3 k kA) ⟨(l7.trans kA.symm),rfl,by decide⟩ 1 0 w _ rfl rfl ?_
    exact a8 (k+1,.af (.slice (.int .i64)) (bS n l),[]) (by show n-(k+1)<n-k;omega) ⟨ab,fun h=>absurd kA (by have h:k+1<n:=h;omega),fun _=>⟨rfl,rfl⟩⟩ ⟨rfl,rfl,rfl,rfl,aX (by omega),trivial⟩ (.drop 0 1 (aJ rfl))
   ·exact a8 (k+1,.ae b5 0 (k+1) 1,[(b5,cy ((List.range k).map fun a:Nat=>au n l a)++[.af (.int .i64) (au n l k)])]) (by show n-(k+1)<n-k;omega) ⟨ab,fun _=>by show Acc 1 (k+1) _ _ (cy ((List.range (k+1)).map fun a:Nat=>au n l a));rw[l6];exact h',fun h=>absurd h kA⟩ ⟨rfl,rfl,rfl,rfl,aX (by omega),trivial⟩ (.drop 0 1 (aJ rfl))
  ·intro dH
   refine aa 1 ?_
   refine zy [_,_,_,_,_] bY.xe (.ae 0 dH 0 1 _ rfl (cH rfl)) rfl (by omega) (by decide) (by decide) (fun v' bu h'=>?_)
   obtain⟨b5,rfl,rfl⟩:=sR (by omega) h'
   refine ak 1 ?_
   by_cases kA:k+1=n
   ·refine .kp 5 b5 0 (k+1) 1 _ (.slice (.int .i64)) (bS n l) rfl (A3 k kA) ⟨(l7.trans kA.symm),rfl,by decide⟩ 1 0 w _ rfl rfl ?_
    exact a8 (k+1,.af (.slice (.int .i64)) (bS n l),[]) (by show n-(k+1)<n-k;omega) ⟨ab,fun h=>absurd kA (by have h:k+1<n:=h;omega),fun _=>⟨rfl,rfl⟩⟩ ⟨rfl,rfl,rfl,rfl,aX (by omega),trivial⟩ (.drop 0 1 (aJ rfl))
   ·exact a8 (k+1,.ae b5 0 (k+1) 1,[(b5,cy ((List.range k).map fun a:Nat=>au n l a)++[.af (.int .i64) (au n l k)])]) (by show n-(k+1)<n-k;omega) ⟨ab,fun _=>by show Acc 1 (k+1) _ _ (cy ((List.range (k+1)).map fun a:Nat=>au n l a));rw[l6];exact h',fun h=>absurd h kA⟩ ⟨rfl,rfl,rfl,rfl,aX (by omega),trivial⟩ (.drop 0 1 (aJ rfl))
 ·have ar:k=n:=by omega
  obtain⟨rfl,rfl⟩:=kV ar
  clear bY kV
  refine bV (S:=Nat×(List Int×List Int×List Bool×Nat×List (List Int))×(AV×Hp×AV×Hp)) (fun x=>[(0,.int .i64 n),(1,.af dv l),(6,.ptr w 0),(34,.int .i64 n),(35,.int .i64 x.1)]) (fun x=>(w,dc (bS n l) bi bl bo n x.2.2.1 x.2.1.2.2.2.1 x.2.2.2.2.1)::(bi,ao x.2.1.1)::(bl,ao x.2.1.2.1)::(bo,bK x.2.1.2.2.1)::(x.2.2.2.1++(x.2.2.2.2.2++σ))) (fun x=>x.1≤n∧FI n (au n l) x.2.1.1 x.2.1.2.1 x.2.1.2.2.1 [] x.2.1.2.2.2.1 x.2.1.2.2.2.2 []∧ir 1 0 x.2.2.1 x.2.2.2.1 []∧Acc 1 x.2.1.2.2.2.2.length x.2.2.2.2.1 x.2.2.2.2.2 (cy x.2.1.2.2.2.2)∧∀b:Nat,b<x.1→x.2.1.1.getD b 0≠0) (fun x=>n-x.1) (0,(List.replicate n 0,List.replicate n 0,List.replicate n false,0,[]),(.aj,[],.aj,[])) ⟨⟨bA _,.start n (au n l),.nil,.nil,fun _ h=>absurd h (nE _)⟩,⟨rfl,rfl,rfl,rfl,rfl,trivial⟩,by rw[xZ,Cn];rfl⟩ ?_
  clear ar
  rintro⟨k,⟨ix,lo,on,aG,P⟩,⟨vs,lG,vp,eB⟩⟩ g2 ⟨aL,sB,nt,tG,rp⟩
  have hk:k≤n:=aL
  have hF:FI n (au n l) ix lo on [] aG P []:=sB
  have hs:ir 1 0 vs lG []:=nt
  have hp:Acc 1 P.length vp eB (cy P):=tG
  have hv:∀b:Nat,b<k→ix.getD b 0≠0:=rp
  clear aL sB nt tG rp
  have Ee:((k:Nat):Int).toNat=k:=bM k
  refine an (p:=(k:Int)<n) (fun ab=>?_) (fun ar=>?_)
  ·have ab:k<n:=by omega
   refine aa 0 ?_
   refine ag.mk ⟨rfl,by omega,by omega⟩ ?_
   refine aT 1 rfl (eT rfl (by omega) (by rw[hF.li];omega)) ?_
   refine an (p:=ix.getD ((k:Nat):Int).toNat 0=0) (fun c1=>?_) (fun c1=>?_)
   ·refine .mk [] _ (afh n w bi bl bo l ix lo on aG P vs vp lG eB k σ (by omega) hF (by omega) c1 hs hp) ?_
    rintro _ _ ⟨rfl,M5,M4,M0,MQ,P2,Ic,Mh,MW,Mi,N3,gQ,df,sA,rr,rfl⟩
    rw[Ee]at sA
    refine a8 (k+1,(M5,M4,M0,MQ,P2),(Ic,Mh,MW,Mi)) (by show n-(k+1)<n-k;omega) ⟨ab,N3,gQ,df,fun b hb=>?_⟩ ⟨rfl,rfl,rfl,rfl,aX (by omega),trivial⟩ (.refl _)
    have hb:b<k+1:=hb
    by_cases e:b=k
    ·subst e;exact sA
    ·exact rr b (hv b (by omega))
   ·rw[Ee]at c1
    refine a8 (k+1,(ix,lo,on,aG,P),(vs,lG,vp,eB)) (by show n-(k+1)<n-k;omega) ⟨ab,hF,hs,hp,fun b hb=>?_⟩ ⟨rfl,rfl,rfl,rfl,aX (by omega),trivial⟩ (.refl _)
    have hb:b<k+1:=hb
    by_cases e:b=k
    ·subst e;exact c1
    ·exact hv b (by omega)
  ·have ar:k=n:=by omega
   subst ar
   have cg:oq k l P:=⟨hF.tj.prt,fun x h0 h1=>by
    have h2:=hv x.toNat (by omega)
    have h3:=(hF.tj.xd x h0 h1).1 (by rw[lX h0];exact h2)
    exact h3.resolve_left (by simp)⟩
   have Ep:=BR hF.tj.prt
   refine aa 0 ?_
   obtain⟨x,hx,_⟩:=cg.all 0 (by omega) (by omega)
   have tL:=EN hx
   obtain⟨b5,rfl,rfl⟩:=sR tL hp
   rcases hs.zero with ⟨rfl,rfl⟩ | ⟨bs,J,rfl,rfl⟩
   ·skip
    refine .cI (args':=[.int .i64 k,.af dv l,.af (.slice (.int .i64)) P]) 4 b5 0 P.length 1 _ (.slice (.int .i64)) P rfl (by rw[gR,eI (by rw[uc,eH];exact aU _)];exact wh _) ⟨rfl,rfl,by decide⟩ (cJ (.refl _) (cJ (.refl _) (cJ .here (.refl _)))) ?_
    refine az [] (Sm k l P _ cg hl (by omega) A6) ?_
    exact .drop 0 4 (.done ⟨rfl,rfl,P,cg⟩)
   ·skip
    refine .cI (args':=[.int .i64 k,.af dv l,.af (.slice (.int .i64)) P]) 5 b5 0 P.length 1 _ (.slice (.int .i64)) P rfl (by rw[gR,eI (by rw[uc,eH];exact aU _)];exact wh _) ⟨rfl,rfl,by decide⟩ (cJ (.refl _) (cJ (.refl _) (cJ .here (.refl _)))) ?_
    refine az [] (Sm k l P _ cg hl (by omega) A6) ?_
    exact .drop 0 5 (.done ⟨rfl,rfl,P,cg⟩)
end Go.Proofs.YtnikdflhefijbaaGreat
