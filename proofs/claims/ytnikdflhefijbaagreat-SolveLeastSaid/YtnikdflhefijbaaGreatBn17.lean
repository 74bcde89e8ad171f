import Derived.Test.YtnikdflhefijbaaGreatBn16
import Derived.Test.YtnikdflhefijbaaGreatBn15
namespace Go.Proofs.YtnikdflhefijbaaGreat
open Go.RowKit
set_option maxRecDepth 100000
theorem iG.zero{e:Nat}{v:AV}{acc:Hp}{cs:List AV}(h:iG e 0 v acc cs):(v=.aj∧acc=[])∨∃b J,v=.ae b 0 0 e∧acc=[(b,J)]:=by
 generalize hz:(0:Nat)=z at h
 cases h with
 |nil=>exact .inl ⟨rfl,rfl⟩
 |ae b k cs J h=>subst hz;exact .inr ⟨b,_,rfl,rfl⟩
def wT(W:List Int)(T:List Bool)(i:Int)(x:bE):Bool:=decide (W.getD x.2.1.toNat 0=i)&&decide (W.getD x.1.toNat 0≠i)&&!T.getD (W.getD x.1.toNat 0).toNat false
theorem aeA(bW bw bI bT bt n m:Nat)(W:List Int)(T:List Bool)(i:Int)(x:bE)(σ:Hp)(h1:0≤x.1∧x.1<n)(h2:0≤x.2.1∧x.2.1<n)(hW:W.length=n)(hT:T.length=m)(hr:0≤W.getD x.1.toNat 0∧W.getD x.1.toNat 0<m):
  ACalls Tryz.prog 317 (AG x::[.ptr bW 0,.ptr bI 0,.ptr bT 0]) ((bI,[.int .i64 i])::(bT,[.ae bt 0 m 1])::(bW,[.ae bw 0 n 1])::(bw,an W)::(bt,bN T)::σ) (aE (.bool (wT W T i x)) ((bI,[.int .i64 i])::(bT,[.ae bt 0 m 1])::(bW,[.ae bw 0 n 1])::(bw,an W)::(bt,bN T)::σ)):=by
 obtain⟨x1,x2,xu⟩:=x
 have h1:0≤x1∧x1<n:=h1
 have h2:0≤x2∧x2<n:=h2
 have hr:0≤W.getD x1.toNat 0∧W.getD x1.toNat 0<m:=hr
 refine az Tryz.func317 ?_
 intro bx
 refine .quiet (by kernel_rfl) ?_
 refine aa 3 ?_
 refine aa 0 ?_
 refine aM ?_
 refine aT 4 rfl (e9 rfl h2.1 (by omega)) ?_
 refine aa 1 ?_
 refine aq (fun c1=>?_) (fun c1=>?_)
 ·have c1:W.getD x2.toNat 0=i:=c1
  refine aa 3 ?_
  refine aa 0 ?_
  refine aM ?_
  refine aT 4 rfl (e9 rfl h1.1 (by omega)) ?_
  refine aa 1 ?_
  refine ew (fun c2=>?_) (fun c2=>?_)
  ·have c2:¬(W.getD x1.toNat 0=i):=by simpa using c2
   refine aa 2 ?_
   refine aa 3 ?_
   refine aa 0 ?_
   refine aM ?_
   have hL:∀b,T.getD (W.getD x1.toNat 0).toNat false=b→wT W T i (x1,x2,xu) = !b:=fun b hb=>by
    unfold wT
    rw[bu (show W.getD x2.toNat 0=i from c1),bu (show W.getD x1.toNat 0≠i from c2)]
    show (true&&true&&!T.getD (W.getD x1.toNat 0).toNat false)=_
    rw[hb];rfl
   refine aT 4 rfl (e9 rfl h1.1 (by omega)) ?_
   refine aM ?_
   refine fE.kD 5 _ _ rfl (sT rfl hr.1 (by omega)) (fun c3=>?_) (fun c3=>?_)
   ·exact .drop 0 1 (.done ⟨dc (hL true c3).symm,rfl⟩)
   ·exact .drop 0 1 (.done ⟨dc (hL false c3).symm,rfl⟩)
  ·have c2:W.getD x1.toNat 0=i:=by simpa using c2
   refine .drop 0 1 (.done ⟨dc ?_,rfl⟩)
   unfold wT
   rw[bZ (show ¬(W.getD x1.toNat 0≠i) from fun h=>h c2),I6];rfl
 ·have c1:¬(W.getD x2.toNat 0=i):=c1
  refine .drop 0 1 (.done ⟨dc ?_,rfl⟩)
  unfold wT
  rw[bZ (show ¬(W.getD x2.toNat 0=i) from c1)];rfl
theorem Va(bW bw bl bT bt n m:Nat)(l:List bE)(W:List Int)(T:List Bool)(i:Int)(σ:Hp)(hl:l.length≤100000)(hi:0≤i∧i<m)(hr:∀e∈l,(0≤e.1∧e.1<(n:Int))∧0≤e.2.1∧e.2.1<(n:Int))(hW:W.length=n)(hT:T.length=m)(hw:∀k:Nat,k<n→0≤W.getD k 0∧W.getD k 0<m):
  ACalls Tryz.prog 316 [.int .i64 i,.ptr bT 0,.ptr bl 0,.ptr bW 0] ((bT,[.ae bt 0 m 1])::(bW,[.ae bw 0 n 1])::(bw,an W)::(bt,bN T)::(bl,[.af dB l])::σ) (aE (.bool (nr l W T i)) ((bT,[.ae bt 0 m 1])::(bW,[.ae bw 0 n 1])::(bw,an W)::(bt,bN T)::(bl,[.af dB l])::σ)):=by
 have hF:∀b,T.getD i.toNat false=b→nr l W T i=(!b&&!l.any (wT W T i)):=fun b hb=>by unfold nr;rw[hb];rfl
 refine az Tryz.func316 ?_
 intro bI
 refine aa 1 ?_
 refine aa 0 ?_
 refine aM ?_
 refine fE.kD 4 _ _ rfl (sT rfl hi.1 (by omega)) (fun c1=>?_) (fun c1=>?_)
 ·exact .drop 0 1 (.done ⟨dc (hF true c1).symm,rfl⟩)
 ·refine aa 5 ?_
  have hg:∀(k:Nat) (hk:k<l.length),ACalls Tryz.prog 317 (AG l[k]::[.ptr bW 0,.ptr bI 0,.ptr bT 0]) ((bI,[.int .i64 i])::(bT,[.ae bt 0 m 1])::(bW,[.ae bw 0 n 1])::(bw,an W)::(bt,bN T)::(bl,[.af dB l])::σ) (aE (.bool (wT W T i l[k])) ((bI,[.int .i64 i])::(bT,[.ae bt 0 m 1])::(bW,[.ae bw 0 n 1])::(bw,an W)::(bt,bN T)::(bl,[.af dB l])::σ)):=fun k hk=>by
   obtain⟨h1,h2⟩:=hr _ (cj hk)
   exact aeA bW bw bI bT bt n m W T i l[k] _ h1 h2 hW hT (hw _ (by omega))
  refine ay [] (Pq 317 _ l (wT W T i) _ (fx hl (by decide)) hg) ?_
  exact .drop 0 1 (.done ⟨dc (hF false c1).symm,rfl⟩)
theorem x9:∀n:Nat,cM [.int .i64 0] n=an (List.replicate n 0)
 | 0=>rfl
 |n+1=>by
  show [AV.int .i64 0]++cM [.int .i64 0] n=_
  rw[x9 n];rfl
theorem Ss(n:Nat)(l:List bE)(P:List (List Int))(σ:Hp)(h:oI n l P)(hl:l.length≤100000)(hn:n≤1000)(hr:∀e∈l,(0≤e.1∧e.1<(n:Int))∧0≤e.2.1∧e.2.1<(n:Int)):
  ACalls Tryz.prog 291 [.int .i64 n,.af dB l,.af (.slice (.int .i64)) P] σ (aE (.af (.slice (.int .i64)) (kl n l)) σ):=by
 obtain⟨sy,hpf⟩:=B8 h.ok
 have hNt:((n:Nat):Int).toNat=n:=bM n
 refine az Tryz.func291 ?_
 intro bl
 refine aZ ?_
 intro bw
 intro bW
 refine ai 0 ?_
 refine cc (S:=Nat) (fun k=>[(2,.af (.slice (.int .i64)) P),(4,.ptr bl 0),(7,.ptr bW 0),(20,.af (.slice (.int .i64)) P),(21,.int .i64 P.length),(22,.int .i64 k)]) (fun k=>(bW,[.ae bw 0 n 1])::(bw,an (mK P k (List.replicate n 0)))::(bl,[.af dB l])::σ) (fun k=>k≤P.length) (fun k=>P.length-k) 0 ⟨bD _,⟨rfl,rfl,rfl,rfl,rfl,rfl,trivial⟩,by rw[show an (mK P 0 (List.replicate n 0))=cM [.int .i64 0] n from (x9 n).symm];rfl⟩ ?_
 intro k g aP
 have hk:k≤P.length:=aP
 clear aP
 refine aq (p:=(k:Int)<P.length) (fun ab=>?_) (fun au=>?_)
 ·have ab:k<P.length:=by omega
  obtain⟨p,hp⟩:∃p,P[k]=p:=⟨_,rfl⟩
  have eV:P[k]?=some p:=(bF ab).trans (congrArg some hp)
  have sx:=h.ok.node p (cq eV)
  have afT:p.length≤n:=Ca n p ((h.ok.A7 p (cq eV)).imp fun h=>by omega) sx
  have rE:=BU P k (List.replicate n 0)
  rw[fZ]at rE
  have sq:mK P (k+1) (List.replicate n 0)=lp k p (mK P k (List.replicate n 0)):=by show lp k (P.getD k []) _=_;rw[uv eV]
  generalize mK P k (List.replicate n 0)=W at rE sq
  refine aI.mk rfl (bL.mk p (by omega) (show P[((k:Nat):Int).toNat]?=some p by rw[bM];exact eV) ?_)
  refine cc (S:=Nat) (fun j=>[(2,.af (.slice (.int .i64)) P),(4,.ptr bl 0),(7,.ptr bW 0),(8,.int .i64 k),(20,.af (.slice (.int .i64)) P),(21,.int .i64 P.length),(22,.int .i64 k),(27,.af (.int .i64) p),(28,.int .i64 p.length),(29,.int .i64 j)]) (fun j=>(bW,[.ae bw 0 n 1])::(bw,an (lp k (p.take j) W))::(bl,[.af dB l])::σ) (fun j=>j≤p.length) (fun j=>p.length-j) 0 ⟨bD _,⟨rfl,rfl,rfl,rfl,rfl,rfl,rfl,rfl,rfl,rfl,trivial⟩,rfl⟩ ?_
  intro j g2 xw
  have hj:j≤p.length:=xw
  clear xw
  refine aq (p:=(j:Int)<p.length) (fun dy=>?_) (fun ji=>?_)
  ·have dy:j<p.length:=by omega
   obtain⟨a,ha⟩:∃a,p[j]=a:=⟨_,rfl⟩
   have sD:=sx a (ha▸cj dy)
   have ao:(lp k (p.take j) W).set a.toNat k=lp k (p.take (j+1)) W:=by unfold lp;rw[fL dy,ha,tV];rfl
   have vC:=Fz k (p.take j) W
   refine aI.mk rfl (bL.mk a (by omega) ((get_some dy).trans (congrArg some ha)) ?_)
   refine aa 0 ?_
   refine aM ?_
   refine da 1 rfl (nk rfl _ sD.1 (by omega)) ?_
   exact bj (j+1) (by show p.length-(j+1)<p.length-j;omega) dy ⟨rfl,rfl,rfl,rfl,rfl,rfl,rfl,rfl,rfl,aY (by omega),trivial⟩ (aJ (by rw[← ao];rfl))
  ·have ji:j=p.length:=by omega
   subst ji
   exact bj (k+1) (by show P.length-(k+1)<P.length-k;omega) ab ⟨rfl,rfl,rfl,rfl,rfl,aY (by omega),trivial⟩ (aJ (by rw[gn,sq]))
 ·have au:k=P.length:=by omega
  subst au
  have NV:∀j:Nat,j<n→0≤(bC n P).getD j 0∧(bC n P).getD j 0<(P.length:Int):=fun j hj=>by
   obtain⟨i,p,hi,_,hw⟩:=h.idx (x:=(j:Int)) (by omega)
   rw[bM]at hw
   have:=xZ hi
   rw[hw];omega
  have rE:=Pu n P
  have DM:=fun k hk=>(GH h hr k hk)
  have xf:=LD h hr
  have aS:∀(i:Nat) (p:List Int),P[i]?=some p→p[((0:Int)).toNat]?=some (iC P i):=fun i p hi=>by
   unfold iC
   rw[uv hi]
   exact S7 (mW.2 (h.ok.ne p (cq hi)))
  rw[show mK P P.length (List.replicate n 0)=bC n P from rfl]
  refine aI.mk ⟨by omega,by omega,by show ((P.length:Nat):Int)≤1048576;omega,by decide⟩ ?_
  intro bt
  intro bT
  refine ai 0 ?_
  obtain⟨m,hm⟩:∃m,P.length=m:=⟨_,rfl⟩
  refine .wrap 14 _ rfl rfl ?_
  refine .dI (.pull [0,2,3,3] (.refl _)) ?_
  refine cc (S:=Nat×AV×Hp) (fun x=>[(2,.af (.slice (.int .i64)) P),(12,.ptr bT 0),(13,.fn (.func 316) [] [.ptr bT 0,.ptr bl 0,.ptr bW 0]),(14,.via x.2.1),(44,.int .i64 P.length),(45,.int .i64 x.1)]) (fun x=>(bT,[.ae bt 0 P.length 1])::(bW,[.ae bw 0 n 1])::(bw,an (bC n P))::(bt,bN (dD P l (bC n P) x.1).1)::(bl,[.af dB l])::(x.2.2++σ)) (fun x=>x.1≤P.length∧Acc 1 x.1 x.2.1 x.2.2 (cC (dD P l (bC n P) x.1).2)) (fun x=>P.length-x.1) (0,.aj,[]) ⟨⟨bD _,.nil⟩,⟨rfl,rfl,rfl,rfl,rfl,rfl,trivial⟩,by rw[show bN (dD P l (bC n P) 0).1=cM [.bool false] P.length from (CC P.length).symm];rfl⟩ ?_
  rintro⟨k,v,acc⟩ g2 ⟨aP,gT⟩
  have hk:k≤P.length:=aP
  have b9:Acc 1 k v acc (cC (dD P l (bC n P) k).2):=gT
  clear aP gT
  refine aq (p:=(k:Int)<P.length) (fun ab=>?_) (fun au=>?_)
  ·have ab:k<P.length:=by omega
   obtain⟨hO,yD,_⟩:=DM k hk
   obtain⟨b,hb,oQ⟩:=yD ab
   have EG:=hO.tl
   have fv:(dD P l (bC n P) (k+1)).1=(dD P l (bC n P) k).1.set b true:=by
    show (dD P l (bC n P) k).1.set (fj P l (bC n P) (dD P l (bC n P) k).1 P.length).toNat true=_
    rw[hb,bM]
   have hG:(dD P l (bC n P) (k+1)).2=(dD P l (bC n P) k).2++[P.getD b []]:=by
    show (dD P l (bC n P) k).2++[P.getD (fj P l (bC n P) (dD P l (bC n P) k).1 P.length).toNat []]=_
    rw[hb,bM]
   generalize (dD P l (bC n P) k).1=T at hb EG fv
   generalize (dD P l (bC n P) k).2=out at b9 hG
   clear hO yD
   have MN:=FK P l (bC n P) T
   refine cc (S:=Nat) (fun i=>[(2,.af (.slice (.int .i64)) P),(12,.ptr bT 0),(13,.fn (.func 316) [] [.ptr bT 0,.ptr bl 0,.ptr bW 0]),(14,.via v),(15,.int .i64 (fj P l (bC n P) T i)),(44,.int .i64 P.length),(45,.int .i64 k),(47,.af (.slice (.int .i64)) P),(48,.int .i64 P.length),(49,.int .i64 i)]) (fun _=>(bT,[.ae bt 0 P.length 1])::(bW,[.ae bw 0 n 1])::(bw,an (bC n P))::(bt,bN T)::(bl,[.af dB l])::(acc++σ)) (fun i=>i≤P.length) (fun i=>P.length-i) 0 ⟨bD _,⟨rfl,rfl,rfl,rfl,rfl,rfl,rfl,rfl,rfl,rfl,trivial⟩,rfl⟩ ?_
   intro i g3 gk
   have hi:i≤P.length:=gk
   clear gk
   refine aq (p:=(i:Int)<P.length) (fun dy=>?_) (fun ji=>?_)
   ·have dy:i<P.length:=by omega
    obtain⟨p,hp⟩:∃p,P[i]=p:=⟨_,rfl⟩
    have eV:P[i]?=some p:=(bF dy).trans (congrArg some hp)
    have vN:=fun ρ=>Va bW bw bl bT bt n P.length l (bC n P) T i ρ hl (by omega) hr rE EG NV
    have eE:fj P l (bC n P) T (i+1)=if nr l (bC n P) T i=true∧(fj P l (bC n P) T i<0∨iC P i<iC P (fj P l (bC n P) T i).toNat) then (i:Int) else fj P l (bC n P) T i:=rfl
    have EE:=MN i
    refine aI.mk rfl (bL.mk p (by omega) (show P[((i:Nat):Int).toNat]?=some p by rw[bM];exact eV) ?_)
    cases hf:nr l (bC n P) T i with
    |false=>
     rw[hf]at vN eE
     rw[ag (fun h=>by cases h.1)]at eE
     refine .quiet (by kernel_rfl) ?_
     refine aL [] (vN _) ?_
     exact bj (i+1) (by show P.length-(i+1)<P.length-i;omega) dy ⟨rfl,rfl,rfl,rfl,by rw[eE];rfl,rfl,rfl,rfl,rfl,aY (by omega),trivial⟩ (.refl _)
    |true=>
     rw[hf]at vN eE
     refine .quiet (by kernel_rfl) ?_
     refine aL [] (vN _) ?_
     refine aq (p:=fj P l (bC n P) T i<0) (fun c1=>?_) (fun c1=>?_)
     ·rw[ah ⟨rfl,.inl c1⟩]at eE
      exact bj (i+1) (by show P.length-(i+1)<P.length-i;omega) dy ⟨rfl,rfl,rfl,rfl,by rw[eE];rfl,rfl,rfl,rfl,rfl,aY (by omega),trivial⟩ (.refl _)
     ·obtain⟨b2,e2,l2,_⟩:=EE.resolve_left fun h=>c1 (by rw[h.1];decide)
      obtain⟨p2,dA⟩:∃p,P[b2]?=some p:=⟨P[b2],bF (by omega)⟩
      have Vt:P[(fj P l (bC n P) T i).toNat]?=some p2:=by rw[e2,bM];exact dA
      have IX:0≤fj P l (bC n P) T i:=by omega
      rw[e2,bM,← e2]at eE
      refine aI.mk rfl ?_
      refine bL.mk (iC P i) (by decide) (aS i p eV) ?_
      refine aI.mk rfl ?_
      refine bL.mk p2 IX Vt ?_
      refine aI.mk rfl ?_
      refine bL.mk (iC P b2) (by decide) (aS b2 p2 dA) ?_
      refine aq (p:=iC P i<iC P b2) (fun c2=>?_) (fun c2=>?_)
      ·rw[ah ⟨rfl,.inr c2⟩]at eE
       exact bj (i+1) (by show P.length-(i+1)<P.length-i;omega) dy ⟨rfl,rfl,rfl,rfl,by rw[eE];rfl,rfl,rfl,rfl,rfl,aY (by omega),trivial⟩ (.refl _)
      ·rw[ag (fun h=>h.2.elim c1 c2)]at eE
       exact bj (i+1) (by show P.length-(i+1)<P.length-i;omega) dy ⟨rfl,rfl,rfl,rfl,by rw[eE];rfl,rfl,rfl,rfl,rfl,aY (by omega),trivial⟩ (.refl _)
   ·have ji:i=P.length:=by omega
    subst ji
    refine aa 0 ?_
    refine aM ?_
    refine da 3 rfl (x7 rfl true (by omega) (by omega)) ?_
    refine aI.mk rfl ?_
    obtain⟨pb,qy⟩:∃p,P[b]?=some p:=⟨P[b],bF oQ⟩
    have afU:P[(fj P l (bC n P) T P.length).toNat]?=some pb:=by rw[hb,bM];exact qy
    rw[uv qy]at hG
    refine bL.mk pb (by omega) afU ?_
    intro bs
    refine ic [_,_,_,_,_,_] b9 (.ae 0 bs 0 1 _ rfl (cD rfl)) rfl (by omega) (by decide) (by decide) (fun v' aU h'=>?_)
    refine bj (k+1,v',aU) (by show P.length-(k+1)<P.length-k;omega) ⟨ab,?_⟩ ⟨rfl,rfl,rfl,rfl,rfl,aY (by omega),trivial⟩ (.drop 0 1 (aJ (by rw[fv,hb,bM];rfl)))
    show Acc 1 (k+1) v' aU (cC (dD P l (bC n P) (k+1)).2)
    rw[hG,show cC (out++[pb])=cC out++[.af (.int .i64) pb] from cO];exact h'
  ·have au:k=P.length:=by omega
   subst au
   rw[xf]at b9
   have nO:=(DM P.length (a8 _)).1.ol
   rw[xf]at nO
   exact qU (s:=.slice (.int .i64)) [_,_,_,_,_] b9 nO.symm (wC _) (by decide) (.drop 0 5 (.done ⟨rfl,rfl⟩))
theorem ad8(n:Nat)(l:List bE)(σ:Hp)(hl:l.length≤100000)(dT:fq n l=true):ACalls Tryz.prog 258 [.int .i64 n,.af dB l] σ (fun r σ'=>r=.tup [.af (.slice (.int .i64)) (kl n l),.int .i64 0]∧σ'=σ∧∃P,oI n l P):=by
 have hn:1≤n∧n≤256:=by
  unfold fq at dT
  simp only[bR,decide_eq_true_eq]at dT
  omega
 have Bo:∀e∈l,(0≤e.1∧e.1<(n:Int))∧0≤e.2.1∧e.2.1<(n:Int):=fun e he=>by
  unfold fq at dT
  simp only[bR,fy]at dT
  have:=dT.2 e he
  exact⟨kP.1 this.1,kP.1 this.2⟩
 refine az Tryz.func258 ?_
 refine eK [] (C2 n l _ (by omega)) (fun _=>?_) (fun c=>absurd c (by rw[dT];decide))
 refine gz.Hz (S:=Nat×Nat×Nat×Nat) [] (.one 0 false (.one 2 false (.one 4 false (.alt 1 (.alt 3 (.alt 5 (.one 6 false (.one 7 false (.one 8 false .stop))) (.one 7 false (.one 5 false (.one 6 false (.one 8 false .stop))))) (.alt 5 (.alt 3 (.one 6 false (.one 7 false (.one 8 false .stop))) (.one 7 false (.one 3 false (.one 6 false (.one 8 false .stop))))) (.one 7 false (.alt 3 (.one 5 false (.one 6 false (.one 8 false .stop))) (.one 5 false (.one 3 false (.one 6 false (.one 8 false .stop)))))))) (.alt 3 (.alt 1 (.alt 5 (.one 6 false (.one 7 false (.one 8 false .stop))) (.one 7 false (.one 5 false (.one 6 false (.one 8 false .stop))))) (.alt 5 (.alt 1 (.one 6 false (.one 7 false (.one 8 false .stop))) (.one 7 false (.one 1 false (.one 6 false (.one 8 false .stop))))) (.one 7 false (.alt 1 (.one 5 false (.one 6 false (.one 8 false .stop))) (.one 5 false (.one 1 false (.one 6 false (.one 8 false .stop)))))))) (.alt 5 (.alt 1 (.alt 3 (.one 6 false (.one 7 false (.one 8 false .stop))) (.one 7 false (.one 3 false (.one 6 false (.one 8 false .stop))))) (.alt 3 (.alt 1 (.one 6 false (.one 7 false (.one 8 false .stop))) (.one 7 false (.one 1 false (.one 6 false (.one 8 false .stop))))) (.one 7 false (.alt 1 (.one 3 false (.one 6 false (.one 8 false .stop))) (.one 3 false (.one 1 false (.one 6 false (.one 8 false .stop)))))))) (.one 7 false (.alt 1 (.alt 3 (.one 5 false (.one 6 false (.one 8 false .stop))) (.one 5 false (.one 3 false (.one 6 false (.one 8 false .stop))))) (.alt 3 (.alt 1 (.one 5 false (.one 6 false (.one 8 false .stop))) (.one 5 false (.one 1 false (.one 6 false (.one 8 false .stop))))) (.one 5 false (.alt 1 (.one 3 false (.one 6 false (.one 8 false .stop))) (.one 3 false (.one 1 false (.one 6 false (.one 8 false .stop))))))))))))))) (fun x=>[(0,.int .i64 n),(1,.af dB l),(6,.ptr x.1 0)]) (fun x=>(x.1,[.aj,.ae x.2.1 0 n 1,.ae x.2.2.1 0 n 1,.ae x.2.2.2 0 n 1,.aj,.int .i64 0,.aj])::(x.2.1,cM [.int .i64 0] n)::(x.2.2.1,cM [.int .i64 0] n)::(x.2.2.2,cM [.bool false] n)::σ) (by kernel_rfl) ?_ ?_
 ·refine And.intro ?_ ?_
  ·refine aZ ?_
   intro bi
   refine And.intro ?_ ?_
   ·refine aZ ?_
    intro bl
    refine And.intro ?_ ?_
    ·refine aZ ?_
     intro bo
     intro w
     refine ai 0 ?_
     exact cS.mk (w,bi,bl,bo) ⟨rfl,rfl,rfl,trivial⟩ (.pull [3,3,2,1] (aJ rfl))
    ·intro w
     refine aZ ?_
     intro bo
     refine ai 1 ?_
     exact cS.mk (w,bi,bl,bo) ⟨rfl,rfl,rfl,trivial⟩ (.pull [3,3,2,0] (aJ rfl))
   ·refine And.intro ?_ ?_
    ·refine aZ ?_
     intro bo
     refine And.intro ?_ ?_
     ·refine aZ ?_
      intro bl
      intro w
      refine ai 0 ?_
      exact cS.mk (w,bi,bl,bo) ⟨rfl,rfl,rfl,trivial⟩ (.pull [3,3,2,2] (aJ rfl))
     ·intro w
      refine aZ ?_
      intro bl
      refine ai 1 ?_
      exact cS.mk (w,bi,bl,bo) ⟨rfl,rfl,rfl,trivial⟩ (.pull [3,3,1,2] (aJ rfl))
    ·intro w
     refine And.intro ?_ ?_
     ·refine aZ ?_
      intro bl
      refine aZ ?_
      intro bo
      refine ai 2 ?_
      exact cS.mk (w,bi,bl,bo) ⟨rfl,rfl,rfl,trivial⟩ (.pull [3,3,1,0] (aJ rfl))
     ·refine aZ ?_
      intro bo
      refine aZ ?_
      intro bl
      refine ai 2 ?_
      exact cS.mk (w,bi,bl,bo) ⟨rfl,rfl,rfl,trivial⟩ (.pull [3,3,1,1] (aJ rfl))
  ·refine And.intro ?_ ?_
   ·refine aZ ?_
    intro bl
    refine And.intro ?_ ?_
    ·refine aZ ?_
     intro bi
     refine And.intro ?_ ?_
     ·refine aZ ?_
      intro bo
      intro w
      refine ai 0 ?_
      exact cS.mk (w,bi,bl,bo) ⟨rfl,rfl,rfl,trivial⟩ (.pull [3,3,3,1] (aJ rfl))
     ·intro w
      refine aZ ?_
      intro bo
      refine ai 1 ?_
      exact cS.mk (w,bi,bl,bo) ⟨rfl,rfl,rfl,trivial⟩ (.pull [3,3,3,0] (aJ rfl))
    ·refine And.intro ?_ ?_
     ·refine aZ ?_
      intro bo
      refine And.intro ?_ ?_
      ·refine aZ ?_
       intro bi
       intro w
       refine ai 0 ?_
       exact cS.mk (w,bi,bl,bo) ⟨rfl,rfl,rfl,trivial⟩ (.pull [3,3,3,2] (aJ rfl))
      ·intro w
       refine aZ ?_
       intro bi
       refine ai 1 ?_
       exact cS.mk (w,bi,bl,bo) ⟨rfl,rfl,rfl,trivial⟩ (.pull [3,2,3,2] (aJ rfl))
     ·intro w
      refine And.intro ?_ ?_
      ·refine aZ ?_
       intro bi
       refine aZ ?_
       intro bo
       refine ai 2 ?_
       exact cS.mk (w,bi,bl,bo) ⟨rfl,rfl,rfl,trivial⟩ (.pull [3,2,3,0] (aJ rfl))
      ·refine aZ ?_
       intro bo
       refine aZ ?_
       intro bi
       refine ai 2 ?_
       exact cS.mk (w,bi,bl,bo) ⟨rfl,rfl,rfl,trivial⟩ (.pull [3,2,3,1] (aJ rfl))
   ·refine And.intro ?_ ?_
    ·refine aZ ?_
     intro bo
     refine And.intro ?_ ?_
     ·refine aZ ?_
      intro bi
      refine And.intro ?_ ?_
      ·refine aZ ?_
       intro bl
       intro w
       refine ai 0 ?_
       exact cS.mk (w,bi,bl,bo) ⟨rfl,rfl,rfl,trivial⟩ (.pull [3,3,2,3] (aJ rfl))
      ·intro w
       refine aZ ?_
       intro bl
       refine ai 1 ?_
       exact cS.mk (w,bi,bl,bo) ⟨rfl,rfl,rfl,trivial⟩ (.pull [3,3,1,3] (aJ rfl))
     ·refine And.intro ?_ ?_
      ·refine aZ ?_
       intro bl
       refine And.intro ?_ ?_
       ·refine aZ ?_
        intro bi
        intro w
        refine ai 0 ?_
        exact cS.mk (w,bi,bl,bo) ⟨rfl,rfl,rfl,trivial⟩ (.pull [3,3,3,3] (aJ rfl))
       ·intro w
        refine aZ ?_
        intro bi
        refine ai 1 ?_
        exact cS.mk (w,bi,bl,bo) ⟨rfl,rfl,rfl,trivial⟩ (.pull [3,2,3,3] (aJ rfl))
      ·intro w
       refine And.intro ?_ ?_
       ·refine aZ ?_
        intro bi
        refine aZ ?_
        intro bl
        refine ai 2 ?_
        exact cS.mk (w,bi,bl,bo) ⟨rfl,rfl,rfl,trivial⟩ (.pull [3,2,1,3] (aJ rfl))
       ·refine aZ ?_
        intro bl
        refine aZ ?_
        intro bi
        refine ai 2 ?_
        exact cS.mk (w,bi,bl,bo) ⟨rfl,rfl,rfl,trivial⟩ (.pull [3,2,2,3] (aJ rfl))
    ·intro w
     refine And.intro ?_ ?_
     ·refine aZ ?_
      intro bi
      refine And.intro ?_ ?_
      ·refine aZ ?_
       intro bl
       refine aZ ?_
       intro bo
       refine ai 3 ?_
       exact cS.mk (w,bi,bl,bo) ⟨rfl,rfl,rfl,trivial⟩ (.pull [3,2,1,0] (aJ rfl))
      ·refine aZ ?_
       intro bo
       refine aZ ?_
       intro bl
       refine ai 3 ?_
       exact cS.mk (w,bi,bl,bo) ⟨rfl,rfl,rfl,trivial⟩ (.pull [3,2,1,1] (aJ rfl))
     ·refine And.intro ?_ ?_
      ·refine aZ ?_
       intro bl
       refine And.intro ?_ ?_
       ·refine aZ ?_
        intro bi
        refine aZ ?_
        intro bo
        refine ai 3 ?_
        exact cS.mk (w,bi,bl,bo) ⟨rfl,rfl,rfl,trivial⟩ (.pull [3,2,2,0] (aJ rfl))
       ·refine aZ ?_
        intro bo
        refine aZ ?_
        intro bi
        refine ai 3 ?_
        exact cS.mk (w,bi,bl,bo) ⟨rfl,rfl,rfl,trivial⟩ (.pull [3,2,2,1] (aJ rfl))
      ·refine aZ ?_
       intro bo
       refine And.intro ?_ ?_
       ·refine aZ ?_
        intro bi
        refine aZ ?_
        intro bl
        refine ai 3 ?_
        exact cS.mk (w,bi,bl,bo) ⟨rfl,rfl,rfl,trivial⟩ (.pull [3,2,1,2] (aJ rfl))
       ·refine aZ ?_
        intro bl
        refine aZ ?_
        intro bi
        refine ai 3 ?_
        exact cS.mk (w,bi,bl,bo) ⟨rfl,rfl,rfl,trivial⟩ (.pull [3,2,2,2] (aJ rfl))
 rintro⟨w,bi,bl,bo⟩ g
 have cQ:∀(a:Nat) (σ:Hp),ACalls Tryz.prog 289 [.int .i64 n,.af dB l,.int .i64 a] σ (aE (.af (.int .i64) (ar n l a)) σ):=fun a σ=>AL n l a σ hl
 have mi:∀k,cC ((List.range (k+1)).map fun a:Nat=>ar n l a)=cC ((List.range k).map fun a:Nat=>ar n l a)++[.af (.int .i64) (ar n l k)]:=fun k=>by rw[sH,cO];exact cO
 have fR:∀k,(cC ((List.range k).map fun a:Nat=>ar n l a)).length=k:=fun k=>by rw[ud,cm,pN]
 refine cc (S:=Nat×AV×Hp) (fun x=>[(0,.int .i64 n),(1,.af dB l),(6,.ptr w 0),(20,.int .i64 n),(21,.int .i64 x.1)]) (fun x=>(w,[x.2.1,.ae bi 0 n 1,.ae bl 0 n 1,.ae bo 0 n 1,.aj,.int .i64 0,.aj])::(bi,cM [.int .i64 0] n)::(bl,cM [.int .i64 0] n)::(bo,cM [.bool false] n)::(x.2.2++σ)) (fun x=>x.1≤n∧(x.1<n→Acc 1 x.1 x.2.1 x.2.2 (cC ((List.range x.1).map fun a:Nat=>ar n l a)))∧(x.1=n→x.2.1=.af (.slice (.int .i64)) (bY n l)∧x.2.2=[])) (fun x=>n-x.1) (0,.aj,[]) ⟨⟨bD _,fun _=>.nil,fun h=>by have h:0=n:=h;omega⟩,⟨rfl,rfl,rfl,rfl,rfl,trivial⟩,rfl⟩ ?_
 rintro⟨k,v,acc⟩ g ⟨aP,gT,Dh⟩
 have hk:k≤n:=aP
 have b9:k<n→Acc 1 k v acc (cC ((List.range k).map fun a:Nat=>ar n l a)):=gT
 have lf:k=n→v=.af (.slice (.int .i64)) (bY n l)∧acc=[]:=Dh
 clear aP gT Dh
 refine aq (p:=(k:Int)<n) (fun ab=>?_) (fun au=>?_)
 ·have ab:k<n:=by omega
  have b9:=b9 ab
  clear lf
  have mj:(bY n l).length=n:=by unfold bY;rw[cm,pN]
  have Bl:∀k,k+1=n→((cC ((List.range k).map fun a:Nat=>ar n l a)++[AV.af (.int .i64) (ar n l k)]).drop 0).take ((k+1)*1)=(bY n l).flatMap (Sh.cells (.slice (.int .i64))):=fun k hk=>by
   rw[← mi,gM,eG (by rw[fR,dO];exact a8 _),hk]
   exact wC _
  refine .sched [5] (.one 0 false (.one 2 false (.one 3 false (.one 4 false (.one 5 true (.alt 1 (.one 6 false (.one 7 false (.one 8 false (.one 9 false .stop)))) (.one 6 false (.one 1 false (.one 7 false (.one 8 false (.one 9 false .stop))))))))))) (by kernel_rfl) ?_
  refine aL [] (AL n l _ _ hl) ?_
  refine And.intro ?_ ?_
  ·refine aa 0 ?_
   intro aG
   refine zI [_,_,_,_,_] b9.xm (.ae 0 aG 0 1 _ rfl (cD rfl)) rfl (by omega) (by decide) (by decide) (fun v' aU h'=>?_)
   obtain⟨b5,rfl,rfl⟩:=sU (by omega) h'
   refine ai 1 ?_
   by_cases jI:k+1=n
   ·refine .kz 5 b5 0 (k+1) 1 _ (.slice (.int .i64)) (bY n l) rfl (Bl k jI) ⟨(mj.trans jI.symm),rfl,by decide⟩ 1 0 w _ rfl rfl ?_
    exact bj (k+1,.af (.slice (.int .i64)) (bY n l),[]) (by show n-(k+1)<n-k;omega) ⟨ab,fun h=>absurd jI (by have h:k+1<n:=h;omega),fun _=>⟨rfl,rfl⟩⟩ ⟨rfl,rfl,rfl,rfl,aY (by omega),trivial⟩ (.drop 0 1 (aJ rfl))
   ·exact bj (k+1,.ae b5 0 (k+1) 1,[(b5,cC ((List.range k).map fun a:Nat=>ar n l a)++[.af (.int .i64) (ar n l k)])]) (by show n-(k+1)<n-k;omega) ⟨ab,fun _=>by show Acc 1 (k+1) _ _ (cC ((List.range (k+1)).map fun a:Nat=>ar n l a));rw[mi];exact h',fun h=>absurd h jI⟩ ⟨rfl,rfl,rfl,rfl,aY (by omega),trivial⟩ (.drop 0 1 (aJ rfl))
  ·intro dw
   refine aa 1 ?_
   refine zI [_,_,_,_,_] b9.xm (.ae 0 dw 0 1 _ rfl (cD rfl)) rfl (by omega) (by decide) (by decide) (fun v' aU h'=>?_)
   obtain⟨b5,rfl,rfl⟩:=sU (by omega) h'
   refine ai 1 ?_
   by_cases jI:k+1=n
   ·refine .kz 5 b5 0 (k+1) 1 _ (.slice (.int .i64)) (bY n l) rfl (Bl k jI) ⟨(mj.trans jI.symm),rfl,by decide⟩ 1 0 w _ rfl rfl ?_
    exact bj (k+1,.af (.slice (.int .i64)) (bY n l),[]) (by show n-(k+1)<n-k;omega) ⟨ab,fun h=>absurd jI (by have h:k+1<n:=h;omega),fun _=>⟨rfl,rfl⟩⟩ ⟨rfl,rfl,rfl,rfl,aY (by omega),trivial⟩ (.drop 0 1 (aJ rfl))
   ·exact bj (k+1,.ae b5 0 (k+1) 1,[(b5,cC ((List.range k).map fun a:Nat=>ar n l a)++[.af (.int .i64) (ar n l k)])]) (by show n-(k+1)<n-k;omega) ⟨ab,fun _=>by show Acc 1 (k+1) _ _ (cC ((List.range (k+1)).map fun a:Nat=>ar n l a));rw[mi];exact h',fun h=>absurd h jI⟩ ⟨rfl,rfl,rfl,rfl,aY (by omega),trivial⟩ (.drop 0 1 (aJ rfl))
 ·have au:k=n:=by omega
  obtain⟨rfl,rfl⟩:=lf au
  clear b9 lf
  refine cc (S:=Nat×(List Int×List Int×List Bool×Nat×List (List Int))×(AV×Hp×AV×Hp)) (fun x=>[(0,.int .i64 n),(1,.af dB l),(6,.ptr w 0),(34,.int .i64 n),(35,.int .i64 x.1)]) (fun x=>(w,df (bY n l) bi bl bo n x.2.2.1 x.2.1.2.2.2.1 x.2.2.2.2.1)::(bi,an x.2.1.1)::(bl,an x.2.1.2.1)::(bo,bN x.2.1.2.2.1)::(x.2.2.2.1++(x.2.2.2.2.2++σ))) (fun x=>x.1≤n∧FI n (ar n l) x.2.1.1 x.2.1.2.1 x.2.1.2.2.1 [] x.2.1.2.2.2.1 x.2.1.2.2.2.2 []∧iG 1 0 x.2.2.1 x.2.2.2.1 []∧Acc 1 x.2.1.2.2.2.2.length x.2.2.2.2.1 x.2.2.2.2.2 (cC x.2.1.2.2.2.2)∧∀b:Nat,b<x.1→x.2.1.1.getD b 0≠0) (fun x=>n-x.1) (0,(List.replicate n 0,List.replicate n 0,List.replicate n false,0,[]),(.aj,[],.aj,[])) ⟨⟨bD _,.start n (ar n l),.nil,.nil,fun _ h=>absurd h (nR _)⟩,⟨rfl,rfl,rfl,rfl,rfl,trivial⟩,by rw[x9,CC];rfl⟩ ?_
  clear au
  rintro⟨k,⟨ix,lo,on,aH,P⟩,⟨vs,lN,vp,eM⟩⟩ g2 ⟨aP,sF,nJ,tI,ru⟩
  have hk:k≤n:=aP
  have hF:FI n (ar n l) ix lo on [] aH P []:=sF
  have hs:iG 1 0 vs lN []:=nJ
  have hp:Acc 1 P.length vp eM (cC P):=tI
  have hv:∀b:Nat,b<k→ix.getD b 0≠0:=ru
  clear aP sF nJ tI ru
  have Ez:((k:Nat):Int).toNat=k:=bM k
  refine aq (p:=(k:Int)<n) (fun ab=>?_) (fun au=>?_)
  ·have ab:k<n:=by omega
   refine aa 0 ?_
   refine aM ?_
   refine aT 1 rfl (e9 rfl (by omega) (by rw[hF.li];omega)) ?_
   refine aq (p:=ix.getD ((k:Nat):Int).toNat 0=0) (fun c1=>?_) (fun c1=>?_)
   ·refine .mk [] _ (afs n w bi bl bo l ix lo on aH P vs vp lN eM k σ (by omega) hF (by omega) c1 hs hp) ?_
    rintro _ _ ⟨rfl,Nc,Nb,M9,MY,P2,Ix,Mn,M5,Mo,N7,hG,dA,sE,tK,rfl⟩
    rw[Ez]at sE
    refine bj (k+1,(Nc,Nb,M9,MY,P2),(Ix,Mn,M5,Mo)) (by show n-(k+1)<n-k;omega) ⟨ab,N7,hG,dA,fun b hb=>?_⟩ ⟨rfl,rfl,rfl,rfl,aY (by omega),trivial⟩ (.refl _)
    have hb:b<k+1:=hb
    by_cases e:b=k
    ·subst e;exact sE
    ·exact tK b (hv b (by omega))
   ·rw[Ez]at c1
    refine bj (k+1,(ix,lo,on,aH,P),(vs,lN,vp,eM)) (by show n-(k+1)<n-k;omega) ⟨ab,hF,hs,hp,fun b hb=>?_⟩ ⟨rfl,rfl,rfl,rfl,aY (by omega),trivial⟩ (.refl _)
    have hb:b<k+1:=hb
    by_cases e:b=k
    ·subst e;exact c1
    ·exact hv b (by omega)
  ·have au:k=n:=by omega
   subst au
   have cH:oI k l P:=⟨hF.tj.prt,fun x h0 h1=>by
    have h2:=hv x.toNat (by omega)
    have h3:=(hF.tj.xl x h0 h1).1 (by rw[l8 h0];exact h2)
    exact h3.resolve_left (by simp)⟩
   have EM:=B8 hF.tj.prt
   refine aa 0 ?_
   obtain⟨x,hx,_⟩:=cH.all 0 (by omega) (by omega)
   have tQ:=E9 hx
   obtain⟨b5,rfl,rfl⟩:=sU tQ hp
   rcases hs.zero with ⟨rfl,rfl⟩ | ⟨bs,J,rfl,rfl⟩
   ·skip
    refine .cJ (args':=[.int .i64 k,.af dB l,.af (.slice (.int .i64)) P]) 4 b5 0 P.length 1 _ (.slice (.int .i64)) P rfl (by rw[gM,eG (by rw[ud,dO];exact a8 _)];exact wC _) ⟨rfl,rfl,by decide⟩ (cE (.refl _) (cE (.refl _) (cE .here (.refl _)))) ?_
    refine ay [] (Ss k l P _ cH hl (by omega) Bo) ?_
    exact .drop 0 4 (.done ⟨rfl,rfl,P,cH⟩)
   ·skip
    refine .cJ (args':=[.int .i64 k,.af dB l,.af (.slice (.int .i64)) P]) 5 b5 0 P.length 1 _ (.slice (.int .i64)) P rfl (by rw[gM,eG (by rw[ud,dO];exact a8 _)];exact wC _) ⟨rfl,rfl,by decide⟩ (cE (.refl _) (cE (.refl _) (cE .here (.refl _)))) ?_
    refine ay [] (Ss k l P _ cH hl (by omega) Bo) ?_
    exact .drop 0 5 (.done ⟨rfl,rfl,P,cH⟩)
set_option maxHeartbeats 4000000
def fh(rw:List (Nat×List Int)):List AV:=rw.map fun r=>.ae r.1 0 r.2.length 1
def eP(rw:List (Nat×List Int)):Hp:=rw.map fun r=>(r.1,an r.2)
theorem Xm(rw:List (Nat×List Int)):(fh rw).length=rw.length:=cm _
def PO(P:List (List Int))(v:AV)(acc:Hp):Prop:=∃(ac:Hp) (rw:List (Nat×List Int)),acc=ac++eP rw∧Acc 1 rw.length v ac (fh rw)∧rw.map Prod.snd=P
theorem TB(w bi bl bo n:Nat)(N:List (List Int))(ix lo A B:List Int)(on:List Bool)(P:List (List Int))(aH:Nat)(vs vp:AV)(lN eM:Hp)(a:Int)(σ:Hp)(h0:0≤a)(hn:a<n)(hi:ix.length=n)(hl:lo.length=n)(ho:on.length=n)(he:lo.getD a.toNat 0=ix.getD a.toNat 0)(NU:a ∉ A)(hB:∀x∈a::B,0≤x∧x<n)(dg:(A++a::B).length≤10000)(sy:P.length≤10000)
  (hs:iG 1 (A++a::B).length vs lN (an (A++a::B))) (hp:PO P vp eM) :
  ACalls Tryz.prog 315 [.ptr w 0,.int .i64 a] ((w,df N bi bl bo n vs aH vp)::(bi,an ix)::(bl,an lo)::(bo,bN on)::(lN++(eM++σ)))
   (fun r σ'=>r=.tup []∧∃eC je gC gy,iG 1 A.length eC je (an A)∧PO (P++[fG (a::B)]) gC gy∧σ'=(w,df N bi bl bo n eC aH gC)::(bi,an ix)::(bl,an lo)::(bo,bN (eU (a::B) on))::(je++(gy++σ))):=by
 obtain⟨ac,rw,rfl,hp,mN⟩:=hp
 have sy:rw.length≤10000:=by rw[← mN,cm]at sy;exact sy
 rw[dQ]
 obtain⟨K,hK⟩:∃K,(A++a::B).length=K:=⟨_,rfl⟩
 obtain⟨L,hL⟩:∃L:List Int,a::B=L:=⟨_,rfl⟩
 obtain⟨q,hq⟩:∃q,L.length=q:=⟨_,rfl⟩
 have hKA:K=A.length+q:=by rw[← hK,bP,hL,hq]
 have hq0:0<q:=by rw[← hq,← hL,iy];omega
 rw[hK]at hs dg
 obtain⟨bs,J,rfl,rfl,N6⟩:=hs.pos (by omega)
 have iR:((an (A++a::B)++J).drop A.length).take (q*1)=an L:=by
  rw[hL]
  unfold an
  rw[cO,dQ,Ou (by rw[cm];exact a8 _),Jt (by rw[cm];exact a8 _),vQ,Jz (by rw[cm];omega),eG (by rw[cm];omega)]
 have er:A.length+q*1≤(an (A++a::B)++J).length:=by rw[bP,N6];omega
 refine az Tryz.func315 ?_
 refine .quiet (by kernel_rfl) ?_
 refine aa 0 ?_
 refine aM ?_
 refine aT 2 rfl (e9 rfl h0 (by omega)) ?_
 refine aa 0 ?_
 refine aM ?_
 refine aT 1 rfl (e9 rfl h0 (by omega)) ?_
 refine ew (fun c=>?_) (fun c=>?_)
 ·exact absurd he (by simpa using c)
 clear c
 refine aa 0 ?_
 refine ay [4] (TC bs K A B J a _ hK NU (by omega)) ?_
 refine aa 1 ?_
 refine aI.mk ⟨by omega,by omega,by omega,rfl⟩ ?_
 have hC:∀σ,ACalls Tryz.prog 220 [.ae bs (0+((A.length:Nat):Int).toNat*1) (((K:Nat):Int).toNat-((A.length:Nat):Int).toNat) 1] ((bs,an (A++a::B)++J)::σ) (fun x σ'=>∃b',x=.ae b' 0 q 1∧σ'=(b',an L)::(bs,an (A++a::B)++J)::σ):=fun σ=>by
  rw[show 0+((A.length:Nat):Int).toNat*1=A.length by omega,show ((K:Nat):Int).toNat-((A.length:Nat):Int).toNat=q by omega]
  exact TE bs A.length q _ _ σ iR er (by omega)
 refine .mk [0] _ (hC _) ?_
 rintro _ _ ⟨bp,rfl,rfl⟩
 refine aa 2 ?_
 refine aI.mk ⟨by omega,by omega,by omega,by omega,rfl⟩ ?_
 refine ai 2 ?_
 refine cc (S:=Nat) (fun i=>[(0,.ptr w 0),(5,.ae bp 0 q 1),(46,.ae bp 0 q 1),(47,.int .i64 q),(48,.int .i64 i)]) (fun i=>(bp,an L)::(bs,an (A++a::B)++J)::(w,df N bi bl bo n (.ae bs 0 A.length 1) aH vp)::(bi,an ix)::(bl,an lo)::(bo,bN (eU (L.take i) on))::(ac++(eP rw++σ))) (fun i=>i≤q) (fun i=>q-i) 0 ⟨bD _,⟨rfl,rfl,rfl,rfl,rfl,trivial⟩,rfl⟩ ?_
 rintro i g gk
 have hiq:i≤q:=gk
 clear gk
 refine aq (p:=(i:Int)<q) (fun ab=>?_) (fun au=>?_)
 ·have ab:i<L.length:=by omega
  obtain⟨x,hx⟩:∃x,L[i]=x:=⟨_,rfl⟩
  have Ei:=hB x (by rw[hL,← hx];exact cj ab)
  have nO:=Fv (L.take i) on
  have MG:(eU (L.take i) on).set x.toNat false=eU (L.take (i+1)) on:=by unfold eU;rw[fL ab,hx,tV];rfl
  have nL:ey ⟨.int .i64,1,8,[.int .i64 0]⟩ (an L) (0+((i:Nat):Int).toNat*1)=some (.int .i64 x):=by
   rw[e9 rfl (by omega) (by omega),bM,bg,bF ab,hx];rfl
  refine aM ?_
  refine aT 0 rfl nL ?_
  refine aa 2 ?_
  refine aM ?_
  refine da 5 rfl (x7 rfl false Ei.1 (by omega)) ?_
  exact bj (i+1) (by show q-(i+1)<q-i;omega) (by show i+1≤q;omega) ⟨rfl,rfl,rfl,rfl,aY (by omega),trivial⟩ (aJ (by rw[MG];rfl))
 ·have au:i=q:=by omega
  subst au
  refine ay [0] (LP bp L i _ hq (by omega)) ?_
  refine aa 2 ?_
  intro dw
  refine zI [_,_,_,_,_,_,_] hp.xm (.ae 0 dw 0 1 _ rfl (cD rfl)) rfl (by omega) (by decide) (by decide) (fun v' aU h'=>?_)
  obtain⟨b5,rfl,rfl⟩:=sU (by omega) h'
  refine ai 3 ?_
  have gj:((w,df N bi bl bo n (.ae bs 0 A.length 1) aH (.ae b5 0 (rw.length+1) 1))::(bi,an ix)::(bl,an lo)::(bo,bN (eU (L.take i) on))::(bs,an (A++a::B)++J)::([(b5,fh rw++[.ae bp 0 i 1])]++((eP rw++[(bp,an (fG L))])++σ))).Perm ((bp,an (fG L))::(bs,an (A++a::B)++J)::(w,df N bi bl bo n (.ae bs 0 A.length 1) aH (.ae b5 0 (rw.length+1) 1))::(bi,an ix)::(bl,an lo)::(bo,bN (eU (L.take i) on))::([(b5,fh rw++[.ae bp 0 i 1])]++(eP rw++σ))):=by
   have h1:∀(X:Hp) (x y:Nat×List AV),(X++(x::([(b5,fh rw++[.ae bp 0 i 1])]++((eP rw++[y])++σ)))).Perm (y::x::(X++([(b5,fh rw++[.ae bp 0 i 1])]++(eP rw++σ)))):=fun X x y=>by
    refine nS.trans ?_
    refine (List.Perm.cons x ?_).trans (List.Perm.swap _ _ _)
    rw[dQ]
    have h2:([(b5,fh rw++[AV.ae bp 0 i 1])]++(eP rw++([y]++σ))).Perm (y::([(b5,fh rw++[.ae bp 0 i 1])]++(eP rw++σ))):=by
     have h3:=nS (l₁:=[(b5,fh rw++[AV.ae bp 0 i 1])]++eP rw) (a:=y) (l₂:=σ)
     rw[dQ,dQ]at h3
     exact h3
    exact (List.Perm.append_left X h2).trans nS
   exact h1 [_,_,_,_] _ _
  refine .drop 0 1 (.perm gj (.done ⟨rfl,.ae bs 0 A.length 1,[(bs,an A++(an L++J))],.ae b5 0 (rw.length+1) 1,[(b5,fh rw++[.ae bp 0 i 1])]++eP (rw++[(bp,fG L)]),.ae bs A.length (an A) (an L++J) (by rw[jy,dO]),⟨_,rw++[(bp,fG L)],rfl,?_,?_⟩,?_⟩))
  ·rw[bP]
   have e:fh (rw++[(bp,fG L)])=fh rw++[.ae bp 0 i 1]:=by
    unfold fh
    rw[cO]
    show _++[AV.ae bp 0 (fG L).length 1]=_
    rw[zG,hq]
   rw[e]
   exact .ae b5 (rw.length+1) _ (by rw[bP,Xm,dO];rfl)
  ·rw[cO,mN];subst hL;rfl
  ·rw[eG (Bs hq)]
   subst hL
   have e1:an (A++a::B)++J=an A++(an (a::B)++J):=by unfold an;rw[cO,dQ]
   have e3:eP (rw++[(bp,fG (a::B))])=eP rw++[(bp,an (fG (a::B)))]:=cO
   rw[e1,e3]
   simp only[dQ,E0,vQ]
theorem aeF(n w bi bl bo:Nat)(l:List bE)(lP vA:List Int)(vu:List Bool)(dF:Nat)(P0:List (List Int))(tD fW:AV)(uP iD:Hp)(a:Int)(σ:Hp)(hn:n≤1000)(h:FI n (ar n l) lP vA vu [] dF P0 [])(ha:0≤a∧a<n)(hf:lP.getD a.toNat 0=0)(hs:iG 1 0 tD uP [])(hp:PO P0 fW iD):
  ACalls Tryz.prog 290 [.ptr w 0,.int .i64 a] ((w,df (bY n l) bi bl bo n tD dF fW)::(bi,an lP)::(bl,an vA)::(bo,bN vu)::(uP++(iD++σ)))
   (fun r σ'=>r=.tup []∧∃ix lo on aH P vs lN vp eM,FI n (ar n l) ix lo on [] aH P []∧iG 1 0 vs lN []∧PO P vp eM∧ix.getD a.toNat 0≠0∧(∀b:Nat,lP.getD b 0≠0→ix.getD b 0≠0)∧σ'=(w,df (bY n l) bi bl bo n vs aH vp)::(bi,an ix)::(bl,an lo)::(bo,bN on)::(lN++(eM++σ))):=by
 have hle:=h.Ao
 refine az Tryz.func290 ?_
 refine Pt (S:=FrS) rfl (fun _=>0)
  (fun x=>[(0,.ptr w 0),(4,.ae x.2.2.2.1 0 (x.2.2.1.1.length+1) 2)])
  (fun x=>(w,df (bY n l) bi bl bo n (.ae x.2.1.1 0 x.1.2.2.2.1.length 1) x.1.2.2.2.2.1 x.2.1.2.2.1)::(bi,an x.1.1)::(bl,an x.1.2.1)::(bo,bN x.1.2.2.1)::(x.2.1.1,an x.1.2.2.2.1++x.2.1.2.1)::(x.2.2.2.1,bK (x.2.2.1.1++[(x.2.2.1.2.1,x.2.2.1.2.2)])++x.2.2.2.2)::(x.2.1.2.2.2++σ))
  (fun x=>(FI n (ar n l) x.1.1 x.1.2.1 x.1.2.2.1 x.1.2.2.2.1 x.1.2.2.2.2.1 x.1.2.2.2.2.2 (x.2.2.1.1++[(x.2.2.1.2.1,x.2.2.1.2.2)])∧PO x.1.2.2.2.2.2 x.2.1.2.2.1 x.2.1.2.2.2)∧x.1.1.getD a.toNat 0≠0∧∀b:Nat,lP.getD b 0≠0→x.1.1.getD b 0≠0)
  (fun x=>jg (ar n l) (x.2.2.1.1++[(x.2.2.1.2.1,x.2.2.1.2.2)])+iE (ar n l) x.1.1 n) ?_ ?_
 ·rintro⟨⟨ix,lo,on,st,aH,P⟩,⟨bs,Js,vp,eM⟩,⟨wy,v,k⟩,⟨bw,J⟩⟩ g ⟨⟨sF,tQ⟩,lU,EN⟩
  have hF:FI n (ar n l) ix lo on st aH P (wy++[(v,k)]):=sF
  have hP:PO P vp eM:=tQ
  have hA:ix.getD a.toNat 0≠0:=lU
  have hM:∀b:Nat,lP.getD b 0≠0→ix.getD b 0≠0:=EN
  clear sF tQ lU EN
  have hle:=hF.Ao
  have bS:=hF.mem
  have dm:=hF.tj.node v bS
  have Bg:k≤(ar n l v).length:=hF.tn (v,k) (jJ _ (bB.2 rfl))
  have mj:=xW n l v
  have vC:wy.length+1≤st.length:=by
   have:=hF.tj.sub.length_le
   rw[cm,bP]at this
   exact this
  have nE:IntKind.i64.wrap (((wy.length+1:Nat):Int)-1)=((wy.length:Nat):Int):=by rw[cy (by omega)];omega
  have hX:0+(IntKind.i64.wrap (((wy.length+1:Nat):Int)-1)).toNat*2=wy.length*2:=by rw[nE];omega
  have mO:ey ⟨.int .i64,1,8,[.int .i64 0]⟩ (bK (wy++[(v,k)])++J) (0+(IntKind.i64.wrap (((wy.length+1:Nat):Int)-1)).toNat*2+0)=some (.int .i64 v):=jc rfl (by rw[hX];exact rJ rfl)
  have lR:ey ⟨.int .i64,1,8,[.int .i64 0]⟩ (bK (wy++[(v,k)])++J) (0+(IntKind.i64.wrap (((wy.length+1:Nat):Int)-1)).toNat*2+1)=some (.int .i64 k):=jc rfl (by rw[hX];exact B0 rfl)
  have er:(bK (wy++[(v,k)])++J).length=wy.length*2+2+J.length:=by rw[bP,my,bP];show (wy.length+1)*2+_=_;omega
  have mR:IntKind.i64.wrap ((k:Int)+1)=((k+1:Nat):Int):=by rw[cy (by omega)];omega
  have vD:kQ ⟨.int .i64,1,8,[.int .i64 0]⟩ (bK (wy++[(v,k)])++J) (0+(IntKind.i64.wrap (((wy.length+1:Nat):Int)-1)).toNat*2+1) (.int .i64 (IntKind.i64.wrap ((k:Int)+1)))=some (bK (wy++[(v,k+1)])++J):=by
   rw[uA rfl rfl (by rw[hX,er];omega),hX,mR,Cj rfl]
  have uL:2=2∧0≤IntKind.i64.wrap (((wy.length+1:Nat):Int)-1)∧IntKind.i64.wrap (((wy.length+1:Nat):Int)-1)<((wy.length+1:Nat):Int):=⟨rfl,by omega,by omega⟩
  refine aI.mk uL ?_
  refine .quiet (by kernel_rfl) ?_
  refine aT 5 rfl lR ?_
  refine aa 0 ?_
  refine aT 5 rfl mO ?_
  refine aI.mk rfl ?_
  refine bL.mk (ar n l v) (by omega) (pc dm) ?_
  refine aq (p:=(k:Int)<(ar n l v).length) (fun ab=>?_) (fun au=>?_)
  ·have ab:k<(ar n l v).length:=by omega
   obtain⟨b,hb⟩:∃b,(ar n l v)[k]=b:=⟨_,rfl⟩
   have sB:b∈ar n l v:=hb▸cj ab
   have dG:=(lD.1 sB).1
   refine .quiet (by kernel_rfl) ?_
   refine aa 0 ?_
   refine aT 5 rfl mO ?_
   refine aI.mk rfl ?_
   refine bL.mk (ar n l v) (by omega) (pc dm) ?_
   refine aT 5 rfl lR ?_
   refine aI.mk rfl ?_
   refine bL.mk b (by omega) ((get_some ab).trans (congrArg some hb)) ?_
   refine aT 5 rfl lR ?_
   refine da 5 rfl vD ?_
   refine aa 0 ?_
   refine aM ?_
   refine aT 1 rfl (e9 rfl dG.1 (by rw[hF.li];omega)) ?_
   refine aq (p:=ix.getD b.toNat 0=0) (fun c1=>?_) (fun c1=>?_)
   ·have hN:=hF.new ab hb dG c1
    have dY:(an st).length=st.length*1:=by rw[jy,dO]
    refine .mk [] _ (Ap w bi bl bo n (bY n l) ix lo st on aH _ vp _ b ((bw,bK (wy++[(v,k+1)])++J)::(eM++σ)) dG.1 dG.2 hF.li hF.ll hF.kE (.ae bs st.length (an st) Js dY) (by omega) (by omega)) ?_
    rintro _ _ ⟨rfl,A4,Ds,fv,rfl⟩
    obtain⟨l4,oW,rfl,rfl,_⟩:=fv.pos (by rw[bP];show 0<_+1;omega)
    intro aG
    have H0:(bK (wy++[(v,k+1)])).length=(wy.length+1)*2:=by rw[my,bP];rfl
    refine xT (k:=wy.length+1) (n:=1) [_,_,_,_,_,_] (.ae bw (wy.length+1) (bK (wy++[(v,k+1)])) J H0) (.ae 0 aG 0 1 _ rfl (cD rfl)) rfl (by omega) (by decide) (by decide) (fun v' aU h'=>?_)
    obtain⟨oV,J2,rfl,rfl,_⟩:=h'.pos (by omega)
    have NA:(wy++[(v,k+1)]).length+1=wy.length+1+1:=by rw[bP];rfl
    have vK:(b.toNat:Int)=b:=lZ dG.1
    have sw:=KC (nx:=ar n l) (ix:=ix) (b:=b.toNat) (v:=((aH+1:Nat):Int)) (by omega) c1 (by rw[hF.li];omega) n
    rw[ah (by omega),vK]at sw
    refine .mk ((ix.set b.toNat ((aH+1:Nat):Int),lo.set b.toNat ((aH+1:Nat):Int),on.set b.toNat true,st++[b],aH+1,P),(l4,oW,vp,eM),(wy++[(v,k+1)],b,0),(oV,J2)) rfl ?_ ⟨⟨hN,hP⟩,?_,?_⟩ ⟨rfl,by rw[NA];rfl,trivial⟩ (.drop 0 1 (aJ (by rw[oY (wy++[(v,k+1)])];rfl)))
    ·show jg (ar n l) ((wy++[(v,k+1)])++[(b,0)])+iE (ar n l) (ix.set b.toNat ((aH+1:Nat):Int)) n<jg (ar n l) (wy++[(v,k)])+iE (ar n l) ix n
     rw[l5,l5,l5];omega
    ·show (ix.set b.toNat ((aH+1:Nat):Int)).getD a.toNat 0≠0
     rw[mz];split
     ·omega
     ·exact hA
    ·intro z hz
     show (ix.set b.toNat ((aH+1:Nat):Int)).getD z 0≠0
     rw[mz];split
     ·omega
     ·exact hM z hz
   ·have c1:¬(ix.getD b.toNat 0=0):=c1
    refine aa 0 ?_
    refine aM ?_
    have lT:=hF.vt b dG.1 dG.2
    have DK:ey ⟨.int .i64,1,8,[.int .i64 0]⟩ (bK (wy++[(v,k+1)])++J) (0+(IntKind.i64.wrap (((wy.length+1:Nat):Int)-1)).toNat*2+0)=some (.int .i64 v):=jc rfl (by rw[hX];exact rJ rfl)
    refine fE.kD 3 _ _ rfl (sT rfl dG.1 (by rw[hF.kE];omega)) (fun c2=>?_) (fun c2=>?_)
    ·rw[lT]at c2
     have hO:=hF.HW ab hb (fA c2)
     refine .sched [] (upto [] 28 0) (by kernel_rfl) ?_
     refine aa 0 ?_
     refine aT 5 rfl DK ?_
     refine aa 0 ?_
     refine aT 5 rfl DK ?_
     refine aM ?_
     refine aT 2 rfl (e9 rfl dm.1 (by rw[hF.ll];omega)) ?_
     refine aa 0 ?_
     refine aM ?_
     refine aT 1 rfl (e9 rfl dG.1 (by rw[hF.li];omega)) ?_
     refine aM ?_
     refine da 2 rfl (nk rfl _ dm.1 (by rw[hF.ll];omega)) ?_
     have jE:(if ix.getD b.toNat 0<lo.getD v.toNat 0 then ix.getD b.toNat 0 else lo.getD v.toNat 0)=min (lo.getD v.toNat 0) (ix.getD b.toNat 0):=by split <;> omega
     refine .mk ((ix,lo.set v.toNat (min (lo.getD v.toNat 0) (ix.getD b.toNat 0)),on,st,aH,P),(bs,Js,vp,eM),(wy,v,k+1),(bw,J)) rfl ?_ ⟨⟨hO,hP⟩,hA,hM⟩ ⟨rfl,rfl,trivial⟩ (aJ (by rw[← jE];rfl))
     show jg (ar n l) (wy++[(v,k+1)])+iE (ar n l) ix n<jg (ar n l) (wy++[(v,k)])+iE (ar n l) ix n
     rw[l5,l5];omega
    ·rw[lT]at c2
     have hO:=hF.off ab hb dG.1 c1 (pO c2)
     refine .mk ((ix,lo,on,st,aH,P),(bs,Js,vp,eM),(wy,v,k+1),(bw,J)) rfl ?_ ⟨⟨hO,hP⟩,hA,hM⟩ ⟨rfl,rfl,trivial⟩ (.refl _)
     show jg (ar n l) (wy++[(v,k+1)])+iE (ar n l) ix n<jg (ar n l) (wy++[(v,k)])+iE (ar n l) ix n
     rw[l5,l5];omega
  ·have au:k=(ar n l v).length:=by omega
   have mN:ey ⟨.bh [(0,3),(1,3)],2,16,[.int .i64 0,.int .i64 0]⟩ (bK (wy++[(v,k)])++J) (0+(IntKind.i64.wrap (((wy.length+1:Nat):Int)-1)).toNat*2)=some (.agg [.int .i64 v,.int .i64 k]):=SM rfl (by rw[hX,er];show wy.length*2+2≤_;omega) (by rw[hX];exact Pv rfl)
   refine aT 5 rfl mN ?_
   intro bt
   refine ai 0 ?_
   refine aa 0 ?_
   have qe:(IntKind.i64.wrap (((wy.length+1:Nat):Int)-1)).toNat-Int.toNat 0=wy.length:=by rw[nE];omega
   have dg:0≤(0:Int)∧(0:Int)≤IntKind.i64.wrap (((wy.length+1:Nat):Int)-1)∧IntKind.i64.wrap (((wy.length+1:Nat):Int)-1)≤((wy.length+1:Nat):Int)∧2=2:=⟨by omega,by omega,by omega,rfl⟩
   by_cases he:lo.getD v.toNat 0=ix.getD v.toNat 0
   ·obtain⟨A,B,ao,ES,hB1⟩:=QP hF.tj.inc bS
    have Nr:v ∉ A:=fun hm=>by have:=ES v hm;omega
    have Nq:∀x∈v::B,0≤x∧x<(n:Int):=fun x hx=>hF.tj.node x (by rw[ao];exact jJ _ hx)
    have ca:=uc hF.tj.inc
    rw[ao]at ca
    have hT:=hF.tell (by omega) ao he (fun x y hy=>(lD.1 hy).1) (BP (v::B)) (Fs (oU.1 ca).2.1)
    have EM:=FD hF.tj.prt
    subst ao
    have dY:(an (A++v::B)).length=(A++v::B).length*1:=by rw[jy,dO]
    refine .perm _ (wg [_,_,_,_,_] eM σ _ _) (TB w bi bl bo n (bY n l) ix lo A B on P aH _ vp _ eM v _ dm.1 dm.2 hF.li hF.ll hF.kE he Nr Nq (by omega) (by omega) (.ae bs (A++v::B).length (an (A++v::B)) Js dY) hP) ?_
    rintro _ _ ⟨rfl,eC,je,gC,gy,dN,nM,rfl⟩
    have gj:((bt,[AV.int .i64 v,.int .i64 k])::(w,df (bY n l) bi bl bo n eC aH gC)::(bi,an ix)::(bl,an lo)::(bo,bN (eU (v::B) on))::(bw,bK (wy++[(v,k)])++J)::(je++(gy++σ))).Perm ((w,df (bY n l) bi bl bo n eC aH gC)::(bi,an ix)::(bl,an lo)::(bo,bN (eU (v::B) on))::(je++(gy++((bt,[AV.int .i64 v,.int .i64 k])::(bw,bK (wy++[(v,k)])++J)::σ)))):=by
     have h1:=(wg [(w,df (bY n l) bi bl bo n eC aH gC),(bi,an ix),(bl,an lo),(bo,bN (eU (v::B) on))] (je++gy) σ (bt,[AV.int .i64 v,.int .i64 k]) (bw,bK (wy++[(v,k)])++J)).symm
     rw[dQ,dQ]at h1
     exact h1
    refine⟨_,gj,?_⟩
    refine aI.mk dg ?_
    rcases E5 wy with dS | ⟨w',⟨u,i⟩,dS⟩
    ·have qi:wy.length=0:=by rw[dS];rfl
     rw[dS]at hT
     obtain rfl:A=[]:=hT.TQ
     refine aq (p:=(0:Int)<(((IntKind.i64.wrap (((wy.length+1:Nat):Int)-1)).toNat-Int.toNat 0:Nat):Int)) (fun c3=>?_) (fun c3=>?_)
     ·rw[qe,qi]at c3;exact absurd c3 (by decide)
     ·refine .drop 0 1 (.drop 4 1 (.done ⟨rfl,ix,lo,eU (v::B) on,aH,P++[fG (v::B)],eC,je,gC,gy,hT,dN,nM,hA,hM,rfl⟩))
    ·have dS:wy=w'++[(u,i)]:=by simpa using dS
     have qi:wy.length=w'.length+1:=by rw[dS,bP];rfl
     have jh:(IntKind.i64.wrap (((wy.length+1:Nat):Int)-1)).toNat-Int.toNat 0=w'.length+1:=qe.trans qi
     have oc:IntKind.i64.wrap ((((IntKind.i64.wrap (((wy.length+1:Nat):Int)-1)).toNat-Int.toNat 0:Nat):Int)-1)=((w'.length:Nat):Int):=by rw[jh,cy (by omega)];omega
     have zk:(0+Int.toNat 0*2)+(IntKind.i64.wrap ((((IntKind.i64.wrap (((wy.length+1:Nat):Int)-1)).toNat-Int.toNat 0:Nat):Int)-1)).toNat*2+0=w'.length*2:=by rw[oc,bM];show 0+0*2+_+0=_;omega
     have ou:bK (wy++[(v,k)])++J=bK (w'++[(u,i)])++([.int .i64 v,.int .i64 k]++J):=by rw[dS,oY,dQ];rfl
     have sw:ey ⟨.int .i64,1,8,[.int .i64 0]⟩ (bK (wy++[(v,k)])++J) ((0+Int.toNat 0*2)+(IntKind.i64.wrap ((((IntKind.i64.wrap (((wy.length+1:Nat):Int)-1)).toNat-Int.toNat 0:Nat):Int)-1)).toNat*2+0)=some (.int .i64 u):=jc rfl (by rw[zk,ou];exact rJ rfl)
     have fm:0≤u∧u<(n:Int):=hF.tj.node u (hF.tj.sub.subset (by rw[dS];simp))
     have iR:AV.ae bw (0+Int.toNat 0*2) ((IntKind.i64.wrap (((wy.length+1:Nat):Int)-1)).toNat-Int.toNat 0) 2=.ae bw 0 (w'.length+1) 2:=by rw[jh];rfl
     have Mg:AV.ae bw 0 (w'.length+1) 2=AV.ae bw (0+Int.toNat 0*2) ((IntKind.i64.wrap (((wy.length+1:Nat):Int)-1)).toNat-Int.toNat 0) 2:=iR.symm
     refine aq (p:=(0:Int)<(((IntKind.i64.wrap (((wy.length+1:Nat):Int)-1)).toNat-Int.toNat 0:Nat):Int)) (fun c3=>?_) (fun c3=>?_)
     rotate_left
     ·rw[jh]at c3;omega
     have yq:2=2∧0≤IntKind.i64.wrap ((((IntKind.i64.wrap (((wy.length+1:Nat):Int)-1)).toNat-Int.toNat 0:Nat):Int)-1)∧IntKind.i64.wrap ((((IntKind.i64.wrap (((wy.length+1:Nat):Int)-1)).toNat-Int.toNat 0:Nat):Int)-1)<(((IntKind.i64.wrap (((wy.length+1:Nat):Int)-1)).toNat-Int.toNat 0:Nat):Int):=⟨rfl,by rw[oc];omega,by rw[oc,jh];omega⟩
     refine aI.mk yq ?_
     refine aT 5 rfl sw ?_
     refine .sched [] (upto [] 23 0) (by kernel_rfl) ?_
     refine aa 1 ?_
     refine aa 1 ?_
     refine aM ?_
     refine aT 3 rfl (e9 rfl fm.1 (by rw[hF.ll];omega)) ?_
     refine aa 1 ?_
     refine aa 0 ?_
     refine aM ?_
     refine aT 3 rfl (e9 rfl dm.1 (by rw[hF.ll];omega)) ?_
     refine aM ?_
     refine da 3 rfl (nk rfl _ fm.1 (by rw[hF.ll];omega)) ?_
     have jE:(if lo.getD v.toNat 0<lo.getD u.toNat 0 then lo.getD v.toNat 0 else lo.getD u.toNat 0)=min (lo.getD u.toNat 0) (lo.getD v.toNat 0):=by split <;> omega
     have Oa:0<A.length:=List.length_pos_of_mem (a:=u) (hT.tj.sub.subset (by rw[dS];simp))
     obtain⟨l4,oW,rfl,rfl,_⟩:=dN.pos Oa
     have Mc:=FI.same (dS▸hF) he
     rw[dS]at hT
     have hE:(w,df (bY n l) bi bl bo n (.ae l4 0 A.length 1) aH gC)::(bi,an ix)::(bl,an (lo.set u.toNat (if lo.getD v.toNat 0<lo.getD u.toNat 0 then lo.getD v.toNat 0 else lo.getD u.toNat 0)))::(bo,bN (eU (v::B) on))::(l4,an A++oW)::(bw,bK (wy++[(v,k)])++J)::(gy++σ)=(w,df (bY n l) bi bl bo n (.ae l4 0 A.length 1) aH gC)::(bi,an ix)::(bl,an (lo))::(bo,bN (eU (v::B) on))::(l4,an A++oW)::(bw,bK (w'++[(u,i)])++([.int .i64 v,.int .i64 k]++J))::(gy++σ):=by rw[jE,Mc,ou]
     refine .mk ((ix,lo,eU (v::B) on,A,aH,P++[fG (v::B)]),(l4,oW,gC,gy),(w',u,i),(bw,[AV.int .i64 v,.int .i64 k]++J)) rfl ?_ ⟨⟨hT,nM⟩,hA,hM⟩ ⟨rfl,iR,trivial⟩ (.drop 0 1 (.pull [4,4,4,4,5] (aJ hE)))
     show jg (ar n l) (w'++[(u,i)])+iE (ar n l) ix n<jg (ar n l) (wy++[(v,k)])+iE (ar n l) ix n
     rw[dS,l5 (ar n l) (w'++[(u,i)])];omega
   ·have N5:=fun ρ=>Su w bi bl bo n (bY n l) ix lo on aH (.ae bs 0 st.length 1) vp v ρ dm.1 dm.2 hF.li hF.ll he
    refine ay [4,4,4,4] (N5 _) ?_
    refine aI.mk dg ?_
    rcases E5 wy with dS | ⟨w',⟨u,i⟩,dS⟩
    ·have qi:wy.length=0:=by rw[dS];rfl
     rw[dS]at hF
     exact absurd hF.one he
    ·have dS:wy=w'++[(u,i)]:=by simpa using dS
     have qi:wy.length=w'.length+1:=by rw[dS,bP];rfl
     have jh:(IntKind.i64.wrap (((wy.length+1:Nat):Int)-1)).toNat-Int.toNat 0=w'.length+1:=qe.trans qi
     have oc:IntKind.i64.wrap ((((IntKind.i64.wrap (((wy.length+1:Nat):Int)-1)).toNat-Int.toNat 0:Nat):Int)-1)=((w'.length:Nat):Int):=by rw[jh,cy (by omega)];omega
     have zk:(0+Int.toNat 0*2)+(IntKind.i64.wrap ((((IntKind.i64.wrap (((wy.length+1:Nat):Int)-1)).toNat-Int.toNat 0:Nat):Int)-1)).toNat*2+0=w'.length*2:=by rw[oc,bM];show 0+0*2+_+0=_;omega
     have ou:bK (wy++[(v,k)])++J=bK (w'++[(u,i)])++([.int .i64 v,.int .i64 k]++J):=by rw[dS,oY,dQ];rfl
     have sw:ey ⟨.int .i64,1,8,[.int .i64 0]⟩ (bK (wy++[(v,k)])++J) ((0+Int.toNat 0*2)+(IntKind.i64.wrap ((((IntKind.i64.wrap (((wy.length+1:Nat):Int)-1)).toNat-Int.toNat 0:Nat):Int)-1)).toNat*2+0)=some (.int .i64 u):=jc rfl (by rw[zk,ou];exact rJ rfl)
     have fm:0≤u∧u<(n:Int):=hF.tj.node u (hF.tj.sub.subset (by rw[dS];simp))
     have iR:AV.ae bw (0+Int.toNat 0*2) ((IntKind.i64.wrap (((wy.length+1:Nat):Int)-1)).toNat-Int.toNat 0) 2=.ae bw 0 (w'.length+1) 2:=by rw[jh];rfl
     have Mg:AV.ae bw 0 (w'.length+1) 2=AV.ae bw (0+Int.toNat 0*2) ((IntKind.i64.wrap (((wy.length+1:Nat):Int)-1)).toNat-Int.toNat 0) 2:=iR.symm
     refine aq (p:=(0:Int)<(((IntKind.i64.wrap (((wy.length+1:Nat):Int)-1)).toNat-Int.toNat 0:Nat):Int)) (fun c3=>?_) (fun c3=>?_)
     rotate_left
     ·rw[jh]at c3;omega
     have yq:2=2∧0≤IntKind.i64.wrap ((((IntKind.i64.wrap (((wy.length+1:Nat):Int)-1)).toNat-Int.toNat 0:Nat):Int)-1)∧IntKind.i64.wrap ((((IntKind.i64.wrap (((wy.length+1:Nat):Int)-1)).toNat-Int.toNat 0:Nat):Int)-1)<(((IntKind.i64.wrap (((wy.length+1:Nat):Int)-1)).toNat-Int.toNat 0:Nat):Int):=⟨rfl,by rw[oc];omega,by rw[oc,jh];omega⟩
     refine aI.mk yq ?_
     refine aT 6 rfl sw ?_
     refine .sched [] (upto [] 23 0) (by kernel_rfl) ?_
     refine aa 0 ?_
     refine aa 0 ?_
     refine aM ?_
     refine aT 2 rfl (e9 rfl fm.1 (by rw[hF.ll];omega)) ?_
     refine aa 0 ?_
     refine aa 4 ?_
     refine aM ?_
     refine aT 2 rfl (e9 rfl dm.1 (by rw[hF.ll];omega)) ?_
     refine aM ?_
     refine da 2 rfl (nk rfl _ fm.1 (by rw[hF.ll];omega)) ?_
     have jE:(if lo.getD v.toNat 0<lo.getD u.toNat 0 then lo.getD v.toNat 0 else lo.getD u.toNat 0)=min (lo.getD u.toNat 0) (lo.getD v.toNat 0):=by split <;> omega
     have hU:=FI.up (dS▸hF) (by omega) he
     have hE:(w,df (bY n l) bi bl bo n (.ae bs 0 st.length 1) aH vp)::(bi,an ix)::(bl,an (lo.set u.toNat (if lo.getD v.toNat 0<lo.getD u.toNat 0 then lo.getD v.toNat 0 else lo.getD u.toNat 0)))::(bo,bN (on))::(bs,an st++Js)::(bw,bK (wy++[(v,k)])++J)::(eM++σ)=(w,df (bY n l) bi bl bo n (.ae bs 0 st.length 1) aH vp)::(bi,an ix)::(bl,an (lo.set u.toNat (min (lo.getD u.toNat 0) (lo.getD v.toNat 0))))::(bo,bN (on))::(bs,an st++Js)::(bw,bK (w'++[(u,i)])++([.int .i64 v,.int .i64 k]++J))::(eM++σ):=by rw[jE,ou]
     refine .mk ((ix,lo.set u.toNat (min (lo.getD u.toNat 0) (lo.getD v.toNat 0)),on,st,aH,P),(bs,Js,vp,eM),(w',u,i),(bw,[AV.int .i64 v,.int .i64 k]++J)) rfl ?_ ⟨⟨hU,hP⟩,hA,hM⟩ ⟨rfl,iR,trivial⟩ (.drop 4 1 (aJ hE))
     show jg (ar n l) (w'++[(u,i)])+iE (ar n l) ix n<jg (ar n l) (wy++[(v,k)])+iE (ar n l) ix n
     rw[dS,l5 (ar n l) (w'++[(u,i)])];omega
 ·intro hr
  obtain⟨ix,lo,on,hF,hA,hM,heq,N9⟩:∃ix lo on,FI n (ar n l) ix lo on [a] (dF+1) P0 [(a,0)]∧ix.getD a.toNat 0≠0∧(∀b:Nat,lP.getD b 0≠0→ix.getD b 0≠0)∧lo.getD a.toNat 0=ix.getD a.toNat 0∧∀ρ,ACalls Tryz.prog 314 [.ptr w 0,.int .i64 a] ((w,df (bY n l) bi bl bo n tD dF fW)::(bi,an lP)::(bl,an vA)::(bo,bN vu)::(uP++ρ))
    (fun r σ'=>r=.agg [.int .i64 a,.int .i64 0]∧∃bs Js,σ'=(w,df (bY n l) bi bl bo n (.ae bs 0 [a].length 1) (dF+1) fW)::(bi,an ix)::(bl,an lo)::(bo,bN on)::(bs,an [a]++Js)::ρ):=by
   have h1:=h.enter (way2:=[]) ha hf (fun v hv=>by cases hv) rfl (fun t ht=>by cases ht) (fun t ht=>by cases ht)
   refine⟨_,_,_,h1,?_,?_,?_,fun ρ=>(Ap w bi bl bo n (bY n l) lP vA [] vu dF tD fW uP a ρ ha.1 ha.2 h.li h.ll h.kE hs (bD _) (by omega)).mono ?_⟩
   ·rw[mz,ah ⟨rfl,by rw[h.li];omega⟩];omega
   ·intro z hz
    rw[mz];split
    ·omega
    ·exact hz
   ·rw[mz,mz,ah ⟨rfl,by rw[h.ll];omega⟩,ah ⟨rfl,by rw[h.li];omega⟩]
   ·rintro _ _ ⟨rfl,A4,Ds,fv,rfl⟩
    obtain⟨bs,Js,rfl,rfl,_⟩:=fv.pos (by show 0<1;decide)
    exact⟨rfl,bs,Js,rfl⟩
  clear hf hs h
  have hle:=hF.Ao
  have Bg:=xW n l a
  refine .mk [] _ (N9 (iD++σ)) ?_
  rintro _ _ ⟨rfl,bs,Js,rfl⟩
  intro bw
  refine aI.mk ⟨rfl,by decide,by decide⟩ ?_
  refine .quiet (by kernel_rfl) ?_
  refine aa 0 ?_
  refine aa 1 ?_
  refine aa 0 ?_
  refine aI.mk rfl ?_
  refine bL.mk (ar n l a) (by omega) (pc ha) ?_
  refine aq (p:=(0:Int)<(ar n l a).length) (fun ab=>?_) (fun au=>?_)
  ·have ab:0<(ar n l a).length:=by omega
   obtain⟨b,hb⟩:∃b,(ar n l a)[0]=b:=⟨_,rfl⟩
   have sB:b∈ar n l a:=hb▸cj ab
   have dG:=(lD.1 sB).1
   refine .quiet (by kernel_rfl) ?_
   refine aa 1 ?_
   refine aa 0 ?_
   refine aI.mk rfl ?_
   refine bL.mk (ar n l a) (by omega) (pc ha) ?_
   refine aa 0 ?_
   refine aI.mk rfl ?_
   refine bL.mk b (by decide) ((get_some ab).trans (congrArg some hb)) ?_
   refine aa 0 ?_
   refine ai 0 ?_
   refine aa 1 ?_
   refine aM ?_
   refine aT 2 rfl (e9 rfl dG.1 (by rw[hF.li];omega)) ?_
   refine aq (p:=ix.getD b.toNat 0=0) (fun c1=>?_) (fun c1=>?_)
   ·have hN:=FI.new (w:=[]) hF ab hb dG c1
    refine .mk [5,5,5,5,5] _ (Ap w bi bl bo n (bY n l) ix lo [a] on (dF+1) _ fW _ b ((bw,[.int .i64 a,.int .i64 1])::(iD++σ)) dG.1 dG.2 hF.li hF.ll hF.kE (.ae bs 1 (an [a]) Js rfl) (by show 1≤10000;decide) (by omega)) ?_
    rintro _ _ ⟨rfl,A4,Ds,fv,rfl⟩
    obtain⟨l4,oW,rfl,rfl,_⟩:=fv.pos (by show 0<2;decide)
    intro aG
    refine xT (k:=1) (n:=1) [_,_,_,_,_,_] (.ae bw 1 (bK [(a,1)]) [] rfl) (.ae 0 aG 0 1 _ rfl (cD rfl)) rfl (by decide) (by decide) (by decide) (fun v' aU h'=>?_)
    obtain⟨oV,J2,rfl,rfl,_⟩:=h'.pos (by decide)
    refine wk hr ((ix.set b.toNat ((dF+1+1:Nat):Int),lo.set b.toNat ((dF+1+1:Nat):Int),on.set b.toNat true,[a]++[b],dF+1+1,P0),(l4,oW,fW,iD),([(a,1)],b,0),(oV,J2)) ⟨rfl,⟨⟨hN,hp⟩,?_,?_⟩,⟨rfl,rfl,trivial⟩,.drop 0 1 (aJ rfl)⟩
    ·show (ix.set b.toNat ((dF+1+1:Nat):Int)).getD a.toNat 0≠0
     rw[mz];split
     ·omega
     ·exact hA
    ·intro z hz
     show (ix.set b.toNat ((dF+1+1:Nat):Int)).getD z 0≠0
     rw[mz];split
     ·omega
     ·exact hM z hz
   ·have c1:¬(ix.getD b.toNat 0=0):=c1
    have lT:=hF.vt b dG.1 dG.2
    refine aa 1 ?_
    refine aM ?_
    refine fE.kD 4 _ _ rfl (sT rfl dG.1 (by rw[hF.kE];omega)) (fun c2=>?_) (fun c2=>?_)
    ·rw[lT]at c2
     have hO:=FI.HW (w:=[]) hF ab hb (fA c2)
     refine .sched [] (upto [] 28 0) (by kernel_rfl) ?_
     refine aa 1 ?_
     refine aa 0 ?_
     refine aa 1 ?_
     refine aa 0 ?_
     refine aM ?_
     refine aT 3 rfl (e9 rfl ha.1 (by rw[hF.ll];omega)) ?_
     refine aa 1 ?_
     refine aM ?_
     refine aT 2 rfl (e9 rfl dG.1 (by rw[hF.li];omega)) ?_
     refine aM ?_
     refine da 3 rfl (nk rfl _ ha.1 (by rw[hF.ll];omega)) ?_
     have jE:(if ix.getD b.toNat 0<lo.getD a.toNat 0 then ix.getD b.toNat 0 else lo.getD a.toNat 0)=min (lo.getD a.toNat 0) (ix.getD b.toNat 0):=by split <;> omega
     have hE:(w,df (bY n l) bi bl bo n (.ae bs 0 [a].length 1) (dF+1) fW)::(bi,an ix)::(bl,an (lo.set a.toNat (if ix.getD b.toNat 0<lo.getD a.toNat 0 then ix.getD b.toNat 0 else lo.getD a.toNat 0)))::(bo,bN on)::(bs,an [a]++Js)::(bw,bK [(a,1)]++[])::(iD++σ)=(w,df (bY n l) bi bl bo n (.ae bs 0 [a].length 1) (dF+1) fW)::(bi,an ix)::(bl,an (lo.set a.toNat (min (lo.getD a.toNat 0) (ix.getD b.toNat 0))))::(bo,bN on)::(bs,an [a]++Js)::(bw,bK [(a,1)]++[])::(iD++σ):=by rw[jE]
     exact wk hr ((ix,lo.set a.toNat (min (lo.getD a.toNat 0) (ix.getD b.toNat 0)),on,[a],dF+1,P0),(bs,Js,fW,iD),([],a,1),(bw,[])) ⟨rfl,⟨⟨hO,hp⟩,hA,hM⟩,⟨rfl,rfl,trivial⟩,.pull [5,5,5,5,5] (aJ hE)⟩
    ·rw[lT]at c2
     have hO:=FI.off (w:=[]) hF ab hb dG.1 c1 (pO c2)
     exact wk hr ((ix,lo,on,[a],dF+1,P0),(bs,Js,fW,iD),([],a,1),(bw,[])) ⟨rfl,⟨⟨hO,hp⟩,hA,hM⟩,⟨rfl,rfl,trivial⟩,.pull [5,5,5,5,5] (aJ rfl)⟩
  ·have au:(ar n l a).length=0:=by omega
   refine aa 0 ?_
   intro aG
   refine ai 0 ?_
   refine aa 0 ?_
   have hT:=FI.tell (w:=[]) (A:=[]) (B:=[]) (part:=fG [a]) hF (by omega) rfl heq (fun x y hy=>(lD.1 hy).1) (BP [a]) (Fs (by simp))
   have EM:=FD hF.tj.prt
   have MF:((w,df (bY n l) bi bl bo n (.ae bs 0 [a].length 1) (dF+1) fW)::(bi,an ix)::(bl,an lo)::(bo,bN on)::(bs,an [a]++Js)::(iD++((aG,[AV.int .i64 a,.int .i64 0])::(bw,[AV.int .i64 a,.int .i64 0])::σ))).Perm ((aG,[AV.int .i64 a,.int .i64 0])::(bw,[AV.int .i64 a,.int .i64 0])::(w,df (bY n l) bi bl bo n (.ae bs 0 [a].length 1) (dF+1) fW)::(bi,an ix)::(bl,an lo)::(bo,bN on)::(bs,an [a]++Js)::(iD++σ)):=by
    have h1:=wg [(w,df (bY n l) bi bl bo n (.ae bs 0 [a].length 1) (dF+1) fW),(bi,an ix),(bl,an lo),(bo,bN on),(bs,an [a]++Js)] iD σ (aG,[AV.int .i64 a,.int .i64 0]) (bw,[AV.int .i64 a,.int .i64 0])
    exact h1.trans (List.Perm.cons _ (nS (l₁:=[(w,df (bY n l) bi bl bo n (.ae bs 0 [a].length 1) (dF+1) fW),(bi,an ix),(bl,an lo),(bo,bN on),(bs,an [a]++Js)])))
   refine .perm _ MF (TB w bi bl bo n (bY n l) ix lo [] [] on P0 (dF+1) _ fW _ iD a _ ha.1 ha.2 hF.li hF.ll hF.kE heq (by simp) (fun x hx=>by rw[List.mem_singleton.1 hx];exact ha) (by show 1≤10000;decide) (by omega) (.ae bs 1 (an [a]) Js rfl) hp) ?_
   rintro _ _ ⟨rfl,eC,je,gC,gy,dN,nM,rfl⟩
   have gj:((aG,[AV.int .i64 a,.int .i64 0])::(w,df (bY n l) bi bl bo n eC (dF+1) gC)::(bi,an ix)::(bl,an lo)::(bo,bN (eU [a] on))::(bw,[AV.int .i64 a,.int .i64 0])::(je++(gy++σ))).Perm ((w,df (bY n l) bi bl bo n eC (dF+1) gC)::(bi,an ix)::(bl,an lo)::(bo,bN (eU [a] on))::(je++(gy++((aG,[AV.int .i64 a,.int .i64 0])::(bw,[AV.int .i64 a,.int .i64 0])::σ)))):=by
    have h1:=(wg [(w,df (bY n l) bi bl bo n eC (dF+1) gC),(bi,an ix),(bl,an lo),(bo,bN (eU [a] on))] (je++gy) σ (aG,[AV.int .i64 a,.int .i64 0]) (bw,[AV.int .i64 a,.int .i64 0])).symm
    rw[dQ,dQ]at h1
    exact h1
   refine⟨_,gj,?_⟩
   refine aI.mk (by decide) ?_
   exact .drop 0 1 (.drop 4 1 (.done ⟨rfl,ix,lo,eU [a] on,dF+1,P0++[fG [a]],eC,je,gC,gy,hT,dN,nM,hA,hM,rfl⟩))
end Go.Proofs.YtnikdflhefijbaaGreat
