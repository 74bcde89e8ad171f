import Derived.Test.YtnikdflhefijbaaGreatBp16
import Derived.Test.YtnikdflhefijbaaGreatBp15
namespace Go.Proofs.YtnikdflhefijbaaGreat
open Go.RowKit
set_option maxRecDepth 100000
theorem iw.zero{e:Nat}{v:AV}{acc:Hp}{cs:List AV}(h:iw e 0 v acc cs):(v=.aj∧acc=[])∨∃b J,v=.ae b 0 0 e∧acc=[(b,J)]:=by
 generalize hz:(0:Nat)=z at h
 cases h with
 |nil=>exact .inl ⟨rfl,rfl⟩
 |ae b k cs J h=>subst hz;exact .inr ⟨b,_,rfl,rfl⟩
def xG(W:List Int)(T:List Bool)(i:Int)(x:bg):Bool:=decide (W.getD x.2.1.toNat 0=i)&&decide (W.getD x.1.toNat 0≠i)&&!T.getD (W.getD x.1.toNat 0).toNat false
theorem agb(bW bw bI bT bt n m:Nat)(W:List Int)(T:List Bool)(i:Int)(x:bg)(σ:Hp)(h1:0≤x.1∧x.1<n)(h2:0≤x.2.1∧x.2.1<n)(hW:W.length=n)(hT:T.length=m)(hr:0≤W.getD x.1.toNat 0∧W.getD x.1.toNat 0<m):
  ACalls Tryz.prog 317 (Bi x::[.ptr bW 0,.ptr bI 0,.ptr bT 0]) ((bI,[.int .i64 i])::(bT,[.ae bt 0 m 1])::(bW,[.ae bw 0 n 1])::(bw,ak W)::(bt,bE T)::σ) (aE (.bool (xG W T i x)) ((bI,[.int .i64 i])::(bT,[.ae bt 0 m 1])::(bW,[.ae bw 0 n 1])::(bw,ak W)::(bt,bE T)::σ)):=by
 obtain⟨x1,x2,xu⟩:=x
 have h1:0≤x1∧x1<n:=h1
 have h2:0≤x2∧x2<n:=h2
 have hr:0≤W.getD x1.toNat 0∧W.getD x1.toNat 0<m:=hr
 refine aA Tryz.func317 ?_
 intro bx
 refine .quiet (by kernel_rfl) ?_
 refine aa 3 ?_
 refine aa 0 ?_
 refine aK ?_
 refine aT 4 rfl (e9 rfl h2.1 (by omega)) ?_
 refine aa 1 ?_
 refine aq (fun c1=>?_) (fun c1=>?_)
 ·have c1:W.getD x2.toNat 0=i:=c1
  refine aa 3 ?_
  refine aa 0 ?_
  refine aK ?_
  refine aT 4 rfl (e9 rfl h1.1 (by omega)) ?_
  refine aa 1 ?_
  refine eG (fun c2=>?_) (fun c2=>?_)
  ·have c2:¬(W.getD x1.toNat 0=i):=by simpa using c2
   refine aa 2 ?_
   refine aa 3 ?_
   refine aa 0 ?_
   refine aK ?_
   have hL:∀b,T.getD (W.getD x1.toNat 0).toNat false=b→xG W T i (x1,x2,xu) = !b:=fun b hb=>by
    unfold xG
    rw[aY (show W.getD x2.toNat 0=i from c1),aY (show W.getD x1.toNat 0≠i from c2)]
    show (true&&true&&!T.getD (W.getD x1.toNat 0).toNat false)=_
    rw[hb];rfl
   refine aT 4 rfl (e9 rfl h1.1 (by omega)) ?_
   refine aK ?_
   refine eO.kz 5 _ _ rfl (tw rfl hr.1 (by omega)) (fun c3=>?_) (fun c3=>?_)
   ·exact .drop 0 1 (.done ⟨eb (hL true c3).symm,rfl⟩)
   ·exact .drop 0 1 (.done ⟨eb (hL false c3).symm,rfl⟩)
  ·have c2:W.getD x1.toNat 0=i:=by simpa using c2
   refine .drop 0 1 (.done ⟨eb ?_,rfl⟩)
   unfold xG
   rw[b9 (show ¬(W.getD x1.toNat 0≠i) from fun h=>h c2),JK];rfl
 ·have c1:¬(W.getD x2.toNat 0=i):=c1
  refine .drop 0 1 (.done ⟨eb ?_,rfl⟩)
  unfold xG
  rw[b9 (show ¬(W.getD x2.toNat 0=i) from c1)];rfl
theorem Wk(bW bw bl bT bt n m:Nat)(l:List bg)(W:List Int)(T:List Bool)(i:Int)(σ:Hp)(hl:l.length≤100000)(hi:0≤i∧i<m)(hr:∀e∈l,(0≤e.1∧e.1<(n:Int))∧0≤e.2.1∧e.2.1<(n:Int))(hW:W.length=n)(hT:T.length=m)(hw:∀k:Nat,k<n→0≤W.getD k 0∧W.getD k 0<m):
  ACalls Tryz.prog 316 [.int .i64 i,.ptr bT 0,.ptr bl 0,.ptr bW 0] ((bT,[.ae bt 0 m 1])::(bW,[.ae bw 0 n 1])::(bw,ak W)::(bt,bE T)::(bl,[.ai dG l])::σ) (aE (.bool (nr l W T i)) ((bT,[.ae bt 0 m 1])::(bW,[.ae bw 0 n 1])::(bw,ak W)::(bt,bE T)::(bl,[.ai dG l])::σ)):=by
 have hF:∀b,T.getD i.toNat false=b→nr l W T i=(!b&&!l.any (xG W T i)):=fun b hb=>by unfold nr;rw[hb];rfl
 refine aA Tryz.func316 ?_
 intro bI
 refine aa 1 ?_
 refine aa 0 ?_
 refine aK ?_
 refine eO.kz 4 _ _ rfl (tw rfl hi.1 (by omega)) (fun c1=>?_) (fun c1=>?_)
 ·exact .drop 0 1 (.done ⟨eb (hF true c1).symm,rfl⟩)
 ·refine aa 5 ?_
  have hg:∀(k:Nat) (hk:k<l.length),ACalls Tryz.prog 317 (Bi l[k]::[.ptr bW 0,.ptr bI 0,.ptr bT 0]) ((bI,[.int .i64 i])::(bT,[.ae bt 0 m 1])::(bW,[.ae bw 0 n 1])::(bw,ak W)::(bt,bE T)::(bl,[.ai dG l])::σ) (aE (.bool (xG W T i l[k])) ((bI,[.int .i64 i])::(bT,[.ae bt 0 m 1])::(bW,[.ae bw 0 n 1])::(bw,ak W)::(bt,bE T)::(bl,[.ai dG l])::σ)):=fun k hk=>by
   obtain⟨h1,h2⟩:=hr _ (cD hk)
   exact agb bW bw bI bT bt n m W T i l[k] _ h1 h2 hW hT (hw _ (by omega))
  refine aB [] (Qn 317 _ l (xG W T i) _ (fy hl (by decide)) hg) ?_
  exact .drop 0 1 (.done ⟨eb (hF false c1).symm,rfl⟩)
theorem yX:∀n:Nat,cz [.int .i64 0] n=ak (List.replicate n 0)
 | 0=>rfl
 |n+1=>by
  show [AV.int .i64 0]++cz [.int .i64 0] n=_
  rw[yX n];rfl
theorem TB(n:Nat)(l:List bg)(P:List (List Int))(σ:Hp)(h:oL n l P)(hl:l.length≤100000)(hn:n≤1000)(hr:∀e∈l,(0≤e.1∧e.1<(n:Int))∧0≤e.2.1∧e.2.1<(n:Int)):
  ACalls Tryz.prog 291 [.int .i64 n,.ai dG l,.ai (.slice (.int .i64)) P] σ (aE (.ai (.slice (.int .i64)) (kd n l)) σ):=by
 obtain⟨sW,hpf⟩:=CO h.ok
 have hNt:((n:Nat):Int).toNat=n:=bU n
 refine aA Tryz.func291 ?_
 intro bl
 refine aU ?_
 intro bw
 intro bW
 refine an 0 ?_
 refine cj (S:=Nat) (fun k=>[(2,.ai (.slice (.int .i64)) P),(4,.ptr bl 0),(7,.ptr bW 0),(20,.ai (.slice (.int .i64)) P),(21,.int .i64 P.length),(22,.int .i64 k)]) (fun k=>(bW,[.ae bw 0 n 1])::(bw,ak (mI P k (List.replicate n 0)))::(bl,[.ai dG l])::σ) (fun k=>k≤P.length) (fun k=>P.length-k) 0 ⟨bK _,⟨rfl,rfl,rfl,rfl,rfl,rfl,trivial⟩,by rw[show ak (mI P 0 (List.replicate n 0))=cz [.int .i64 0] n from (yX n).symm];rfl⟩ ?_
 intro k g bD
 have hk:k≤P.length:=bD
 clear bD
 refine aq (p:=(k:Int)<P.length) (fun ab=>?_) (fun ay=>?_)
 ·have ab:k<P.length:=by omega
  obtain⟨p,hp⟩:∃p,P[k]=p:=⟨_,rfl⟩
  have eT:P[k]?=some p:=(bc ab).trans (congrArg some hp)
  have sV:=h.ok.node p (bH eT)
  have ahI:p.length≤n:=CQ n p ((h.ok.BH p (bH eT)).imp fun h=>by omega) sV
  have rY:=Cy P k (List.replicate n 0)
  rw[fZ]at rY
  have rQ:mI P (k+1) (List.replicate n 0)=kV k p (mI P k (List.replicate n 0)):=by show kV k (P.getD k []) _=_;rw[vC eT]
  generalize mI P k (List.replicate n 0)=W at rY rQ
  refine aH.mk rfl (cg.mk p (by omega) (show P[((k:Nat):Int).toNat]?=some p by rw[bU];exact eT) ?_)
  refine cj (S:=Nat) (fun j=>[(2,.ai (.slice (.int .i64)) P),(4,.ptr bl 0),(7,.ptr bW 0),(8,.int .i64 k),(20,.ai (.slice (.int .i64)) P),(21,.int .i64 P.length),(22,.int .i64 k),(27,.ai (.int .i64) p),(28,.int .i64 p.length),(29,.int .i64 j)]) (fun j=>(bW,[.ae bw 0 n 1])::(bw,ak (kV k (p.take j) W))::(bl,[.ai dG l])::σ) (fun j=>j≤p.length) (fun j=>p.length-j) 0 ⟨bK _,⟨rfl,rfl,rfl,rfl,rfl,rfl,rfl,rfl,rfl,rfl,trivial⟩,rfl⟩ ?_
  intro j g2 mS
  have hj:j≤p.length:=mS
  clear mS
  refine aq (p:=(j:Int)<p.length) (fun fG=>?_) (fun pN=>?_)
  ·have fG:j<p.length:=by omega
   obtain⟨a,ha⟩:∃a,p[j]=a:=⟨_,rfl⟩
   have s5:=sV a (ha▸cD fG)
   have ao:(kV k (p.take j) W).set a.toNat k=kV k (p.take (j+1)) W:=by unfold kV;rw[fQ fG,ha,sa];rfl
   have sR:=Gm k (p.take j) W
   refine aH.mk rfl (cg.mk a (by omega) ((get_some fG).trans (congrArg some ha)) ?_)
   refine aa 0 ?_
   refine aK ?_
   refine cU 1 rfl (nk rfl _ s5.1 (by omega)) ?_
   exact aZ (j+1) (by show p.length-(j+1)<p.length-j;omega) fG ⟨rfl,rfl,rfl,rfl,rfl,rfl,rfl,rfl,rfl,bu (by omega),trivial⟩ (aJ (by rw[← ao];rfl))
  ·have pN:j=p.length:=by omega
   subst pN
   exact aZ (k+1) (by show P.length-(k+1)<P.length-k;omega) ab ⟨rfl,rfl,rfl,rfl,rfl,bu (by omega),trivial⟩ (aJ (by rw[ig,rQ]))
 ·have ay:k=P.length:=by omega
  subst ay
  have OQ:∀j:Nat,j<n→0≤(bf n P).getD j 0∧(bf n P).getD j 0<(P.length:Int):=fun j hj=>by
   obtain⟨i,p,hi,_,hw⟩:=h.idx (x:=(j:Int)) (by omega)
   rw[bU]at hw
   have:=yR hi
   rw[hw];omega
  have rY:=Qs n P
  have Ev:=fun k hk=>(Hn h hr k hk)
  have xX:=MC h hr
  have aO:∀(i:Nat) (p:List Int),P[i]?=some p→p[((0:Int)).toNat]?=some (ir P i):=fun i p hi=>by
   unfold ir
   rw[vC hi]
   exact Uw (mm.2 (h.ok.ne p (bH hi)))
  rw[show mI P P.length (List.replicate n 0)=bf n P from rfl]
  refine aH.mk ⟨by omega,by omega,by show ((P.length:Nat):Int)≤1048576;omega,by decide⟩ ?_
  intro bt
  intro bT
  refine an 0 ?_
  obtain⟨m,hm⟩:∃m,P.length=m:=⟨_,rfl⟩
  refine .wrap 14 _ rfl rfl ?_
  refine .dM (.pull [0,2,3,3] (.refl _)) ?_
  refine cj (S:=Nat×AV×Hp) (fun x=>[(2,.ai (.slice (.int .i64)) P),(12,.ptr bT 0),(13,.fn (.func 316) [] [.ptr bT 0,.ptr bl 0,.ptr bW 0]),(14,.via x.2.1),(44,.int .i64 P.length),(45,.int .i64 x.1)]) (fun x=>(bT,[.ae bt 0 P.length 1])::(bW,[.ae bw 0 n 1])::(bw,ak (bf n P))::(bt,bE (dB P l (bf n P) x.1).1)::(bl,[.ai dG l])::(x.2.2++σ)) (fun x=>x.1≤P.length∧Acc 1 x.1 x.2.1 x.2.2 (cq (dB P l (bf n P) x.1).2)) (fun x=>P.length-x.1) (0,.aj,[]) ⟨⟨bK _,.nil⟩,⟨rfl,rfl,rfl,rfl,rfl,rfl,trivial⟩,by rw[show bE (dB P l (bf n P) 0).1=cz [.bool false] P.length from (Di P.length).symm];rfl⟩ ?_
  rintro⟨k,v,acc⟩ g2 ⟨bD,mE⟩
  have hk:k≤P.length:=bD
  have cC:Acc 1 k v acc (cq (dB P l (bf n P) k).2):=mE
  clear bD mE
  refine aq (p:=(k:Int)<P.length) (fun ab=>?_) (fun ay=>?_)
  ·have ab:k<P.length:=by omega
   obtain⟨hO,zp,_⟩:=Ev k hk
   obtain⟨b,hb,oS⟩:=zp ab
   have Fk:=hO.tl
   have fh:(dB P l (bf n P) (k+1)).1=(dB P l (bf n P) k).1.set b true:=by
    show (dB P l (bf n P) k).1.set (fk P l (bf n P) (dB P l (bf n P) k).1 P.length).toNat true=_
    rw[hb,bU]
   have gy:(dB P l (bf n P) (k+1)).2=(dB P l (bf n P) k).2++[P.getD b []]:=by
    show (dB P l (bf n P) k).2++[P.getD (fk P l (bf n P) (dB P l (bf n P) k).1 P.length).toNat []]=_
    rw[hb,bU]
   generalize (dB P l (bf n P) k).1=T at hb Fk fh
   generalize (dB P l (bf n P) k).2=out at cC gy
   clear hO zp
   have NR:=Gw P l (bf n P) T
   refine cj (S:=Nat) (fun i=>[(2,.ai (.slice (.int .i64)) P),(12,.ptr bT 0),(13,.fn (.func 316) [] [.ptr bT 0,.ptr bl 0,.ptr bW 0]),(14,.via v),(15,.int .i64 (fk P l (bf n P) T i)),(44,.int .i64 P.length),(45,.int .i64 k),(47,.ai (.slice (.int .i64)) P),(48,.int .i64 P.length),(49,.int .i64 i)]) (fun _=>(bT,[.ae bt 0 P.length 1])::(bW,[.ae bw 0 n 1])::(bw,ak (bf n P))::(bt,bE T)::(bl,[.ai dG l])::(acc++σ)) (fun i=>i≤P.length) (fun i=>P.length-i) 0 ⟨bK _,⟨rfl,rfl,rfl,rfl,rfl,rfl,rfl,rfl,rfl,rfl,trivial⟩,rfl⟩ ?_
   intro i g3 fi
   have hi:i≤P.length:=fi
   clear fi
   refine aq (p:=(i:Int)<P.length) (fun fG=>?_) (fun pN=>?_)
   ·have fG:i<P.length:=by omega
    obtain⟨p,hp⟩:∃p,P[i]=p:=⟨_,rfl⟩
    have eT:P[i]?=some p:=(bc fG).trans (congrArg some hp)
    have wN:=fun ρ=>Wk bW bw bl bT bt n P.length l (bf n P) T i ρ hl (by omega) hr rY Fk OQ
    have eE:fk P l (bf n P) T (i+1)=if nr l (bf n P) T i=true∧(fk P l (bf n P) T i<0∨ir P i<ir P (fk P l (bf n P) T i).toNat) then (i:Int) else fk P l (bf n P) T i:=rfl
    have Fj:=NR i
    refine aH.mk rfl (cg.mk p (by omega) (show P[((i:Nat):Int).toNat]?=some p by rw[bU];exact eT) ?_)
    cases hf:nr l (bf n P) T i with
    |false=>
     rw[hf]at wN eE
     rw[ah (fun h=>by cases h.1)]at eE
     refine .quiet (by kernel_rfl) ?_
     refine aI [] (wN _) ?_
     exact aZ (i+1) (by show P.length-(i+1)<P.length-i;omega) fG ⟨rfl,rfl,rfl,rfl,by rw[eE];rfl,rfl,rfl,rfl,rfl,bu (by omega),trivial⟩ (.refl _)
    |true=>
     rw[hf]at wN eE
     refine .quiet (by kernel_rfl) ?_
     refine aI [] (wN _) ?_
     refine aq (p:=fk P l (bf n P) T i<0) (fun c1=>?_) (fun c1=>?_)
     ·rw[ag ⟨rfl,.inl c1⟩]at eE
      exact aZ (i+1) (by show P.length-(i+1)<P.length-i;omega) fG ⟨rfl,rfl,rfl,rfl,by rw[eE];rfl,rfl,rfl,rfl,rfl,bu (by omega),trivial⟩ (.refl _)
     ·obtain⟨b2,e2,l2,_⟩:=Fj.resolve_left fun h=>c1 (by rw[h.1];decide)
      obtain⟨p2,dz⟩:∃p,P[b2]?=some p:=⟨P[b2],bc (by omega)⟩
      have WH:P[(fk P l (bf n P) T i).toNat]?=some p2:=by rw[e2,bU];exact dz
      have Jy:0≤fk P l (bf n P) T i:=by omega
      rw[e2,bU,← e2]at eE
      refine aH.mk rfl ?_
      refine cg.mk (ir P i) (by decide) (aO i p eT) ?_
      refine aH.mk rfl ?_
      refine cg.mk p2 Jy WH ?_
      refine aH.mk rfl ?_
      refine cg.mk (ir P b2) (by decide) (aO b2 p2 dz) ?_
      refine aq (p:=ir P i<ir P b2) (fun c2=>?_) (fun c2=>?_)
      ·rw[ag ⟨rfl,.inr c2⟩]at eE
       exact aZ (i+1) (by show P.length-(i+1)<P.length-i;omega) fG ⟨rfl,rfl,rfl,rfl,by rw[eE];rfl,rfl,rfl,rfl,rfl,bu (by omega),trivial⟩ (.refl _)
      ·rw[ah (fun h=>h.2.elim c1 c2)]at eE
       exact aZ (i+1) (by show P.length-(i+1)<P.length-i;omega) fG ⟨rfl,rfl,rfl,rfl,by rw[eE];rfl,rfl,rfl,rfl,rfl,bu (by omega),trivial⟩ (.refl _)
   ·have pN:i=P.length:=by omega
    subst pN
    refine aa 0 ?_
    refine aK ?_
    refine cU 3 rfl (yV rfl true (by omega) (by omega)) ?_
    refine aH.mk rfl ?_
    obtain⟨pb,qO⟩:∃p,P[b]?=some p:=⟨P[b],bc oS⟩
    have ahJ:P[(fk P l (bf n P) T P.length).toNat]?=some pb:=by rw[hb,bU];exact qO
    rw[vC qO]at gy
    refine cg.mk pb (by omega) ahJ ?_
    intro bs
    refine my [_,_,_,_,_,_] cC (.ae 0 bs 0 1 _ rfl (cT rfl)) rfl (by omega) (by decide) (by decide) (fun v' bN h'=>?_)
    refine aZ (k+1,v',bN) (by show P.length-(k+1)<P.length-k;omega) ⟨ab,?_⟩ ⟨rfl,rfl,rfl,rfl,rfl,bu (by omega),trivial⟩ (.drop 0 1 (aJ (by rw[fh,hb,bU];rfl)))
    show Acc 1 (k+1) v' bN (cq (dB P l (bf n P) (k+1)).2)
    rw[gy,show cq (out++[pb])=cq out++[.ai (.int .i64) pb] from cM];exact h'
  ·have ay:k=P.length:=by omega
   subst ay
   rw[xX]at cC
   have nP:=(Ev P.length (aM _)).1.ol
   rw[xX]at nP
   exact xB (s:=.slice (.int .i64)) [_,_,_,_,_] cC nP.symm (xj _) (by decide) (.drop 0 5 (.done ⟨rfl,rfl⟩))
theorem aeM(n:Nat)(l:List bg)(σ:Hp)(hl:l.length≤100000)(dW:fu n l=true):ACalls Tryz.prog 258 [.int .i64 n,.ai dG l] σ (fun r σ'=>r=.tup [.ai (.slice (.int .i64)) (kd n l),.int .i64 0]∧σ'=σ∧∃P,oL n l P):=by
 have hn:1≤n∧n≤256:=by
  unfold fu at dW
  simp only[bL,decide_eq_true_eq]at dW
  omega
 have B2:∀e∈l,(0≤e.1∧e.1<(n:Int))∧0≤e.2.1∧e.2.1<(n:Int):=fun e he=>by
  unfold fu at dW
  simp only[bL,fp]at dW
  have:=dW.2 e he
  exact⟨kM.1 this.1,kM.1 this.2⟩
 refine aA Tryz.func258 ?_
 refine fM [] (DK n l _ (by omega)) (fun _=>?_) (fun c=>absurd c (by rw[dW];decide))
 refine gN.M4 (S:=Nat×Nat×Nat×Nat) [] (.one 0 false (.one 2 false (.one 4 false (.alt 1 (.alt 3 (.alt 5 (.one 6 false (.one 7 false (.one 8 false .stop))) (.one 7 false (.one 5 false (.one 6 false (.one 8 false .stop))))) (.alt 5 (.alt 3 (.one 6 false (.one 7 false (.one 8 false .stop))) (.one 7 false (.one 3 false (.one 6 false (.one 8 false .stop))))) (.one 7 false (.alt 3 (.one 5 false (.one 6 false (.one 8 false .stop))) (.one 5 false (.one 3 false (.one 6 false (.one 8 false .stop)))))))) (.alt 3 (.alt 1 (.alt 5 (.one 6 false (.one 7 false (.one 8 false .stop))) (.one 7 false (.one 5 false (.one 6 false (.one 8 false .stop))))) (.alt 5 (.alt 1 (.one 6 false (.one 7 false (.one 8 false .stop))) (.one 7 false (.one 1 false (.one 6 false (.one 8 false .stop))))) (.one 7 false (.alt 1 (.one 5 false (.one 6 false (.one 8 false .stop))) (.one 5 false (.one 1 false (.one 6 false (.one 8 false .stop)))))))) (.alt 5 (.alt 1 (.alt 3 (.one 6 false (.one 7 false (.one 8 false .stop))) (.one 7 false (.one 3 false (.one 6 false (.one 8 false .stop))))) (.alt 3 (.alt 1 (.one 6 false (.one 7 false (.one 8 false .stop))) (.one 7 false (.one 1 false (.one 6 false (.one 8 false .stop))))) (.one 7 false (.alt 1 (.one 3 false (.one 6 false (.one 8 false .stop))) (.one 3 false (.one 1 false (.one 6 false (.one 8 false .stop)))))))) (.one 7 false (.alt 1 (.alt 3 (.one 5 false (.one 6 false (.one 8 false .stop))) (.one 5 false (.one 3 false (.one 6 false (.one 8 false .stop))))) (.alt 3 (.alt 1 (.one 5 false (.one 6 false (.one 8 false .stop))) (.one 5 false (.one 1 false (.one 6 false (.one 8 false .stop))))) (.one 5 false (.alt 1 (.one 3 false (.one 6 false (.one 8 false .stop))) (.one 3 false (.one 1 false (.one 6 false (.one 8 false .stop))))))))))))))) (fun x=>[(0,.int .i64 n),(1,.ai dG l),(6,.ptr x.1 0)]) (fun x=>(x.1,[.aj,.ae x.2.1 0 n 1,.ae x.2.2.1 0 n 1,.ae x.2.2.2 0 n 1,.aj,.int .i64 0,.aj])::(x.2.1,cz [.int .i64 0] n)::(x.2.2.1,cz [.int .i64 0] n)::(x.2.2.2,cz [.bool false] n)::σ) (by kernel_rfl) ?_ ?_
 ·refine And.intro ?_ ?_
  ·refine aU ?_
   intro bi
   refine And.intro ?_ ?_
   ·refine aU ?_
    intro bl
    refine And.intro ?_ ?_
    ·refine aU ?_
     intro bo
     intro w
     refine an 0 ?_
     exact cS.mk (w,bi,bl,bo) ⟨rfl,rfl,rfl,trivial⟩ (.pull [3,3,2,1] (aJ rfl))
    ·intro w
     refine aU ?_
     intro bo
     refine an 1 ?_
     exact cS.mk (w,bi,bl,bo) ⟨rfl,rfl,rfl,trivial⟩ (.pull [3,3,2,0] (aJ rfl))
   ·refine And.intro ?_ ?_
    ·refine aU ?_
     intro bo
     refine And.intro ?_ ?_
     ·refine aU ?_
      intro bl
      intro w
      refine an 0 ?_
      exact cS.mk (w,bi,bl,bo) ⟨rfl,rfl,rfl,trivial⟩ (.pull [3,3,2,2] (aJ rfl))
     ·intro w
      refine aU ?_
      intro bl
      refine an 1 ?_
      exact cS.mk (w,bi,bl,bo) ⟨rfl,rfl,rfl,trivial⟩ (.pull [3,3,1,2] (aJ rfl))
    ·intro w
     refine And.intro ?_ ?_
     ·refine aU ?_
      intro bl
      refine aU ?_
      intro bo
      refine an 2 ?_
      exact cS.mk (w,bi,bl,bo) ⟨rfl,rfl,rfl,trivial⟩ (.pull [3,3,1,0] (aJ rfl))
     ·refine aU ?_
      intro bo
      refine aU ?_
      intro bl
      refine an 2 ?_
      exact cS.mk (w,bi,bl,bo) ⟨rfl,rfl,rfl,trivial⟩ (.pull [3,3,1,1] (aJ rfl))
  ·refine And.intro ?_ ?_
   ·refine aU ?_
    intro bl
    refine And.intro ?_ ?_
    ·refine aU ?_
     intro bi
     refine And.intro ?_ ?_
     ·refine aU ?_
      intro bo
      intro w
      refine an 0 ?_
      exact cS.mk (w,bi,bl,bo) ⟨rfl,rfl,rfl,trivial⟩ (.pull [3,3,3,1] (aJ rfl))
     ·intro w
      refine aU ?_
      intro bo
      refine an 1 ?_
      exact cS.mk (w,bi,bl,bo) ⟨rfl,rfl,rfl,trivial⟩ (.pull [3,3,3,0] (aJ rfl))
    ·refine And.intro ?_ ?_
     ·refine aU ?_
      intro bo
      refine And.intro ?_ ?_
      ·refine aU ?_
       intro bi
       intro w
       refine an 0 ?_
       exact cS.mk (w,bi,bl,bo) ⟨rfl,rfl,rfl,trivial⟩ (.pull [3,3,3,2] (aJ rfl))
      ·intro w
       refine aU ?_
       intro bi
       refine an 1 ?_
       exact cS.mk (w,bi,bl,bo) ⟨rfl,rfl,rfl,trivial⟩ (.pull [3,2,3,2] (aJ rfl))
     ·intro w
      refine And.intro ?_ ?_
      ·refine aU ?_
       intro bi
       refine aU ?_
       intro bo
       refine an 2 ?_
       exact cS.mk (w,bi,bl,bo) ⟨rfl,rfl,rfl,trivial⟩ (.pull [3,2,3,0] (aJ rfl))
      ·refine aU ?_
       intro bo
       refine aU ?_
       intro bi
       refine an 2 ?_
       exact cS.mk (w,bi,bl,bo) ⟨rfl,rfl,rfl,trivial⟩ (.pull [3,2,3,1] (aJ rfl))
   ·refine And.intro ?_ ?_
    ·refine aU ?_
     intro bo
     refine And.intro ?_ ?_
     ·refine aU ?_
      intro bi
      refine And.intro ?_ ?_
      ·refine aU ?_
       intro bl
       intro w
       refine an 0 ?_
       exact cS.mk (w,bi,bl,bo) ⟨rfl,rfl,rfl,trivial⟩ (.pull [3,3,2,3] (aJ rfl))
      ·intro w
       refine aU ?_
       intro bl
       refine an 1 ?_
       exact cS.mk (w,bi,bl,bo) ⟨rfl,rfl,rfl,trivial⟩ (.pull [3,3,1,3] (aJ rfl))
     ·refine And.intro ?_ ?_
      ·refine aU ?_
       intro bl
       refine And.intro ?_ ?_
       ·refine aU ?_
        intro bi
        intro w
        refine an 0 ?_
        exact cS.mk (w,bi,bl,bo) ⟨rfl,rfl,rfl,trivial⟩ (.pull [3,3,3,3] (aJ rfl))
       ·intro w
        refine aU ?_
        intro bi
        refine an 1 ?_
        exact cS.mk (w,bi,bl,bo) ⟨rfl,rfl,rfl,trivial⟩ (.pull [3,2,3,3] (aJ rfl))
      ·intro w
       refine And.intro ?_ ?_
       ·refine aU ?_
        intro bi
        refine aU ?_
        intro bl
        refine an 2 ?_
        exact cS.mk (w,bi,bl,bo) ⟨rfl,rfl,rfl,trivial⟩ (.pull [3,2,1,3] (aJ rfl))
       ·refine aU ?_
        intro bl
        refine aU ?_
        intro bi
        refine an 2 ?_
        exact cS.mk (w,bi,bl,bo) ⟨rfl,rfl,rfl,trivial⟩ (.pull [3,2,2,3] (aJ rfl))
    ·intro w
     refine And.intro ?_ ?_
     ·refine aU ?_
      intro bi
      refine And.intro ?_ ?_
      ·refine aU ?_
       intro bl
       refine aU ?_
       intro bo
       refine an 3 ?_
       exact cS.mk (w,bi,bl,bo) ⟨rfl,rfl,rfl,trivial⟩ (.pull [3,2,1,0] (aJ rfl))
      ·refine aU ?_
       intro bo
       refine aU ?_
       intro bl
       refine an 3 ?_
       exact cS.mk (w,bi,bl,bo) ⟨rfl,rfl,rfl,trivial⟩ (.pull [3,2,1,1] (aJ rfl))
     ·refine And.intro ?_ ?_
      ·refine aU ?_
       intro bl
       refine And.intro ?_ ?_
       ·refine aU ?_
        intro bi
        refine aU ?_
        intro bo
        refine an 3 ?_
        exact cS.mk (w,bi,bl,bo) ⟨rfl,rfl,rfl,trivial⟩ (.pull [3,2,2,0] (aJ rfl))
       ·refine aU ?_
        intro bo
        refine aU ?_
        intro bi
        refine an 3 ?_
        exact cS.mk (w,bi,bl,bo) ⟨rfl,rfl,rfl,trivial⟩ (.pull [3,2,2,1] (aJ rfl))
      ·refine aU ?_
       intro bo
       refine And.intro ?_ ?_
       ·refine aU ?_
        intro bi
        refine aU ?_
        intro bl
        refine an 3 ?_
        exact cS.mk (w,bi,bl,bo) ⟨rfl,rfl,rfl,trivial⟩ (.pull [3,2,1,2] (aJ rfl))
       ·refine aU ?_
        intro bl
        refine aU ?_
        intro bi
        refine an 3 ?_
        exact cS.mk (w,bi,bl,bo) ⟨rfl,rfl,rfl,trivial⟩ (.pull [3,2,2,2] (aJ rfl))
 rintro⟨w,bi,bl,bo⟩ g
 have cy:∀(a:Nat) (σ:Hp),ACalls Tryz.prog 289 [.int .i64 n,.ai dG l,.int .i64 a] σ (aE (.ai (.int .i64) (ar n l a)) σ):=fun a σ=>Bo n l a σ hl
 have lN:∀k,cq ((List.range (k+1)).map fun a:Nat=>ar n l a)=cq ((List.range k).map fun a:Nat=>ar n l a)++[.ai (.int .i64) (ar n l k)]:=fun k=>by rw[wU,cM];exact cM
 have fN:∀k,(cq ((List.range k).map fun a:Nat=>ar n l a)).length=k:=fun k=>by rw[vd,cb,oY]
 refine cj (S:=Nat×AV×Hp) (fun x=>[(0,.int .i64 n),(1,.ai dG l),(6,.ptr w 0),(20,.int .i64 n),(21,.int .i64 x.1)]) (fun x=>(w,[x.2.1,.ae bi 0 n 1,.ae bl 0 n 1,.ae bo 0 n 1,.aj,.int .i64 0,.aj])::(bi,cz [.int .i64 0] n)::(bl,cz [.int .i64 0] n)::(bo,cz [.bool false] n)::(x.2.2++σ)) (fun x=>x.1≤n∧(x.1<n→Acc 1 x.1 x.2.1 x.2.2 (cq ((List.range x.1).map fun a:Nat=>ar n l a)))∧(x.1=n→x.2.1=.ai (.slice (.int .i64)) (bY n l)∧x.2.2=[])) (fun x=>n-x.1) (0,.aj,[]) ⟨⟨bK _,fun _=>.nil,fun h=>by have h:0=n:=h;omega⟩,⟨rfl,rfl,rfl,rfl,rfl,trivial⟩,rfl⟩ ?_
 rintro⟨k,v,acc⟩ g ⟨bD,mE,DZ⟩
 have hk:k≤n:=bD
 have cC:k<n→Acc 1 k v acc (cq ((List.range k).map fun a:Nat=>ar n l a)):=mE
 have j8:k=n→v=.ai (.slice (.int .i64)) (bY n l)∧acc=[]:=DZ
 clear bD mE DZ
 refine aq (p:=(k:Int)<n) (fun ab=>?_) (fun ay=>?_)
 ·have ab:k<n:=by omega
  have cC:=cC ab
  clear j8
  have mi:(bY n l).length=n:=by unfold bY;rw[cb,oY]
  have BZ:∀k,k+1=n→((cq ((List.range k).map fun a:Nat=>ar n l a)++[AV.ai (.int .i64) (ar n l k)]).drop 0).take ((k+1)*1)=(bY n l).flatMap (Sh.cells (.slice (.int .i64))):=fun k hk=>by
   rw[← lN,iB,eZ (by rw[fN,eo];exact aM _),hk]
   exact xj _
  refine .sched [5] (.one 0 false (.one 2 false (.one 3 false (.one 4 false (.one 5 true (.alt 1 (.one 6 false (.one 7 false (.one 8 false (.one 9 false .stop)))) (.one 6 false (.one 1 false (.one 7 false (.one 8 false (.one 9 false .stop))))))))))) (by kernel_rfl) ?_
  refine aI [] (Bo n l _ _ hl) ?_
  refine And.intro ?_ ?_
  ·refine aa 0 ?_
   intro aG
   refine Ao [_,_,_,_,_] cC.yb (.ae 0 aG 0 1 _ rfl (cT rfl)) rfl (by omega) (by decide) (by decide) (fun v' bN h'=>?_)
   obtain⟨b5,rfl,rfl⟩:=tz (by omega) h'
   refine an 1 ?_
   by_cases kE:k+1=n
   ·refine .ku 5 b5 0 (k+1) 1 _ (.slice (.int .i64)) (bY n l) rfl (BZ k kE) ⟨(mi.trans kE.symm),rfl,by decide⟩ 1 0 w _ rfl rfl ?_
    exact aZ (k+1,.ai (.slice (.int .i64)) (bY n l),[]) (by show n-(k+1)<n-k;omega) ⟨ab,fun h=>absurd kE (by have h:k+1<n:=h;omega),fun _=>⟨rfl,rfl⟩⟩ ⟨rfl,rfl,rfl,rfl,bu (by omega),trivial⟩ (.drop 0 1 (aJ rfl))
   ·exact aZ (k+1,.ae b5 0 (k+1) 1,[(b5,cq ((List.range k).map fun a:Nat=>ar n l a)++[.ai (.int .i64) (ar n l k)])]) (by show n-(k+1)<n-k;omega) ⟨ab,fun _=>by show Acc 1 (k+1) _ _ (cq ((List.range (k+1)).map fun a:Nat=>ar n l a));rw[lN];exact h',fun h=>absurd h kE⟩ ⟨rfl,rfl,rfl,rfl,bu (by omega),trivial⟩ (.drop 0 1 (aJ rfl))
  ·intro eV
   refine aa 1 ?_
   refine Ao [_,_,_,_,_] cC.yb (.ae 0 eV 0 1 _ rfl (cT rfl)) rfl (by omega) (by decide) (by decide) (fun v' bN h'=>?_)
   obtain⟨b5,rfl,rfl⟩:=tz (by omega) h'
   refine an 1 ?_
   by_cases kE:k+1=n
   ·refine .ku 5 b5 0 (k+1) 1 _ (.slice (.int .i64)) (bY n l) rfl (BZ k kE) ⟨(mi.trans kE.symm),rfl,by decide⟩ 1 0 w _ rfl rfl ?_
    exact aZ (k+1,.ai (.slice (.int .i64)) (bY n l),[]) (by show n-(k+1)<n-k;omega) ⟨ab,fun h=>absurd kE (by have h:k+1<n:=h;omega),fun _=>⟨rfl,rfl⟩⟩ ⟨rfl,rfl,rfl,rfl,bu (by omega),trivial⟩ (.drop 0 1 (aJ rfl))
   ·exact aZ (k+1,.ae b5 0 (k+1) 1,[(b5,cq ((List.range k).map fun a:Nat=>ar n l a)++[.ai (.int .i64) (ar n l k)])]) (by show n-(k+1)<n-k;omega) ⟨ab,fun _=>by show Acc 1 (k+1) _ _ (cq ((List.range (k+1)).map fun a:Nat=>ar n l a));rw[lN];exact h',fun h=>absurd h kE⟩ ⟨rfl,rfl,rfl,rfl,bu (by omega),trivial⟩ (.drop 0 1 (aJ rfl))
 ·have ay:k=n:=by omega
  obtain⟨rfl,rfl⟩:=j8 ay
  clear cC j8
  refine cj (S:=Nat×(List Int×List Int×List Bool×Nat×List (List Int))×(AV×Hp×AV×Hp)) (fun x=>[(0,.int .i64 n),(1,.ai dG l),(6,.ptr w 0),(34,.int .i64 n),(35,.int .i64 x.1)]) (fun x=>(w,dc (bY n l) bi bl bo n x.2.2.1 x.2.1.2.2.2.1 x.2.2.2.2.1)::(bi,ak x.2.1.1)::(bl,ak x.2.1.2.1)::(bo,bE x.2.1.2.2.1)::(x.2.2.2.1++(x.2.2.2.2.2++σ))) (fun x=>x.1≤n∧FI n (ar n l) x.2.1.1 x.2.1.2.1 x.2.1.2.2.1 [] x.2.1.2.2.2.1 x.2.1.2.2.2.2 []∧iw 1 0 x.2.2.1 x.2.2.2.1 []∧Acc 1 x.2.1.2.2.2.2.length x.2.2.2.2.1 x.2.2.2.2.2 (cq x.2.1.2.2.2.2)∧∀b:Nat,b<x.1→x.2.1.1.getD b 0≠0) (fun x=>n-x.1) (0,(List.replicate n 0,List.replicate n 0,List.replicate n false,0,[]),(.aj,[],.aj,[])) ⟨⟨bK _,.start n (ar n l),.nil,.nil,fun _ h=>absurd h (ml _)⟩,⟨rfl,rfl,rfl,rfl,rfl,trivial⟩,by rw[yX,Di];rfl⟩ ?_
  clear ay
  rintro⟨k,⟨ix,lo,on,aD,P⟩,⟨vs,lI,vp,eK⟩⟩ g2 ⟨bD,oT,sT,uA,oP⟩
  have hk:k≤n:=bD
  have hF:FI n (ar n l) ix lo on [] aD P []:=oT
  have hs:iw 1 0 vs lI []:=sT
  have hp:Acc 1 P.length vp eK (cq P):=uA
  have hv:∀b:Nat,b<k→ix.getD b 0≠0:=oP
  clear bD oT sT uA oP
  have Fc:((k:Nat):Int).toNat=k:=bU k
  refine aq (p:=(k:Int)<n) (fun ab=>?_) (fun ay=>?_)
  ·have ab:k<n:=by omega
   refine aa 0 ?_
   refine aK ?_
   refine aT 1 rfl (e9 rfl (by omega) (by rw[hF.li];omega)) ?_
   refine aq (p:=ix.getD ((k:Nat):Int).toNat 0=0) (fun c1=>?_) (fun c1=>?_)
   ·refine .mk [] _ (ahh n w bi bl bo l ix lo on aD P vs vp lI eK k σ (by omega) hF (by omega) c1 hs hp) ?_
    rintro _ _ ⟨rfl,Od,Oc,Oa,N0,P2,I6,Nn,N6,No,O2,gy,dz,s6,rT,rfl⟩
    rw[Fc]at s6
    refine aZ (k+1,(Od,Oc,Oa,N0,P2),(I6,Nn,N6,No)) (by show n-(k+1)<n-k;omega) ⟨ab,O2,gy,dz,fun b hb=>?_⟩ ⟨rfl,rfl,rfl,rfl,bu (by omega),trivial⟩ (.refl _)
    have hb:b<k+1:=hb
    by_cases e:b=k
    ·subst e;exact s6
    ·exact rT b (hv b (by omega))
   ·rw[Fc]at c1
    refine aZ (k+1,(ix,lo,on,aD,P),(vs,lI,vp,eK)) (by show n-(k+1)<n-k;omega) ⟨ab,hF,hs,hp,fun b hb=>?_⟩ ⟨rfl,rfl,rfl,rfl,bu (by omega),trivial⟩ (.refl _)
    have hb:b<k+1:=hb
    by_cases e:b=k
    ·subst e;exact c1
    ·exact hv b (by omega)
  ·have ay:k=n:=by omega
   subst ay
   have cf:oL k l P:=⟨hF.tj.prt,fun x h0 h1=>by
    have h2:=hv x.toNat (by omega)
    have h3:=(hF.tj.ya x h0 h1).1 (by rw[l4 h0];exact h2)
    exact h3.resolve_left (by simp)⟩
   have Fs:=CO hF.tj.prt
   refine aa 0 ?_
   obtain⟨x,hx,_⟩:=cf.all 0 (by omega) (by omega)
   have uJ:=Co hx
   obtain⟨b5,rfl,rfl⟩:=tz uJ hp
   rcases hs.zero with ⟨rfl,rfl⟩ | ⟨bs,J,rfl,rfl⟩
   ·skip
    refine .cI (args':=[.int .i64 k,.ai dG l,.ai (.slice (.int .i64)) P]) 4 b5 0 P.length 1 _ (.slice (.int .i64)) P rfl (by rw[iB,eZ (by rw[vd,eo];exact aM _)];exact xj _) ⟨rfl,rfl,by decide⟩ (eH (.refl _) (eH (.refl _) (eH .here (.refl _)))) ?_
    refine aB [] (TB k l P _ cf hl (by omega) B2) ?_
    exact .drop 0 4 (.done ⟨rfl,rfl,P,cf⟩)
   ·skip
    refine .cI (args':=[.int .i64 k,.ai dG l,.ai (.slice (.int .i64)) P]) 5 b5 0 P.length 1 _ (.slice (.int .i64)) P rfl (by rw[iB,eZ (by rw[vd,eo];exact aM _)];exact xj _) ⟨rfl,rfl,by decide⟩ (eH (.refl _) (eH (.refl _) (eH .here (.refl _)))) ?_
    refine aB [] (TB k l P _ cf hl (by omega) B2) ?_
    exact .drop 0 5 (.done ⟨rfl,rfl,P,cf⟩)
set_option maxHeartbeats 4000000
def fg(rw:List (Nat×List Int)):List AV:=rw.map fun r=>.ae r.1 0 r.2.length 1
def eM(rw:List (Nat×List Int)):Hp:=rw.map fun r=>(r.1,ak r.2)
theorem YF(rw:List (Nat×List Int)):(fg rw).length=rw.length:=cb _
def PO(P:List (List Int))(v:AV)(acc:Hp):Prop:=∃(ac:Hp) (rw:List (Nat×List Int)),acc=ac++eM rw∧Acc 1 rw.length v ac (fg rw)∧rw.map Prod.snd=P
theorem UQ(w bi bl bo n:Nat)(N:List (List Int))(ix lo A B:List Int)(on:List Bool)(P:List (List Int))(aD:Nat)(vs vp:AV)(lI eK:Hp)(a:Int)(σ:Hp)(h0:0≤a)(hn:a<n)(hi:ix.length=n)(hl:lo.length=n)(ho:on.length=n)(he:lo.getD a.toNat 0=ix.getD a.toNat 0)(OP:a ∉ A)(hB:∀x∈a::B,0≤x∧x<n)(cH:(A++a::B).length≤10000)(sW:P.length≤10000)
  (hs:iw 1 (A++a::B).length vs lI (ak (A++a::B))) (hp:PO P vp eK) :
  ACalls Tryz.prog 315 [.ptr w 0,.int .i64 a] ((w,dc N bi bl bo n vs aD vp)::(bi,ak ix)::(bl,ak lo)::(bo,bE on)::(lI++(eK++σ)))
   (fun r σ'=>r=.tup []∧∃eC ja gw gr,iw 1 A.length eC ja (ak A)∧PO (P++[fD (a::B)]) gw gr∧σ'=(w,dc N bi bl bo n eC aD gw)::(bi,ak ix)::(bl,ak lo)::(bo,bE (eR (a::B) on))::(ja++(gr++σ))):=by
 obtain⟨ac,rw,rfl,hp,mO⟩:=hp
 have sW:rw.length≤10000:=by rw[← mO,cb]at sW;exact sW
 rw[dN]
 obtain⟨K,hK⟩:∃K,(A++a::B).length=K:=⟨_,rfl⟩
 obtain⟨L,hL⟩:∃L:List Int,a::B=L:=⟨_,rfl⟩
 obtain⟨q,hq⟩:∃q,L.length=q:=⟨_,rfl⟩
 have hKA:K=A.length+q:=by rw[← hK,bG,hL,hq]
 have hq0:0<q:=by rw[← hq,← hL,fO];omega
 rw[hK]at hs cH
 obtain⟨bs,J,rfl,rfl,Fv⟩:=hs.pos (by omega)
 have kr:((ak (A++a::B)++J).drop A.length).take (q*1)=ak L:=by
  rw[hL]
  unfold ak
  rw[cM,dN,Pn (by rw[cb];exact aM _),FV (by rw[cb];exact aM _),yy,Kj (by rw[cb];omega),eZ (by rw[cb];omega)]
 have ey:A.length+q*1≤(ak (A++a::B)++J).length:=by rw[bG,Fv];omega
 refine aA Tryz.func315 ?_
 refine .quiet (by kernel_rfl) ?_
 refine aa 0 ?_
 refine aK ?_
 refine aT 2 rfl (e9 rfl h0 (by omega)) ?_
 refine aa 0 ?_
 refine aK ?_
 refine aT 1 rfl (e9 rfl h0 (by omega)) ?_
 refine eG (fun c=>?_) (fun c=>?_)
 ·exact absurd he (by simpa using c)
 clear c
 refine aa 0 ?_
 refine aB [4] (UR bs K A B J a _ hK OP (by omega)) ?_
 refine aa 1 ?_
 refine aH.mk ⟨by omega,by omega,by omega,rfl⟩ ?_
 have hC:∀σ,ACalls Tryz.prog 220 [.ae bs (0+((A.length:Nat):Int).toNat*1) (((K:Nat):Int).toNat-((A.length:Nat):Int).toNat) 1] ((bs,ak (A++a::B)++J)::σ) (fun x σ'=>∃b',x=.ae b' 0 q 1∧σ'=(b',ak L)::(bs,ak (A++a::B)++J)::σ):=fun σ=>by
  rw[show 0+((A.length:Nat):Int).toNat*1=A.length by omega,show ((K:Nat):Int).toNat-((A.length:Nat):Int).toNat=q by omega]
  exact UT bs A.length q _ _ σ kr ey (by omega)
 refine .mk [0] _ (hC _) ?_
 rintro _ _ ⟨bp,rfl,rfl⟩
 refine aa 2 ?_
 refine aH.mk ⟨by omega,by omega,by omega,by omega,rfl⟩ ?_
 refine an 2 ?_
 refine cj (S:=Nat) (fun i=>[(0,.ptr w 0),(5,.ae bp 0 q 1),(46,.ae bp 0 q 1),(47,.int .i64 q),(48,.int .i64 i)]) (fun i=>(bp,ak L)::(bs,ak (A++a::B)++J)::(w,dc N bi bl bo n (.ae bs 0 A.length 1) aD vp)::(bi,ak ix)::(bl,ak lo)::(bo,bE (eR (L.take i) on))::(ac++(eM rw++σ))) (fun i=>i≤q) (fun i=>q-i) 0 ⟨bK _,⟨rfl,rfl,rfl,rfl,rfl,trivial⟩,rfl⟩ ?_
 rintro i g fi
 have hiq:i≤q:=fi
 clear fi
 refine aq (p:=(i:Int)<q) (fun ab=>?_) (fun ay=>?_)
 ·have ab:i<L.length:=by omega
  obtain⟨x,hx⟩:∃x,L[i]=x:=⟨_,rfl⟩
  have EY:=hB x (by rw[hL,← hx];exact cD ab)
  have nP:=Gj (L.take i) on
  have NJ:(eR (L.take i) on).set x.toNat false=eR (L.take (i+1)) on:=by unfold eR;rw[fQ ab,hx,sa];rfl
  have nM:dP ⟨.int .i64,1,8,[.int .i64 0]⟩ (ak L) (0+((i:Nat):Int).toNat*1)=some (.int .i64 x):=by
   rw[e9 rfl (by omega) (by omega),bU,aR,bc ab,hx];rfl
  refine aK ?_
  refine aT 0 rfl nM ?_
  refine aa 2 ?_
  refine aK ?_
  refine cU 5 rfl (yV rfl false EY.1 (by omega)) ?_
  exact aZ (i+1) (by show q-(i+1)<q-i;omega) (by show i+1≤q;omega) ⟨rfl,rfl,rfl,rfl,bu (by omega),trivial⟩ (aJ (by rw[NJ];rfl))
 ·have ay:i=q:=by omega
  subst ay
  refine aB [0] (MO bp L i _ hq (by omega)) ?_
  refine aa 2 ?_
  intro eV
  refine Ao [_,_,_,_,_,_,_] hp.yb (.ae 0 eV 0 1 _ rfl (cT rfl)) rfl (by omega) (by decide) (by decide) (fun v' bN h'=>?_)
  obtain⟨b5,rfl,rfl⟩:=tz (by omega) h'
  refine an 3 ?_
  have fw:((w,dc N bi bl bo n (.ae bs 0 A.length 1) aD (.ae b5 0 (rw.length+1) 1))::(bi,ak ix)::(bl,ak lo)::(bo,bE (eR (L.take i) on))::(bs,ak (A++a::B)++J)::([(b5,fg rw++[.ae bp 0 i 1])]++((eM rw++[(bp,ak (fD L))])++σ))).Perm ((bp,ak (fD L))::(bs,ak (A++a::B)++J)::(w,dc N bi bl bo n (.ae bs 0 A.length 1) aD (.ae b5 0 (rw.length+1) 1))::(bi,ak ix)::(bl,ak lo)::(bo,bE (eR (L.take i) on))::([(b5,fg rw++[.ae bp 0 i 1])]++(eM rw++σ))):=by
   have h1:∀(X:Hp) (x y:Nat×List AV),(X++(x::([(b5,fg rw++[.ae bp 0 i 1])]++((eM rw++[y])++σ)))).Perm (y::x::(X++([(b5,fg rw++[.ae bp 0 i 1])]++(eM rw++σ)))):=fun X x y=>by
    refine nU.trans ?_
    refine (List.Perm.cons x ?_).trans (List.Perm.swap _ _ _)
    rw[dN]
    have h2:([(b5,fg rw++[AV.ae bp 0 i 1])]++(eM rw++([y]++σ))).Perm (y::([(b5,fg rw++[.ae bp 0 i 1])]++(eM rw++σ))):=by
     have h3:=nU (l₁:=[(b5,fg rw++[AV.ae bp 0 i 1])]++eM rw) (a:=y) (l₂:=σ)
     rw[dN,dN]at h3
     exact h3
    exact (List.Perm.append_left X h2).trans nU
   exact h1 [_,_,_,_] _ _
  refine .drop 0 1 (.perm fw (.done ⟨rfl,.ae bs 0 A.length 1,[(bs,ak A++(ak L++J))],.ae b5 0 (rw.length+1) 1,[(b5,fg rw++[.ae bp 0 i 1])]++eM (rw++[(bp,fD L)]),.ae bs A.length (ak A) (ak L++J) (by rw[mw,eo]),⟨_,rw++[(bp,fD L)],rfl,?_,?_⟩,?_⟩))
  ·rw[bG]
   have e:fg (rw++[(bp,fD L)])=fg rw++[.ae bp 0 i 1]:=by
    unfold fg
    rw[cM]
    show _++[AV.ae bp 0 (fD L).length 1]=_
    rw[Am,hq]
   rw[e]
   exact .ae b5 (rw.length+1) _ (by rw[bG,YF,eo];rfl)
  ·rw[cM,mO];subst hL;rfl
  ·rw[eZ (z7 hq)]
   subst hL
   have e1:ak (A++a::B)++J=ak A++(ak (a::B)++J):=by unfold ak;rw[cM,dN]
   have e3:eM (rw++[(bp,fD (a::B))])=eM rw++[(bp,ak (fD (a::B)))]:=cM
   rw[e1,e3]
   simp only[dN,Cc,yy]
theorem agh(n w bi bl bo:Nat)(l:List bg)(lK wB:List Int)(wx:List Bool)(dF:Nat)(P0:List (List Int))(uq fW:AV)(vQ iu:Hp)(a:Int)(σ:Hp)(hn:n≤1000)(h:FI n (ar n l) lK wB wx [] dF P0 [])(ha:0≤a∧a<n)(hf:lK.getD a.toNat 0=0)(hs:iw 1 0 uq vQ [])(hp:PO P0 fW iu):
  ACalls Tryz.prog 290 [.ptr w 0,.int .i64 a] ((w,dc (bY n l) bi bl bo n uq dF fW)::(bi,ak lK)::(bl,ak wB)::(bo,bE wx)::(vQ++(iu++σ)))
   (fun r σ'=>r=.tup []∧∃ix lo on aD P vs lI vp eK,FI n (ar n l) ix lo on [] aD P []∧iw 1 0 vs lI []∧PO P vp eK∧ix.getD a.toNat 0≠0∧(∀b:Nat,lK.getD b 0≠0→ix.getD b 0≠0)∧σ'=(w,dc (bY n l) bi bl bo n vs aD vp)::(bi,ak ix)::(bl,ak lo)::(bo,bE on)::(lI++(eK++σ))):=by
 have hle:=h.A3
 refine aA Tryz.func290 ?_
 refine Qq (S:=FrS) rfl (fun _=>0)
  (fun x=>[(0,.ptr w 0),(4,.ae x.2.2.2.1 0 (x.2.2.1.1.length+1) 2)])
  (fun x=>(w,dc (bY n l) bi bl bo n (.ae x.2.1.1 0 x.1.2.2.2.1.length 1) x.1.2.2.2.2.1 x.2.1.2.2.1)::(bi,ak x.1.1)::(bl,ak x.1.2.1)::(bo,bE x.1.2.2.1)::(x.2.1.1,ak x.1.2.2.2.1++x.2.1.2.1)::(x.2.2.2.1,bC (x.2.2.1.1++[(x.2.2.1.2.1,x.2.2.1.2.2)])++x.2.2.2.2)::(x.2.1.2.2.2++σ))
  (fun x=>(FI n (ar n l) x.1.1 x.1.2.1 x.1.2.2.1 x.1.2.2.2.1 x.1.2.2.2.2.1 x.1.2.2.2.2.2 (x.2.2.1.1++[(x.2.2.1.2.1,x.2.2.1.2.2)])∧PO x.1.2.2.2.2.2 x.2.1.2.2.1 x.2.1.2.2.2)∧x.1.1.getD a.toNat 0≠0∧∀b:Nat,lK.getD b 0≠0→x.1.1.getD b 0≠0)
  (fun x=>jc (ar n l) (x.2.2.1.1++[(x.2.2.1.2.1,x.2.2.1.2.2)])+iv (ar n l) x.1.1 n) ?_ ?_
 ·rintro⟨⟨ix,lo,on,st,aD,P⟩,⟨bs,Js,vp,eK⟩,⟨wy,v,k⟩,⟨bw,J⟩⟩ g ⟨⟨oT,uJ⟩,qQ,yv⟩
  have hF:FI n (ar n l) ix lo on st aD P (wy++[(v,k)]):=oT
  have hP:PO P vp eK:=uJ
  have hA:ix.getD a.toNat 0≠0:=qQ
  have hM:∀b:Nat,lK.getD b 0≠0→ix.getD b 0≠0:=yv
  clear oT uJ qQ yv
  have hle:=hF.A3
  have bX:=hF.mem
  have cX:=hF.tj.node v bX
  have BT:k≤(ar n l v).length:=hF.tn (v,k) (jF _ (a8.2 rfl))
  have mi:=yO n l v
  have sR:wy.length+1≤st.length:=by
   have:=hF.tj.sub.length_le
   rw[cb,bG]at this
   exact this
  have nB:IntKind.i64.wrap (((wy.length+1:Nat):Int)-1)=((wy.length:Nat):Int):=by rw[dh (by omega)];omega
  have hX:0+(IntKind.i64.wrap (((wy.length+1:Nat):Int)-1)).toNat*2=wy.length*2:=by rw[nB];omega
  have mP:dP ⟨.int .i64,1,8,[.int .i64 0]⟩ (bC (wy++[(v,k)])++J) (0+(IntKind.i64.wrap (((wy.length+1:Nat):Int)-1)).toNat*2+0)=some (.int .i64 v):=iY rfl (by rw[hX];exact sj rfl)
  have lO:dP ⟨.int .i64,1,8,[.int .i64 0]⟩ (bC (wy++[(v,k)])++J) (0+(IntKind.i64.wrap (((wy.length+1:Nat):Int)-1)).toNat*2+1)=some (.int .i64 k):=iY rfl (by rw[hX];exact CJ rfl)
  have ey:(bC (wy++[(v,k)])++J).length=wy.length*2+2+J.length:=by rw[bG,mu,bG];show (wy.length+1)*2+_=_;omega
  have kF:IntKind.i64.wrap ((k:Int)+1)=((k+1:Nat):Int):=by rw[dh (by omega)];omega
  have wE:kn ⟨.int .i64,1,8,[.int .i64 0]⟩ (bC (wy++[(v,k)])++J) (0+(IntKind.i64.wrap (((wy.length+1:Nat):Int)-1)).toNat*2+1) (.int .i64 (IntKind.i64.wrap ((k:Int)+1)))=some (bC (wy++[(v,k+1)])++J):=by
   rw[tD rfl rfl (by rw[hX,ey];omega),hX,kF,CX rfl]
  have vK:2=2∧0≤IntKind.i64.wrap (((wy.length+1:Nat):Int)-1)∧IntKind.i64.wrap (((wy.length+1:Nat):Int)-1)<((wy.length+1:Nat):Int):=⟨rfl,by omega,by omega⟩
  refine aH.mk vK ?_
  refine .quiet (by kernel_rfl) ?_
  refine aT 5 rfl lO ?_
  refine aa 0 ?_
  refine aT 5 rfl mP ?_
  refine aH.mk rfl ?_
  refine cg.mk (ar n l v) (by omega) (pq cX) ?_
  refine aq (p:=(k:Int)<(ar n l v).length) (fun ab=>?_) (fun ay=>?_)
  ·have ab:k<(ar n l v).length:=by omega
   obtain⟨b,hb⟩:∃b,(ar n l v)[k]=b:=⟨_,rfl⟩
   have sZ:b∈ar n l v:=hb▸cD ab
   have dJ:=(lu.1 sZ).1
   refine .quiet (by kernel_rfl) ?_
   refine aa 0 ?_
   refine aT 5 rfl mP ?_
   refine aH.mk rfl ?_
   refine cg.mk (ar n l v) (by omega) (pq cX) ?_
   refine aT 5 rfl lO ?_
   refine aH.mk rfl ?_
   refine cg.mk b (by omega) ((get_some ab).trans (congrArg some hb)) ?_
   refine aT 5 rfl lO ?_
   refine cU 5 rfl wE ?_
   refine aa 0 ?_
   refine aK ?_
   refine aT 1 rfl (e9 rfl dJ.1 (by rw[hF.li];omega)) ?_
   refine aq (p:=ix.getD b.toNat 0=0) (fun c1=>?_) (fun c1=>?_)
   ·have hN:=hF.new ab hb dJ c1
    have eg:(ak st).length=st.length*1:=by rw[mw,eo]
    refine .mk [] _ (A4 w bi bl bo n (bY n l) ix lo st on aD _ vp _ b ((bw,bC (wy++[(v,k+1)])++J)::(eK++σ)) dJ.1 dJ.2 hF.li hF.ll hF.kA (.ae bs st.length (ak st) Js eg) (by omega) (by omega)) ?_
    rintro _ _ ⟨rfl,BF,Eb,fh,rfl⟩
    obtain⟨lV,o6,rfl,rfl,_⟩:=fh.pos (by rw[bG];show 0<_+1;omega)
    intro aG
    have IB:(bC (wy++[(v,k+1)])).length=(wy.length+1)*2:=by rw[mu,bG];rfl
    refine yM (k:=wy.length+1) (n:=1) [_,_,_,_,_,_] (.ae bw (wy.length+1) (bC (wy++[(v,k+1)])) J IB) (.ae 0 aG 0 1 _ rfl (cT rfl)) rfl (by omega) (by decide) (by decide) (fun v' bN h'=>?_)
    obtain⟨o0,J2,rfl,rfl,_⟩:=h'.pos (by omega)
    have Ox:(wy++[(v,k+1)]).length+1=wy.length+1+1:=by rw[bG];rfl
    have wK:(b.toNat:Int)=b:=lT dJ.1
    have sU:=Ls (nx:=ar n l) (ix:=ix) (b:=b.toNat) (v:=((aD+1:Nat):Int)) (by omega) c1 (by rw[hF.li];omega) n
    rw[ag (by omega),wK]at sU
    refine .mk ((ix.set b.toNat ((aD+1:Nat):Int),lo.set b.toNat ((aD+1:Nat):Int),on.set b.toNat true,st++[b],aD+1,P),(lV,o6,vp,eK),(wy++[(v,k+1)],b,0),(o0,J2)) rfl ?_ ⟨⟨hN,hP⟩,?_,?_⟩ ⟨rfl,by rw[Ox];rfl,trivial⟩ (.drop 0 1 (aJ (by rw[o8 (wy++[(v,k+1)])];rfl)))
    ·show jc (ar n l) ((wy++[(v,k+1)])++[(b,0)])+iv (ar n l) (ix.set b.toNat ((aD+1:Nat):Int)) n<jc (ar n l) (wy++[(v,k)])+iv (ar n l) ix n
     rw[lW,lW,lW];omega
    ·show (ix.set b.toNat ((aD+1:Nat):Int)).getD a.toNat 0≠0
     rw[mz];split
     ·omega
     ·exact hA
    ·intro z hz
     show (ix.set b.toNat ((aD+1:Nat):Int)).getD z 0≠0
     rw[mz];split
     ·omega
     ·exact hM z hz
   ·have c1:¬(ix.getD b.toNat 0=0):=c1
    refine aa 0 ?_
    refine aK ?_
    have lQ:=hF.wo b dJ.1 dJ.2
    have Et:dP ⟨.int .i64,1,8,[.int .i64 0]⟩ (bC (wy++[(v,k+1)])++J) (0+(IntKind.i64.wrap (((wy.length+1:Nat):Int)-1)).toNat*2+0)=some (.int .i64 v):=iY rfl (by rw[hX];exact sj rfl)
    refine eO.kz 3 _ _ rfl (tw rfl dJ.1 (by rw[hF.kA];omega)) (fun c2=>?_) (fun c2=>?_)
    ·rw[lQ]at c2
     have hO:=hF.Iw ab hb (fP c2)
     refine .sched [] (upto [] 28 0) (by kernel_rfl) ?_
     refine aa 0 ?_
     refine aT 5 rfl Et ?_
     refine aa 0 ?_
     refine aT 5 rfl Et ?_
     refine aK ?_
     refine aT 2 rfl (e9 rfl cX.1 (by rw[hF.ll];omega)) ?_
     refine aa 0 ?_
     refine aK ?_
     refine aT 1 rfl (e9 rfl dJ.1 (by rw[hF.li];omega)) ?_
     refine aK ?_
     refine cU 2 rfl (nk rfl _ cX.1 (by rw[hF.ll];omega)) ?_
     have iL:(if ix.getD b.toNat 0<lo.getD v.toNat 0 then ix.getD b.toNat 0 else lo.getD v.toNat 0)=min (lo.getD v.toNat 0) (ix.getD b.toNat 0):=by split <;> omega
     refine .mk ((ix,lo.set v.toNat (min (lo.getD v.toNat 0) (ix.getD b.toNat 0)),on,st,aD,P),(bs,Js,vp,eK),(wy,v,k+1),(bw,J)) rfl ?_ ⟨⟨hO,hP⟩,hA,hM⟩ ⟨rfl,rfl,trivial⟩ (aJ (by rw[← iL];rfl))
     show jc (ar n l) (wy++[(v,k+1)])+iv (ar n l) ix n<jc (ar n l) (wy++[(v,k)])+iv (ar n l) ix n
     rw[lW,lW];omega
    ·rw[lQ]at c2
     have hO:=hF.off ab hb dJ.1 c1 (sd c2)
     refine .mk ((ix,lo,on,st,aD,P),(bs,Js,vp,eK),(wy,v,k+1),(bw,J)) rfl ?_ ⟨⟨hO,hP⟩,hA,hM⟩ ⟨rfl,rfl,trivial⟩ (.refl _)
     show jc (ar n l) (wy++[(v,k+1)])+iv (ar n l) ix n<jc (ar n l) (wy++[(v,k)])+iv (ar n l) ix n
     rw[lW,lW];omega
  ·have ay:k=(ar n l v).length:=by omega
   have mO:dP ⟨.aV [(0,3),(1,3)],2,16,[.int .i64 0,.int .i64 0]⟩ (bC (wy++[(v,k)])++J) (0+(IntKind.i64.wrap (((wy.length+1:Nat):Int)-1)).toNat*2)=some (.agg [.int .i64 v,.int .i64 k]):=T9 rfl (by rw[hX,ey];show wy.length*2+2≤_;omega) (by rw[hX];exact Qt rfl)
   refine aT 5 rfl mO ?_
   intro bt
   refine an 0 ?_
   refine aa 0 ?_
   have qq:(IntKind.i64.wrap (((wy.length+1:Nat):Int)-1)).toNat-Int.toNat 0=wy.length:=by rw[nB];omega
   have cH:0≤(0:Int)∧(0:Int)≤IntKind.i64.wrap (((wy.length+1:Nat):Int)-1)∧IntKind.i64.wrap (((wy.length+1:Nat):Int)-1)≤((wy.length+1:Nat):Int)∧2=2:=⟨by omega,by omega,by omega,rfl⟩
   by_cases he:lo.getD v.toNat 0=ix.getD v.toNat 0
   ·obtain⟨A,B,ao,FA,hB1⟩:=RN hF.tj.inc bX
    have Oq:v ∉ A:=fun hm=>by have:=FA v hm;omega
    have Oo:∀x∈v::B,0≤x∧x<(n:Int):=fun x hx=>hF.tj.node x (by rw[ao];exact jF _ hx)
    have bZ:=uY hF.tj.inc
    rw[ao]at bZ
    have hT:=hF.tell (by omega) ao he (fun x y hy=>(lu.1 hy).1) (Ct (v::B)) (Gf (oZ.1 bZ).2.1)
    have Fs:=Gq hF.tj.prt
    subst ao
    have eg:(ak (A++v::B)).length=(A++v::B).length*1:=by rw[mw,eo]
    refine .perm _ (xa [_,_,_,_,_] eK σ _ _) (UQ w bi bl bo n (bY n l) ix lo A B on P aD _ vp _ eK v _ cX.1 cX.2 hF.li hF.ll hF.kA he Oq Oo (by omega) (by omega) (.ae bs (A++v::B).length (ak (A++v::B)) Js eg) hP) ?_
    rintro _ _ ⟨rfl,eC,ja,gw,gr,dV,nO,rfl⟩
    have fw:((bt,[AV.int .i64 v,.int .i64 k])::(w,dc (bY n l) bi bl bo n eC aD gw)::(bi,ak ix)::(bl,ak lo)::(bo,bE (eR (v::B) on))::(bw,bC (wy++[(v,k)])++J)::(ja++(gr++σ))).Perm ((w,dc (bY n l) bi bl bo n eC aD gw)::(bi,ak ix)::(bl,ak lo)::(bo,bE (eR (v::B) on))::(ja++(gr++((bt,[AV.int .i64 v,.int .i64 k])::(bw,bC (wy++[(v,k)])++J)::σ)))):=by
     have h1:=(xa [(w,dc (bY n l) bi bl bo n eC aD gw),(bi,ak ix),(bl,ak lo),(bo,bE (eR (v::B) on))] (ja++gr) σ (bt,[AV.int .i64 v,.int .i64 k]) (bw,bC (wy++[(v,k)])++J)).symm
     rw[dN,dN]at h1
     exact h1
    refine⟨_,fw,?_⟩
    refine aH.mk cH ?_
    rcases FT wy with dU | ⟨w',⟨u,i⟩,dU⟩
    ·have qz:wy.length=0:=by rw[dU];rfl
     rw[dU]at hT
     obtain rfl:A=[]:=hT.U3
     refine aq (p:=(0:Int)<(((IntKind.i64.wrap (((wy.length+1:Nat):Int)-1)).toNat-Int.toNat 0:Nat):Int)) (fun c3=>?_) (fun c3=>?_)
     ·rw[qq,qz]at c3;exact absurd c3 (by decide)
     ·refine .drop 0 1 (.drop 4 1 (.done ⟨rfl,ix,lo,eR (v::B) on,aD,P++[fD (v::B)],eC,ja,gw,gr,hT,dV,nO,hA,hM,rfl⟩))
    ·have dU:wy=w'++[(u,i)]:=by simpa using dU
     have qz:wy.length=w'.length+1:=by rw[dU,bG];rfl
     have jd:(IntKind.i64.wrap (((wy.length+1:Nat):Int)-1)).toNat-Int.toNat 0=w'.length+1:=qq.trans qz
     have ot:IntKind.i64.wrap ((((IntKind.i64.wrap (((wy.length+1:Nat):Int)-1)).toNat-Int.toNat 0:Nat):Int)-1)=((w'.length:Nat):Int):=by rw[jd,dh (by omega)];omega
     have z6:(0+Int.toNat 0*2)+(IntKind.i64.wrap ((((IntKind.i64.wrap (((wy.length+1:Nat):Int)-1)).toNat-Int.toNat 0:Nat):Int)-1)).toNat*2+0=w'.length*2:=by rw[ot,bU];show 0+0*2+_+0=_;omega
     have oF:bC (wy++[(v,k)])++J=bC (w'++[(u,i)])++([.int .i64 v,.int .i64 k]++J):=by rw[dU,o8,dN];rfl
     have sU:dP ⟨.int .i64,1,8,[.int .i64 0]⟩ (bC (wy++[(v,k)])++J) ((0+Int.toNat 0*2)+(IntKind.i64.wrap ((((IntKind.i64.wrap (((wy.length+1:Nat):Int)-1)).toNat-Int.toNat 0:Nat):Int)-1)).toNat*2+0)=some (.int .i64 u):=iY rfl (by rw[z6,oF];exact sj rfl)
     have eP:0≤u∧u<(n:Int):=hF.tj.node u (hF.tj.sub.subset (by rw[dU];simp))
     have kr:AV.ae bw (0+Int.toNat 0*2) ((IntKind.i64.wrap (((wy.length+1:Nat):Int)-1)).toNat-Int.toNat 0) 2=.ae bw 0 (w'.length+1) 2:=by rw[jd];rfl
     have Ng:AV.ae bw 0 (w'.length+1) 2=AV.ae bw (0+Int.toNat 0*2) ((IntKind.i64.wrap (((wy.length+1:Nat):Int)-1)).toNat-Int.toNat 0) 2:=kr.symm
     refine aq (p:=(0:Int)<(((IntKind.i64.wrap (((wy.length+1:Nat):Int)-1)).toNat-Int.toNat 0:Nat):Int)) (fun c3=>?_) (fun c3=>?_)
     rotate_left
     ·rw[jd]at c3;omega
     have ze:2=2∧0≤IntKind.i64.wrap ((((IntKind.i64.wrap (((wy.length+1:Nat):Int)-1)).toNat-Int.toNat 0:Nat):Int)-1)∧IntKind.i64.wrap ((((IntKind.i64.wrap (((wy.length+1:Nat):Int)-1)).toNat-Int.toNat 0:Nat):Int)-1)<(((IntKind.i64.wrap (((wy.length+1:Nat):Int)-1)).toNat-Int.toNat 0:Nat):Int):=⟨rfl,by rw[ot];omega,by rw[ot,jd];omega⟩
     refine aH.mk ze ?_
     refine aT 5 rfl sU ?_
     refine .sched [] (upto [] 23 0) (by kernel_rfl) ?_
     refine aa 1 ?_
     refine aa 1 ?_
     refine aK ?_
     refine aT 3 rfl (e9 rfl eP.1 (by rw[hF.ll];omega)) ?_
     refine aa 1 ?_
     refine aa 0 ?_
     refine aK ?_
     refine aT 3 rfl (e9 rfl cX.1 (by rw[hF.ll];omega)) ?_
     refine aK ?_
     refine cU 3 rfl (nk rfl _ eP.1 (by rw[hF.ll];omega)) ?_
     have iL:(if lo.getD v.toNat 0<lo.getD u.toNat 0 then lo.getD v.toNat 0 else lo.getD u.toNat 0)=min (lo.getD u.toNat 0) (lo.getD v.toNat 0):=by split <;> omega
     have O5:0<A.length:=List.length_pos_of_mem (a:=u) (hT.tj.sub.subset (by rw[dU];simp))
     obtain⟨lV,o6,rfl,rfl,_⟩:=dV.pos O5
     have Nb:=FI.same (dU▸hF) he
     rw[dU]at hT
     have hE:(w,dc (bY n l) bi bl bo n (.ae lV 0 A.length 1) aD gw)::(bi,ak ix)::(bl,ak (lo.set u.toNat (if lo.getD v.toNat 0<lo.getD u.toNat 0 then lo.getD v.toNat 0 else lo.getD u.toNat 0)))::(bo,bE (eR (v::B) on))::(lV,ak A++o6)::(bw,bC (wy++[(v,k)])++J)::(gr++σ)=(w,dc (bY n l) bi bl bo n (.ae lV 0 A.length 1) aD gw)::(bi,ak ix)::(bl,ak (lo))::(bo,bE (eR (v::B) on))::(lV,ak A++o6)::(bw,bC (w'++[(u,i)])++([.int .i64 v,.int .i64 k]++J))::(gr++σ):=by rw[iL,Nb,oF]
     refine .mk ((ix,lo,eR (v::B) on,A,aD,P++[fD (v::B)]),(lV,o6,gw,gr),(w',u,i),(bw,[AV.int .i64 v,.int .i64 k]++J)) rfl ?_ ⟨⟨hT,nO⟩,hA,hM⟩ ⟨rfl,kr,trivial⟩ (.drop 0 1 (.pull [4,4,4,4,5] (aJ hE)))
     show jc (ar n l) (w'++[(u,i)])+iv (ar n l) ix n<jc (ar n l) (wy++[(v,k)])+iv (ar n l) ix n
     rw[dU,lW (ar n l) (w'++[(u,i)])];omega
   ·have OY:=fun ρ=>TC w bi bl bo n (bY n l) ix lo on aD (.ae bs 0 st.length 1) vp v ρ cX.1 cX.2 hF.li hF.ll he
    refine aB [4,4,4,4] (OY _) ?_
    refine aH.mk cH ?_
    rcases FT wy with dU | ⟨w',⟨u,i⟩,dU⟩
    ·have qz:wy.length=0:=by rw[dU];rfl
     rw[dU]at hF
     exact absurd hF.one he
    ·have dU:wy=w'++[(u,i)]:=by simpa using dU
     have qz:wy.length=w'.length+1:=by rw[dU,bG];rfl
     have jd:(IntKind.i64.wrap (((wy.length+1:Nat):Int)-1)).toNat-Int.toNat 0=w'.length+1:=qq.trans qz
     have ot:IntKind.i64.wrap ((((IntKind.i64.wrap (((wy.length+1:Nat):Int)-1)).toNat-Int.toNat 0:Nat):Int)-1)=((w'.length:Nat):Int):=by rw[jd,dh (by omega)];omega
     have z6:(0+Int.toNat 0*2)+(IntKind.i64.wrap ((((IntKind.i64.wrap (((wy.length+1:Nat):Int)-1)).toNat-Int.toNat 0:Nat):Int)-1)).toNat*2+0=w'.length*2:=by rw[ot,bU];show 0+0*2+_+0=_;omega
     have oF:bC (wy++[(v,k)])++J=bC (w'++[(u,i)])++([.int .i64 v,.int .i64 k]++J):=by rw[dU,o8,dN];rfl
     have sU:dP ⟨.int .i64,1,8,[.int .i64 0]⟩ (bC (wy++[(v,k)])++J) ((0+Int.toNat 0*2)+(IntKind.i64.wrap ((((IntKind.i64.wrap (((wy.length+1:Nat):Int)-1)).toNat-Int.toNat 0:Nat):Int)-1)).toNat*2+0)=some (.int .i64 u):=iY rfl (by rw[z6,oF];exact sj rfl)
     have eP:0≤u∧u<(n:Int):=hF.tj.node u (hF.tj.sub.subset (by rw[dU];simp))
     have kr:AV.ae bw (0+Int.toNat 0*2) ((IntKind.i64.wrap (((wy.length+1:Nat):Int)-1)).toNat-Int.toNat 0) 2=.ae bw 0 (w'.length+1) 2:=by rw[jd];rfl
     have Ng:AV.ae bw 0 (w'.length+1) 2=AV.ae bw (0+Int.toNat 0*2) ((IntKind.i64.wrap (((wy.length+1:Nat):Int)-1)).toNat-Int.toNat 0) 2:=kr.symm
     refine aq (p:=(0:Int)<(((IntKind.i64.wrap (((wy.length+1:Nat):Int)-1)).toNat-Int.toNat 0:Nat):Int)) (fun c3=>?_) (fun c3=>?_)
     rotate_left
     ·rw[jd]at c3;omega
     have ze:2=2∧0≤IntKind.i64.wrap ((((IntKind.i64.wrap (((wy.length+1:Nat):Int)-1)).toNat-Int.toNat 0:Nat):Int)-1)∧IntKind.i64.wrap ((((IntKind.i64.wrap (((wy.length+1:Nat):Int)-1)).toNat-Int.toNat 0:Nat):Int)-1)<(((IntKind.i64.wrap (((wy.length+1:Nat):Int)-1)).toNat-Int.toNat 0:Nat):Int):=⟨rfl,by rw[ot];omega,by rw[ot,jd];omega⟩
     refine aH.mk ze ?_
     refine aT 6 rfl sU ?_
     refine .sched [] (upto [] 23 0) (by kernel_rfl) ?_
     refine aa 0 ?_
     refine aa 0 ?_
     refine aK ?_
     refine aT 2 rfl (e9 rfl eP.1 (by rw[hF.ll];omega)) ?_
     refine aa 0 ?_
     refine aa 4 ?_
     refine aK ?_
     refine aT 2 rfl (e9 rfl cX.1 (by rw[hF.ll];omega)) ?_
     refine aK ?_
     refine cU 2 rfl (nk rfl _ eP.1 (by rw[hF.ll];omega)) ?_
     have iL:(if lo.getD v.toNat 0<lo.getD u.toNat 0 then lo.getD v.toNat 0 else lo.getD u.toNat 0)=min (lo.getD u.toNat 0) (lo.getD v.toNat 0):=by split <;> omega
     have hU:=FI.up (dU▸hF) (by omega) he
     have hE:(w,dc (bY n l) bi bl bo n (.ae bs 0 st.length 1) aD vp)::(bi,ak ix)::(bl,ak (lo.set u.toNat (if lo.getD v.toNat 0<lo.getD u.toNat 0 then lo.getD v.toNat 0 else lo.getD u.toNat 0)))::(bo,bE (on))::(bs,ak st++Js)::(bw,bC (wy++[(v,k)])++J)::(eK++σ)=(w,dc (bY n l) bi bl bo n (.ae bs 0 st.length 1) aD vp)::(bi,ak ix)::(bl,ak (lo.set u.toNat (min (lo.getD u.toNat 0) (lo.getD v.toNat 0))))::(bo,bE (on))::(bs,ak st++Js)::(bw,bC (w'++[(u,i)])++([.int .i64 v,.int .i64 k]++J))::(eK++σ):=by rw[iL,oF]
     refine .mk ((ix,lo.set u.toNat (min (lo.getD u.toNat 0) (lo.getD v.toNat 0)),on,st,aD,P),(bs,Js,vp,eK),(w',u,i),(bw,[AV.int .i64 v,.int .i64 k]++J)) rfl ?_ ⟨⟨hU,hP⟩,hA,hM⟩ ⟨rfl,kr,trivial⟩ (.drop 4 1 (aJ hE))
     show jc (ar n l) (w'++[(u,i)])+iv (ar n l) ix n<jc (ar n l) (wy++[(v,k)])+iv (ar n l) ix n
     rw[dU,lW (ar n l) (w'++[(u,i)])];omega
 ·intro hr
  obtain⟨ix,lo,on,hF,hA,hM,heq,O4⟩:∃ix lo on,FI n (ar n l) ix lo on [a] (dF+1) P0 [(a,0)]∧ix.getD a.toNat 0≠0∧(∀b:Nat,lK.getD b 0≠0→ix.getD b 0≠0)∧lo.getD a.toNat 0=ix.getD a.toNat 0∧∀ρ,ACalls Tryz.prog 314 [.ptr w 0,.int .i64 a] ((w,dc (bY n l) bi bl bo n uq dF fW)::(bi,ak lK)::(bl,ak wB)::(bo,bE wx)::(vQ++ρ))
    (fun r σ'=>r=.agg [.int .i64 a,.int .i64 0]∧∃bs Js,σ'=(w,dc (bY n l) bi bl bo n (.ae bs 0 [a].length 1) (dF+1) fW)::(bi,ak ix)::(bl,ak lo)::(bo,bE on)::(bs,ak [a]++Js)::ρ):=by
   have h1:=h.enter (way2:=[]) ha hf (fun v hv=>by cases hv) rfl (fun t ht=>by cases ht) (fun t ht=>by cases ht)
   refine⟨_,_,_,h1,?_,?_,?_,fun ρ=>(A4 w bi bl bo n (bY n l) lK wB [] wx dF uq fW vQ a ρ ha.1 ha.2 h.li h.ll h.kA hs (bK _) (by omega)).mono ?_⟩
   ·rw[mz,ag ⟨rfl,by rw[h.li];omega⟩];omega
   ·intro z hz
    rw[mz];split
    ·omega
    ·exact hz
   ·rw[mz,mz,ag ⟨rfl,by rw[h.ll];omega⟩,ag ⟨rfl,by rw[h.li];omega⟩]
   ·rintro _ _ ⟨rfl,BF,Eb,fh,rfl⟩
    obtain⟨bs,Js,rfl,rfl,_⟩:=fh.pos (by show 0<1;decide)
    exact⟨rfl,bs,Js,rfl⟩
  clear hf hs h
  have hle:=hF.A3
  have BT:=yO n l a
  refine .mk [] _ (O4 (iu++σ)) ?_
  rintro _ _ ⟨rfl,bs,Js,rfl⟩
  intro bw
  refine aH.mk ⟨rfl,by decide,by decide⟩ ?_
  refine .quiet (by kernel_rfl) ?_
  refine aa 0 ?_
  refine aa 1 ?_
  refine aa 0 ?_
  refine aH.mk rfl ?_
  refine cg.mk (ar n l a) (by omega) (pq ha) ?_
  refine aq (p:=(0:Int)<(ar n l a).length) (fun ab=>?_) (fun ay=>?_)
  ·have ab:0<(ar n l a).length:=by omega
   obtain⟨b,hb⟩:∃b,(ar n l a)[0]=b:=⟨_,rfl⟩
   have sZ:b∈ar n l a:=hb▸cD ab
   have dJ:=(lu.1 sZ).1
   refine .quiet (by kernel_rfl) ?_
   refine aa 1 ?_
   refine aa 0 ?_
   refine aH.mk rfl ?_
   refine cg.mk (ar n l a) (by omega) (pq ha) ?_
   refine aa 0 ?_
   refine aH.mk rfl ?_
   refine cg.mk b (by decide) ((get_some ab).trans (congrArg some hb)) ?_
   refine aa 0 ?_
   refine an 0 ?_
   refine aa 1 ?_
   refine aK ?_
   refine aT 2 rfl (e9 rfl dJ.1 (by rw[hF.li];omega)) ?_
   refine aq (p:=ix.getD b.toNat 0=0) (fun c1=>?_) (fun c1=>?_)
   ·have hN:=FI.new (w:=[]) hF ab hb dJ c1
    refine .mk [5,5,5,5,5] _ (A4 w bi bl bo n (bY n l) ix lo [a] on (dF+1) _ fW _ b ((bw,[.int .i64 a,.int .i64 1])::(iu++σ)) dJ.1 dJ.2 hF.li hF.ll hF.kA (.ae bs 1 (ak [a]) Js rfl) (by show 1≤10000;decide) (by omega)) ?_
    rintro _ _ ⟨rfl,BF,Eb,fh,rfl⟩
    obtain⟨lV,o6,rfl,rfl,_⟩:=fh.pos (by show 0<2;decide)
    intro aG
    refine yM (k:=1) (n:=1) [_,_,_,_,_,_] (.ae bw 1 (bC [(a,1)]) [] rfl) (.ae 0 aG 0 1 _ rfl (cT rfl)) rfl (by decide) (by decide) (by decide) (fun v' bN h'=>?_)
    obtain⟨o0,J2,rfl,rfl,_⟩:=h'.pos (by decide)
    refine xf hr ((ix.set b.toNat ((dF+1+1:Nat):Int),lo.set b.toNat ((dF+1+1:Nat):Int),on.set b.toNat true,[a]++[b],dF+1+1,P0),(lV,o6,fW,iu),([(a,1)],b,0),(o0,J2)) ⟨rfl,⟨⟨hN,hp⟩,?_,?_⟩,⟨rfl,rfl,trivial⟩,.drop 0 1 (aJ rfl)⟩
    ·show (ix.set b.toNat ((dF+1+1:Nat):Int)).getD a.toNat 0≠0
     rw[mz];split
     ·omega
     ·exact hA
    ·intro z hz
     show (ix.set b.toNat ((dF+1+1:Nat):Int)).getD z 0≠0
     rw[mz];split
     ·omega
     ·exact hM z hz
   ·have c1:¬(ix.getD b.toNat 0=0):=c1
    have lQ:=hF.wo b dJ.1 dJ.2
    refine aa 1 ?_
    refine aK ?_
    refine eO.kz 4 _ _ rfl (tw rfl dJ.1 (by rw[hF.kA];omega)) (fun c2=>?_) (fun c2=>?_)
    ·rw[lQ]at c2
     have hO:=FI.Iw (w:=[]) hF ab hb (fP c2)
     refine .sched [] (upto [] 28 0) (by kernel_rfl) ?_
     refine aa 1 ?_
     refine aa 0 ?_
     refine aa 1 ?_
     refine aa 0 ?_
     refine aK ?_
     refine aT 3 rfl (e9 rfl ha.1 (by rw[hF.ll];omega)) ?_
     refine aa 1 ?_
     refine aK ?_
     refine aT 2 rfl (e9 rfl dJ.1 (by rw[hF.li];omega)) ?_
     refine aK ?_
     refine cU 3 rfl (nk rfl _ ha.1 (by rw[hF.ll];omega)) ?_
     have iL:(if ix.getD b.toNat 0<lo.getD a.toNat 0 then ix.getD b.toNat 0 else lo.getD a.toNat 0)=min (lo.getD a.toNat 0) (ix.getD b.toNat 0):=by split <;> omega
     have hE:(w,dc (bY n l) bi bl bo n (.ae bs 0 [a].length 1) (dF+1) fW)::(bi,ak ix)::(bl,ak (lo.set a.toNat (if ix.getD b.toNat 0<lo.getD a.toNat 0 then ix.getD b.toNat 0 else lo.getD a.toNat 0)))::(bo,bE on)::(bs,ak [a]++Js)::(bw,bC [(a,1)]++[])::(iu++σ)=(w,dc (bY n l) bi bl bo n (.ae bs 0 [a].length 1) (dF+1) fW)::(bi,ak ix)::(bl,ak (lo.set a.toNat (min (lo.getD a.toNat 0) (ix.getD b.toNat 0))))::(bo,bE on)::(bs,ak [a]++Js)::(bw,bC [(a,1)]++[])::(iu++σ):=by rw[iL]
     exact xf hr ((ix,lo.set a.toNat (min (lo.getD a.toNat 0) (ix.getD b.toNat 0)),on,[a],dF+1,P0),(bs,Js,fW,iu),([],a,1),(bw,[])) ⟨rfl,⟨⟨hO,hp⟩,hA,hM⟩,⟨rfl,rfl,trivial⟩,.pull [5,5,5,5,5] (aJ hE)⟩
    ·rw[lQ]at c2
     have hO:=FI.off (w:=[]) hF ab hb dJ.1 c1 (sd c2)
     exact xf hr ((ix,lo,on,[a],dF+1,P0),(bs,Js,fW,iu),([],a,1),(bw,[])) ⟨rfl,⟨⟨hO,hp⟩,hA,hM⟩,⟨rfl,rfl,trivial⟩,.pull [5,5,5,5,5] (aJ rfl)⟩
  ·have ay:(ar n l a).length=0:=by omega
   refine aa 0 ?_
   intro aG
   refine an 0 ?_
   refine aa 0 ?_
   have hT:=FI.tell (w:=[]) (A:=[]) (B:=[]) (part:=fD [a]) hF (by omega) rfl heq (fun x y hy=>(lu.1 hy).1) (Ct [a]) (Gf (by simp))
   have Fs:=Gq hF.tj.prt
   have NI:((w,dc (bY n l) bi bl bo n (.ae bs 0 [a].length 1) (dF+1) fW)::(bi,ak ix)::(bl,ak lo)::(bo,bE on)::(bs,ak [a]++Js)::(iu++((aG,[AV.int .i64 a,.int .i64 0])::(bw,[AV.int .i64 a,.int .i64 0])::σ))).Perm ((aG,[AV.int .i64 a,.int .i64 0])::(bw,[AV.int .i64 a,.int .i64 0])::(w,dc (bY n l) bi bl bo n (.ae bs 0 [a].length 1) (dF+1) fW)::(bi,ak ix)::(bl,ak lo)::(bo,bE on)::(bs,ak [a]++Js)::(iu++σ)):=by
    have h1:=xa [(w,dc (bY n l) bi bl bo n (.ae bs 0 [a].length 1) (dF+1) fW),(bi,ak ix),(bl,ak lo),(bo,bE on),(bs,ak [a]++Js)] iu σ (aG,[AV.int .i64 a,.int .i64 0]) (bw,[AV.int .i64 a,.int .i64 0])
    exact h1.trans (List.Perm.cons _ (nU (l₁:=[(w,dc (bY n l) bi bl bo n (.ae bs 0 [a].length 1) (dF+1) fW),(bi,ak ix),(bl,ak lo),(bo,bE on),(bs,ak [a]++Js)])))
   refine .perm _ NI (UQ w bi bl bo n (bY n l) ix lo [] [] on P0 (dF+1) _ fW _ iu a _ ha.1 ha.2 hF.li hF.ll hF.kA heq (by simp) (fun x hx=>by rw[List.mem_singleton.1 hx];exact ha) (by show 1≤10000;decide) (by omega) (.ae bs 1 (ak [a]) Js rfl) hp) ?_
   rintro _ _ ⟨rfl,eC,ja,gw,gr,dV,nO,rfl⟩
   have fw:((aG,[AV.int .i64 a,.int .i64 0])::(w,dc (bY n l) bi bl bo n eC (dF+1) gw)::(bi,ak ix)::(bl,ak lo)::(bo,bE (eR [a] on))::(bw,[AV.int .i64 a,.int .i64 0])::(ja++(gr++σ))).Perm ((w,dc (bY n l) bi bl bo n eC (dF+1) gw)::(bi,ak ix)::(bl,ak lo)::(bo,bE (eR [a] on))::(ja++(gr++((aG,[AV.int .i64 a,.int .i64 0])::(bw,[AV.int .i64 a,.int .i64 0])::σ)))):=by
    have h1:=(xa [(w,dc (bY n l) bi bl bo n eC (dF+1) gw),(bi,ak ix),(bl,ak lo),(bo,bE (eR [a] on))] (ja++gr) σ (aG,[AV.int .i64 a,.int .i64 0]) (bw,[AV.int .i64 a,.int .i64 0])).symm
    rw[dN,dN]at h1
    exact h1
   refine⟨_,fw,?_⟩
   refine aH.mk (by decide) ?_
   exact .drop 0 1 (.drop 4 1 (.done ⟨rfl,ix,lo,eR [a] on,dF+1,P0++[fD [a]],eC,ja,gw,gr,hT,dV,nO,hA,hM,rfl⟩))
end Go.Proofs.YtnikdflhefijbaaGreat
