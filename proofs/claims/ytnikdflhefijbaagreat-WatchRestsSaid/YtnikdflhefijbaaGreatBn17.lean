import Derived.Test.YtnikdflhefijbaaGreatBn16
import Derived.Shelf.SlSortCmp.NoneTotal
import Derived.Test.YtnikdflhefijbaaGreatBn5
import Derived.Test.YtnikdflhefijbaaGreatBn9
import Derived.Test.YtnikdflhefijbaaGreatBn10
import Derived.Test.YtnikdflhefijbaaGreatBn15
namespace Go.Proofs.YtnikdflhefijbaaGreat
open Go.RowKit
set_option maxRecDepth 100000
set_option maxHeartbeats 4000000
theorem D5{P:List (List Int)}{rw:List (Nat×List Int)}{i:Nat}{p:List Int}(h:rw.map Prod.snd=P)(hp:P[i]?=some p):∃b,rw[i]?=some (b,p):=by
 rw[← h,fm]at hp
 cases hr:rw[i]? with
 |none=>rw[hr]at hp;cases hp
 |some r=>rw[hr]at hp;cases hp;exact⟨r.1,rfl⟩
theorem DW{i:TI}(hw:i.wide=false){rw:List (Nat×List Int)}{z:Int}{b:Nat}{p:List Int}(_hz:0≤z)(h:rw[z.toNat]?=some (b,p)):ep i (fx rw) (0+z.toNat*1)=some (.af b 0 p.length 1):=
 jf hw (by rw[dR,eA];unfold fx;rw[fm,h];rfl)
theorem H5{rw:List (Nat×List Int)}{i b:Nat}{p:List Int}{σ:Hp}(h:rw[i]?=some (b,p)):(eV rw++σ)[i]?=some (b,ao p):=by
 have hi:i<(eV rw).length:=by unfold eV;rw[cg];exact (ck.1 h).1
 rw[ky hi]
 unfold eV
 rw[fm,h];rfl
theorem R8{p:List Int}{x:Int}(h:p[((0:Int)).toNat]?=some x):p.getD ((0:Int)).toNat 0=x:=by rw[aZ,h];rfl
theorem QW:∀{ro:List (Nat×List Int)},(ro.map Prod.snd).flatten.Nodup→(∀r∈ro,r.2≠[])→ro.Nodup
 | [],_,_=>PL
 |r::ro,h,aX=>by
  have h:(r.2++(ro.map Prod.snd).flatten).Nodup:=h
  have h:=pt.1 h
  refine mE.2 ⟨fun hm=>?_,QW h.2.1 fun q hq=>aX q (dp _ hq)⟩
  obtain⟨x,hx⟩:=List.exists_mem_of_ne_nil _ (aX r (cj ..))
  exact h.2.2 x hx x (pr.2 ⟨r.2,dT.2 ⟨r,hm,rfl⟩,hx⟩) rfl
theorem Qw{α:Type}[DecidableEq α]:∀{A B:List α},A.Nodup→(∀x∈A,x∈B)→B.length≤A.length→A.Perm B
 | [],B,_,_,h=>by rw[iE.1 (Nat.le_zero.1 h)]
 |a::A,B,hn,hs,hl=>by
  have hn:=mE.1 hn
  have ha:=hs a (cj ..)
  have hp:=List.perm_cons_erase ha
  have hle:=hp.length_eq
  refine (List.Perm.cons a (Qw hn.2 (fun x hx=>?_) ?_)).trans hp.symm
  ·exact (PA (fun e:x=a=>hn.1 (e▸hx))).2 (hs x (dp _ hx))
  ·rw[ik]at hle hl;omega
theorem ab7(n:Nat)(l:List bK)(P:List (List Int))(rw:List (Nat×List Int))(bq:Nat)(σ:Hp)(h:oZ n l P)(mZ:rw.map Prod.snd=P)(uD:0<P.length)(hl:l.length≤100000)(hn:n≤1000)(hr:∀e∈l,(0≤e.1∧e.1<(n:Int))∧0≤e.2.1∧e.2.1<(n:Int)):
  ACalls Tryz.prog 291 [.int .i64 n,.ae dB l,.af bq 0 P.length 1] ((bq,fx rw)::(eV rw++σ)) (fun r σ'=>∃bo eU,r=.af bo 0 eU.length 1∧eU.map Prod.snd=kq n l∧σ'=(bo,fx eU)::(eV eU++σ)∧(kq n l).Perm P):=by
 have wD:rw.length=P.length:=by rw[← mZ,cg]
 obtain⟨s7,hpf⟩:=C3 h.ok
 have hNt:((n:Nat):Int).toNat=n:=bC n
 refine ar Tryz.func291 ?_
 intro bl
 refine bc ?_
 intro bw
 intro bW
 refine aj 0 ?_
 refine bQ (S:=Nat) (fun k=>[(2,.af bq 0 P.length 1),(4,.ptr bl 0),(7,.ptr bW 0),(20,.af bq 0 P.length 1),(21,.int .i64 P.length),(22,.int .i64 k)]) (fun k=>(bW,[.af bw 0 n 1])::(bw,ao (mV P k (List.replicate n 0)))::(bl,[.ae dB l])::(bq,fx rw)::(eV rw++σ)) (fun k=>k≤P.length) (fun k=>P.length-k) 0 ⟨bA _,⟨rfl,rfl,rfl,rfl,rfl,rfl,trivial⟩,by rw[show ao (mV P 0 (List.replicate n 0))=cD [.int .i64 0] n from (yW n).symm];rfl⟩ ?_
 intro k g aK
 have hk:k≤P.length:=aK
 clear aK
 refine ak (p:=(k:Int)<P.length) (fun ab=>?_) (fun aq=>?_)
 ·have ab:k<P.length:=by omega
  obtain⟨p,hp⟩:∃p,P[k]=p:=⟨_,rfl⟩
  have e9:P[k]?=some p:=(bh ab).trans (congrArg some hp)
  have s6:=h.ok.node p (cx e9)
  have aic:p.length≤n:=C5 n p ((h.ok.BV p (cx e9)).imp fun h=>by omega) s6
  have sg:=CM P k (List.replicate n 0)
  rw[gl]at sg
  have sY:mV P (k+1) (List.replicate n 0)=lC k p (mV P k (List.replicate n 0)):=by show lC k (P.getD k []) _=_;rw[vm e9]
  generalize mV P k (List.replicate n 0)=W at sg sY
  obtain⟨bk,p9⟩:=D5 mZ e9
  refine aM ?_
  refine bf 3 rfl (DW rfl (by omega) (by rw[bC];exact p9)) ?_
  refine bQ (S:=Nat) (fun j=>[(2,.af bq 0 P.length 1),(4,.ptr bl 0),(7,.ptr bW 0),(8,.int .i64 k),(20,.af bq 0 P.length 1),(21,.int .i64 P.length),(22,.int .i64 k),(27,.af bk 0 p.length 1),(28,.int .i64 p.length),(29,.int .i64 j)]) (fun j=>(bW,[.af bw 0 n 1])::(bw,ao (lC k (p.take j) W))::(bl,[.ae dB l])::(bq,fx rw)::(eV rw++σ)) (fun j=>j≤p.length) (fun j=>p.length-j) 0 ⟨bA _,⟨rfl,rfl,rfl,rfl,rfl,rfl,rfl,rfl,rfl,rfl,trivial⟩,rfl⟩ ?_
  intro j g2 p8
  have hj:j≤p.length:=p8
  clear p8
  refine ak (p:=(j:Int)<p.length) (fun dA=>?_) (fun lV=>?_)
  ·have dA:j<p.length:=by omega
   obtain⟨a,ha⟩:∃a,p[j]=a:=⟨_,rfl⟩
   have tc:=s6 a (ha▸bP dA)
   have an:(lC k (p.take j) W).set a.toNat k=lC k (p.take (j+1)) W:=by unfold lC;rw[ff dA,ha,uJ];rfl
   have wz:=GC k (p.take j) W
   refine aM ?_
   refine eY.mk (k+4) _ _ (H5 p9) (fq rfl (by omega) (by omega)) ?_
   rw[bC,show p.getD j 0=a by rw[aZ,bh dA,ha];rfl]
   refine aa 0 ?_
   refine aM ?_
   refine cT 1 rfl (nu rfl _ tc.1 (by omega)) ?_
   exact aY (j+1) (by show p.length-(j+1)<p.length-j;omega) dA ⟨rfl,rfl,rfl,rfl,rfl,rfl,rfl,rfl,rfl,aS (by omega),trivial⟩ (aL (by rw[← an];rfl))
  ·have lV:j=p.length:=by omega
   subst lV
   exact aY (k+1) (by show P.length-(k+1)<P.length-k;omega) ab ⟨rfl,rfl,rfl,rfl,rfl,aS (by omega),trivial⟩ (aL (by rw[fA,sY]))
 ·have aq:k=P.length:=by omega
  subst aq
  have O9:∀j:Nat,j<n→0≤(bF n P).getD j 0∧(bF n P).getD j 0<(P.length:Int):=fun j hj=>by
   obtain⟨i,p,hi,_,hw⟩:=h.idx (x:=(j:Int)) (by omega)
   rw[bC]at hw
   have:=yP hi
   rw[hw];omega
  have sg:=QL n P
  have EN:=fun k hk=>(HF h hr k hk)
  have ug:=MS h hr
  have aX:∀(i:Nat) (p:List Int),P[i]?=some p→p[((0:Int)).toNat]?=some (iK P i):=fun i p hi=>by
   unfold iK
   rw[vm hi]
   exact UH (mG.2 (h.ok.ne p (cx hi)))
  rw[show mV P P.length (List.replicate n 0)=bF n P from rfl]
  refine aG.mk ⟨by omega,by omega,by show ((P.length:Nat):Int)≤1048576;omega,by decide⟩ ?_
  intro bt
  intro bT
  refine aj 0 ?_
  obtain⟨m,hm⟩:∃m,P.length=m:=⟨_,rfl⟩
  refine .wrap 14 _ rfl rfl ?_
  refine .dO (.pull [0,2,3,3] (.refl _)) ?_
  refine bQ (S:=Nat×(AV×Hp)×List (Nat×List Int)) (fun x=>[(2,.af bq 0 P.length 1),(12,.ptr bT 0),(13,.fn (.func 316) [] [.ptr bT 0,.ptr bl 0,.ptr bW 0]),(14,.via x.2.1.1),(44,.int .i64 P.length),(45,.int .i64 x.1)]) (fun x=>(bT,[.af bt 0 P.length 1])::(bW,[.af bw 0 n 1])::(bw,ao (bF n P))::(bt,bN (dH P l (bF n P) x.1).1)::(bl,[.ae dB l])::(bq,fx rw)::(eV rw++(x.2.1.2++σ))) (fun x=>x.1≤P.length∧Acc 1 x.1 x.2.1.1 x.2.1.2 (fx x.2.2)∧x.2.2.map Prod.snd=(dH P l (bF n P) x.1).2∧∀r∈x.2.2,r∈rw) (fun x=>P.length-x.1) (0,(.ai,[]),[]) ⟨⟨Nat.zero_le _,.nil,rfl,fun r hr=>absurd hr (by simp)⟩,⟨rfl,rfl,rfl,rfl,rfl,rfl,trivial⟩,by rw[show bN (dH P l (bF n P) 0).1=cD [.bool false] P.length from (DA P.length).symm];rfl⟩ ?_
  rintro⟨k,⟨v,acc⟩,ro⟩ g2 ⟨aK,gp,W6,Wn⟩
  have hk:k≤P.length:=aK
  have bY:Acc 1 k v acc (fx ro):=gp
  have mY:ro.map Prod.snd=(dH P l (bF n P) k).2:=W6
  have mn:∀r∈ro,r∈rw:=Wn
  clear aK gp W6 Wn
  refine ak (p:=(k:Int)<P.length) (fun ab=>?_) (fun aq=>?_)
  ·have ab:k<P.length:=by omega
   obtain⟨hO,zx,_⟩:=EN k hk
   obtain⟨b,hb,nh⟩:=zx ab
   have FE:=hO.tl
   have fy:(dH P l (bF n P) (k+1)).1=(dH P l (bF n P) k).1.set b true:=by
    show (dH P l (bF n P) k).1.set (fB P l (bF n P) (dH P l (bF n P) k).1 P.length).toNat true=_
    rw[hb,bC]
   have gO:(dH P l (bF n P) (k+1)).2=(dH P l (bF n P) k).2++[P.getD b []]:=by
    show (dH P l (bF n P) k).2++[P.getD (fB P l (bF n P) (dH P l (bF n P) k).1 P.length).toNat []]=_
    rw[hb,bC]
   generalize (dH P l (bF n P) k).1=T at hb FE fy
   rw[← mY]at gO
   clear hO zx
   have N2:=GN P l (bF n P) T
   refine bQ (S:=Nat) (fun i=>[(2,.af bq 0 P.length 1),(12,.ptr bT 0),(13,.fn (.func 316) [] [.ptr bT 0,.ptr bl 0,.ptr bW 0]),(14,.via v),(15,.int .i64 (fB P l (bF n P) T i)),(44,.int .i64 P.length),(45,.int .i64 k),(47,.af bq 0 P.length 1),(48,.int .i64 P.length),(49,.int .i64 i)]) (fun _=>(bT,[.af bt 0 P.length 1])::(bW,[.af bw 0 n 1])::(bw,ao (bF n P))::(bt,bN T)::(bl,[.ae dB l])::(bq,fx rw)::(eV rw++(acc++σ))) (fun i=>i≤P.length) (fun i=>P.length-i) 0 ⟨bA _,⟨rfl,rfl,rfl,rfl,rfl,rfl,rfl,rfl,rfl,rfl,trivial⟩,rfl⟩ ?_
   intro i g3 dZ
   have hi:i≤P.length:=dZ
   clear dZ
   refine ak (p:=(i:Int)<P.length) (fun dA=>?_) (fun lV=>?_)
   ·have dA:i<P.length:=by omega
    obtain⟨p,hp⟩:∃p,P[i]=p:=⟨_,rfl⟩
    have e9:P[i]?=some p:=(bh dA).trans (congrArg some hp)
    have wN:=fun ρ=>WH bW bw bl bT bt n P.length l (bF n P) T i ρ hl (by omega) hr sg FE O9
    have eM:fB P l (bF n P) T (i+1)=if nD l (bF n P) T i=true∧(fB P l (bF n P) T i<0∨iK P i<iK P (fB P l (bF n P) T i).toNat) then (i:Int) else fB P l (bF n P) T i:=rfl
    have FA:=N2 i
    obtain⟨bi,hbi⟩:=D5 mZ e9
    have uv:0<p.length:=mG.2 (h.ok.ne p (cx e9))
    refine aM ?_
    refine bf 5 rfl (DW rfl (by omega) (by rw[bC];exact hbi)) ?_
    cases hf:nD l (bF n P) T i with
    |false=>
     rw[hf]at wN eM
     rw[ag (fun h=>by cases h.1)]at eM
     refine .quiet (by kernel_rfl) ?_
     refine aI [] (wN _) ?_
     exact aY (i+1) (by show P.length-(i+1)<P.length-i;omega) dA ⟨rfl,rfl,rfl,rfl,by rw[eM];rfl,rfl,rfl,rfl,rfl,aS (by omega),trivial⟩ (.refl _)
    |true=>
     rw[hf]at wN eM
     refine .quiet (by kernel_rfl) ?_
     refine aI [] (wN _) ?_
     refine ak (p:=fB P l (bF n P) T i<0) (fun c1=>?_) (fun c1=>?_)
     ·rw[ah ⟨rfl,.inl c1⟩]at eM
      exact aY (i+1) (by show P.length-(i+1)<P.length-i;omega) dA ⟨rfl,rfl,rfl,rfl,by rw[eM];rfl,rfl,rfl,rfl,rfl,aS (by omega),trivial⟩ (.refl _)
     ·obtain⟨b2,e2,l2,_⟩:=FA.resolve_left fun h=>c1 (by rw[h.1];decide)
      obtain⟨p2,dF⟩:∃p,P[b2]?=some p:=⟨P[b2],bh (by omega)⟩
      have Xa:P[(fB P l (bF n P) T i).toNat]?=some p2:=by rw[e2,bC];exact dF
      have Ch:0≤fB P l (bF n P) T i:=by omega
      rw[e2,bC,← e2]at eM
      obtain⟨bb,tb⟩:=D5 mZ dF
      have hp20:0<p2.length:=mG.2 (h.ok.ne p2 (cx dF))
      refine aG.mk ⟨rfl,by decide,by omega⟩ ?_
      refine eY.mk (i+6) _ _ (H5 hbi) (fq rfl (by decide) (by omega)) ?_
      refine aM ?_
      refine bf 5 rfl (DW rfl (by omega) (by rw[e2,bC];exact tb)) ?_
      refine aG.mk ⟨rfl,by decide,by omega⟩ ?_
      refine eY.mk (b2+6) _ _ (H5 tb) (fq rfl (by decide) (by omega)) ?_
      rw[show p.getD (0:Int).toNat 0=iK P i from R8 (aX i p e9),show p2.getD (0:Int).toNat 0=iK P b2 from R8 (aX b2 p2 dF)]
      refine ak (p:=iK P i<iK P b2) (fun c2=>?_) (fun c2=>?_)
      ·rw[ah ⟨rfl,.inr c2⟩]at eM
       exact aY (i+1) (by show P.length-(i+1)<P.length-i;omega) dA ⟨rfl,rfl,rfl,rfl,by rw[eM];rfl,rfl,rfl,rfl,rfl,aS (by omega),trivial⟩ (.refl _)
      ·rw[ag (fun h=>h.2.elim c1 c2)]at eM
       exact aY (i+1) (by show P.length-(i+1)<P.length-i;omega) dA ⟨rfl,rfl,rfl,rfl,by rw[eM];rfl,rfl,rfl,rfl,rfl,aS (by omega),trivial⟩ (.refl _)
   ·have lV:i=P.length:=by omega
    subst lV
    refine aa 0 ?_
    refine aM ?_
    refine cT 3 rfl (yU rfl true (by omega) (by omega)) ?_
    obtain⟨pb,qX⟩:∃p,P[b]?=some p:=⟨P[b],bh nh⟩
    obtain⟨bb,tb⟩:=D5 mZ qX
    rw[vm qX]at gO
    refine aM ?_
    refine bf 5 rfl (DW rfl (by omega) (by rw[hb,bC];exact tb)) ?_
    intro bs
    refine jP (_::_::_::_::_::_::_::eV rw) bY (.af 0 bs 0 1 _ rfl (cI rfl)) rfl (by omega) (by decide) (by decide) (fun v' bD h'=>?_)
    refine aY (k+1,(v',bD),ro++[(bb,pb)]) (by show P.length-(k+1)<P.length-k;omega) ⟨ab,?_,?_,fun r hr=>?_⟩ ⟨rfl,rfl,rfl,rfl,rfl,aS (by omega),trivial⟩ (.drop 0 1 (aL (by rw[fy,hb,bC];rfl)))
    ·show Acc 1 (k+1) v' bD (fx (ro++[(bb,pb)]))
     rw[show fx (ro++[(bb,pb)])=fx ro++[.af bb 0 pb.length 1] from cW];exact h'
    ·show (ro++[(bb,pb)]).map Prod.snd=(dH P l (bF n P) (k+1)).2
     rw[gO,cW];rfl
    ·rcases bV.1 hr with hr | hr
     ·exact mn r hr
     ·rw[bB.1 hr];exact cx tb
  ·have aq:k=P.length:=by omega
   subst aq
   have hOI:=(EN P.length (a8 _)).1
   have nZ:=hOI.ol
   have cf:=hOI.nd
   rw[← mY]at nZ cf
   rw[ug]at mY
   rw[cg]at nZ
   have aif:∀r∈ro,r.2≠[]:=fun r hr=>h.ok.ne r.2 (by rw[← mZ];exact dT.2 ⟨r,mn r hr,rfl⟩)
   have aha:ro.Nodup:=QW cf aif
   have oH:ro.Perm rw:=Qw aha mn (by omega)
   obtain⟨bo,rfl,rfl⟩:=tF (by omega) bY
   have hH:((bo,fx ro)::(eV ro++σ)).Perm (eV rw++([(bo,fx ro)]++σ)):=by
    refine (List.Perm.cons _ (List.Perm.append_right σ (List.Perm.map _ oH))).trans oh.symm
   exact .drop 0 6 (.perm hH (.done ⟨bo,ro,by rw[nZ];rfl,mY,rfl,by rw[← mY,← mZ];exact List.Perm.map _ oH⟩))
set_option maxHeartbeats 4000000
theorem af9(n:Nat)(l:List bK)(σ:Hp)(hl:l.length≤100000)(dY:fF n l=true):ACalls Tryz.prog 258 [.int .i64 n,.ae dB l] σ (fun r σ'=>∃bo eU,r=.tup [.af bo 0 eU.length 1,.int .i64 0]∧eU.map Prod.snd=kq n l∧σ'=(bo,fx eU)::(eV eU++σ)∧∃P,oZ n l P∧(kq n l).Perm P):=by
 have hn:1≤n∧n≤256:=by
  unfold fF at dY
  simp only[bO,decide_eq_true_eq]at dY
  omega
 have Cg:∀e∈l,(0≤e.1∧e.1<(n:Int))∧0≤e.2.1∧e.2.1<(n:Int):=fun e he=>by
  unfold fF at dY
  simp only[bO,fK]at dY
  have:=dY.2 e he
  exact⟨kW.1 this.1,kW.1 this.2⟩
 refine ar Tryz.func258 ?_
 refine dC [] (D1 n l _ (by omega)) (fun _=>?_) (fun c=>absurd c (by rw[dY];decide))
 refine gq.IC (S:=Nat×Nat×Nat×Nat) [] (.one 0 false (.one 2 false (.one 4 false (.alt 1 (.alt 3 (.alt 5 (.one 6 false (.one 7 false (.one 8 false .stop))) (.one 7 false (.one 5 false (.one 6 false (.one 8 false .stop))))) (.alt 5 (.alt 3 (.one 6 false (.one 7 false (.one 8 false .stop))) (.one 7 false (.one 3 false (.one 6 false (.one 8 false .stop))))) (.one 7 false (.alt 3 (.one 5 false (.one 6 false (.one 8 false .stop))) (.one 5 false (.one 3 false (.one 6 false (.one 8 false .stop)))))))) (.alt 3 (.alt 1 (.alt 5 (.one 6 false (.one 7 false (.one 8 false .stop))) (.one 7 false (.one 5 false (.one 6 false (.one 8 false .stop))))) (.alt 5 (.alt 1 (.one 6 false (.one 7 false (.one 8 false .stop))) (.one 7 false (.one 1 false (.one 6 false (.one 8 false .stop))))) (.one 7 false (.alt 1 (.one 5 false (.one 6 false (.one 8 false .stop))) (.one 5 false (.one 1 false (.one 6 false (.one 8 false .stop)))))))) (.alt 5 (.alt 1 (.alt 3 (.one 6 false (.one 7 false (.one 8 false .stop))) (.one 7 false (.one 3 false (.one 6 false (.one 8 false .stop))))) (.alt 3 (.alt 1 (.one 6 false (.one 7 false (.one 8 false .stop))) (.one 7 false (.one 1 false (.one 6 false (.one 8 false .stop))))) (.one 7 false (.alt 1 (.one 3 false (.one 6 false (.one 8 false .stop))) (.one 3 false (.one 1 false (.one 6 false (.one 8 false .stop)))))))) (.one 7 false (.alt 1 (.alt 3 (.one 5 false (.one 6 false (.one 8 false .stop))) (.one 5 false (.one 3 false (.one 6 false (.one 8 false .stop))))) (.alt 3 (.alt 1 (.one 5 false (.one 6 false (.one 8 false .stop))) (.one 5 false (.one 1 false (.one 6 false (.one 8 false .stop))))) (.one 5 false (.alt 1 (.one 3 false (.one 6 false (.one 8 false .stop))) (.one 3 false (.one 1 false (.one 6 false (.one 8 false .stop))))))))))))))) (fun x=>[(0,.int .i64 n),(1,.ae dB l),(6,.ptr x.1 0)]) (fun x=>(x.1,[.ai,.af x.2.1 0 n 1,.af x.2.2.1 0 n 1,.af x.2.2.2 0 n 1,.ai,.int .i64 0,.ai])::(x.2.1,cD [.int .i64 0] n)::(x.2.2.1,cD [.int .i64 0] n)::(x.2.2.2,cD [.bool false] n)::σ) (by kernel_rfl) ?_ ?_
 ·refine And.intro ?_ ?_
  ·refine bc ?_
   intro bi
   refine And.intro ?_ ?_
   ·refine bc ?_
    intro bl
    refine And.intro ?_ ?_
    ·refine bc ?_
     intro bo
     intro w
     refine aj 0 ?_
     exact dm.mk (w,bi,bl,bo) ⟨rfl,rfl,rfl,trivial⟩ (.pull [3,3,2,1] (aL rfl))
    ·intro w
     refine bc ?_
     intro bo
     refine aj 1 ?_
     exact dm.mk (w,bi,bl,bo) ⟨rfl,rfl,rfl,trivial⟩ (.pull [3,3,2,0] (aL rfl))
   ·refine And.intro ?_ ?_
    ·refine bc ?_
     intro bo
     refine And.intro ?_ ?_
     ·refine bc ?_
      intro bl
      intro w
      refine aj 0 ?_
      exact dm.mk (w,bi,bl,bo) ⟨rfl,rfl,rfl,trivial⟩ (.pull [3,3,2,2] (aL rfl))
     ·intro w
      refine bc ?_
      intro bl
      refine aj 1 ?_
      exact dm.mk (w,bi,bl,bo) ⟨rfl,rfl,rfl,trivial⟩ (.pull [3,3,1,2] (aL rfl))
    ·intro w
     refine And.intro ?_ ?_
     ·refine bc ?_
      intro bl
      refine bc ?_
      intro bo
      refine aj 2 ?_
      exact dm.mk (w,bi,bl,bo) ⟨rfl,rfl,rfl,trivial⟩ (.pull [3,3,1,0] (aL rfl))
     ·refine bc ?_
      intro bo
      refine bc ?_
      intro bl
      refine aj 2 ?_
      exact dm.mk (w,bi,bl,bo) ⟨rfl,rfl,rfl,trivial⟩ (.pull [3,3,1,1] (aL rfl))
  ·refine And.intro ?_ ?_
   ·refine bc ?_
    intro bl
    refine And.intro ?_ ?_
    ·refine bc ?_
     intro bi
     refine And.intro ?_ ?_
     ·refine bc ?_
      intro bo
      intro w
      refine aj 0 ?_
      exact dm.mk (w,bi,bl,bo) ⟨rfl,rfl,rfl,trivial⟩ (.pull [3,3,3,1] (aL rfl))
     ·intro w
      refine bc ?_
      intro bo
      refine aj 1 ?_
      exact dm.mk (w,bi,bl,bo) ⟨rfl,rfl,rfl,trivial⟩ (.pull [3,3,3,0] (aL rfl))
    ·refine And.intro ?_ ?_
     ·refine bc ?_
      intro bo
      refine And.intro ?_ ?_
      ·refine bc ?_
       intro bi
       intro w
       refine aj 0 ?_
       exact dm.mk (w,bi,bl,bo) ⟨rfl,rfl,rfl,trivial⟩ (.pull [3,3,3,2] (aL rfl))
      ·intro w
       refine bc ?_
       intro bi
       refine aj 1 ?_
       exact dm.mk (w,bi,bl,bo) ⟨rfl,rfl,rfl,trivial⟩ (.pull [3,2,3,2] (aL rfl))
     ·intro w
      refine And.intro ?_ ?_
      ·refine bc ?_
       intro bi
       refine bc ?_
       intro bo
       refine aj 2 ?_
       exact dm.mk (w,bi,bl,bo) ⟨rfl,rfl,rfl,trivial⟩ (.pull [3,2,3,0] (aL rfl))
      ·refine bc ?_
       intro bo
       refine bc ?_
       intro bi
       refine aj 2 ?_
       exact dm.mk (w,bi,bl,bo) ⟨rfl,rfl,rfl,trivial⟩ (.pull [3,2,3,1] (aL rfl))
   ·refine And.intro ?_ ?_
    ·refine bc ?_
     intro bo
     refine And.intro ?_ ?_
     ·refine bc ?_
      intro bi
      refine And.intro ?_ ?_
      ·refine bc ?_
       intro bl
       intro w
       refine aj 0 ?_
       exact dm.mk (w,bi,bl,bo) ⟨rfl,rfl,rfl,trivial⟩ (.pull [3,3,2,3] (aL rfl))
      ·intro w
       refine bc ?_
       intro bl
       refine aj 1 ?_
       exact dm.mk (w,bi,bl,bo) ⟨rfl,rfl,rfl,trivial⟩ (.pull [3,3,1,3] (aL rfl))
     ·refine And.intro ?_ ?_
      ·refine bc ?_
       intro bl
       refine And.intro ?_ ?_
       ·refine bc ?_
        intro bi
        intro w
        refine aj 0 ?_
        exact dm.mk (w,bi,bl,bo) ⟨rfl,rfl,rfl,trivial⟩ (.pull [3,3,3,3] (aL rfl))
       ·intro w
        refine bc ?_
        intro bi
        refine aj 1 ?_
        exact dm.mk (w,bi,bl,bo) ⟨rfl,rfl,rfl,trivial⟩ (.pull [3,2,3,3] (aL rfl))
      ·intro w
       refine And.intro ?_ ?_
       ·refine bc ?_
        intro bi
        refine bc ?_
        intro bl
        refine aj 2 ?_
        exact dm.mk (w,bi,bl,bo) ⟨rfl,rfl,rfl,trivial⟩ (.pull [3,2,1,3] (aL rfl))
       ·refine bc ?_
        intro bl
        refine bc ?_
        intro bi
        refine aj 2 ?_
        exact dm.mk (w,bi,bl,bo) ⟨rfl,rfl,rfl,trivial⟩ (.pull [3,2,2,3] (aL rfl))
    ·intro w
     refine And.intro ?_ ?_
     ·refine bc ?_
      intro bi
      refine And.intro ?_ ?_
      ·refine bc ?_
       intro bl
       refine bc ?_
       intro bo
       refine aj 3 ?_
       exact dm.mk (w,bi,bl,bo) ⟨rfl,rfl,rfl,trivial⟩ (.pull [3,2,1,0] (aL rfl))
      ·refine bc ?_
       intro bo
       refine bc ?_
       intro bl
       refine aj 3 ?_
       exact dm.mk (w,bi,bl,bo) ⟨rfl,rfl,rfl,trivial⟩ (.pull [3,2,1,1] (aL rfl))
     ·refine And.intro ?_ ?_
      ·refine bc ?_
       intro bl
       refine And.intro ?_ ?_
       ·refine bc ?_
        intro bi
        refine bc ?_
        intro bo
        refine aj 3 ?_
        exact dm.mk (w,bi,bl,bo) ⟨rfl,rfl,rfl,trivial⟩ (.pull [3,2,2,0] (aL rfl))
       ·refine bc ?_
        intro bo
        refine bc ?_
        intro bi
        refine aj 3 ?_
        exact dm.mk (w,bi,bl,bo) ⟨rfl,rfl,rfl,trivial⟩ (.pull [3,2,2,1] (aL rfl))
      ·refine bc ?_
       intro bo
       refine And.intro ?_ ?_
       ·refine bc ?_
        intro bi
        refine bc ?_
        intro bl
        refine aj 3 ?_
        exact dm.mk (w,bi,bl,bo) ⟨rfl,rfl,rfl,trivial⟩ (.pull [3,2,1,2] (aL rfl))
       ·refine bc ?_
        intro bl
        refine bc ?_
        intro bi
        refine aj 3 ?_
        exact dm.mk (w,bi,bl,bo) ⟨rfl,rfl,rfl,trivial⟩ (.pull [3,2,2,2] (aL rfl))
 rintro⟨w,bi,bl,bo⟩ g
 have cU:∀(a:Nat) (σ:Hp),ACalls Tryz.prog 289 [.int .i64 n,.ae dB l,.int .i64 a] σ (ay (.ae (.int .i64) (au n l a)) σ):=fun a σ=>BB n l a σ hl
 have my:∀k,cH ((List.range (k+1)).map fun a:Nat=>au n l a)=cH ((List.range k).map fun a:Nat=>au n l a)++[.ae (.int .i64) (au n l k)]:=fun k=>by rw[tk,cW];exact cW
 have ga:∀k,(cH ((List.range k).map fun a:Nat=>au n l a)).length=k:=fun k=>by rw[uT,cg,kS]
 refine bQ (S:=Nat×AV×Hp) (fun x=>[(0,.int .i64 n),(1,.ae dB l),(6,.ptr w 0),(20,.int .i64 n),(21,.int .i64 x.1)]) (fun x=>(w,[x.2.1,.af bi 0 n 1,.af bl 0 n 1,.af bo 0 n 1,.ai,.int .i64 0,.ai])::(bi,cD [.int .i64 0] n)::(bl,cD [.int .i64 0] n)::(bo,cD [.bool false] n)::(x.2.2++σ)) (fun x=>x.1≤n∧(x.1<n→Acc 1 x.1 x.2.1 x.2.2 (cH ((List.range x.1).map fun a:Nat=>au n l a)))∧(x.1=n→x.2.1=.ae (.slice (.int .i64)) (ca n l)∧x.2.2=[])) (fun x=>n-x.1) (0,.ai,[]) ⟨⟨bA _,fun _=>.nil,fun h=>by have h:0=n:=h;omega⟩,⟨rfl,rfl,rfl,rfl,rfl,trivial⟩,rfl⟩ ?_
 rintro⟨k,v,acc⟩ g ⟨aK,gp,Eh⟩
 have hk:k≤n:=aK
 have bY:k<n→Acc 1 k v acc (cH ((List.range k).map fun a:Nat=>au n l a)):=gp
 have lA:k=n→v=.ae (.slice (.int .i64)) (ca n l)∧acc=[]:=Eh
 clear aK gp Eh
 refine ak (p:=(k:Int)<n) (fun ab=>?_) (fun aq=>?_)
 ·have ab:k<n:=by omega
  have bY:=bY ab
  clear lA
  have mz:(ca n l).length=n:=by unfold ca;rw[cg,kS]
  have Cd:∀k,k+1=n→((cH ((List.range k).map fun a:Nat=>au n l a)++[AV.ae (.int .i64) (au n l k)]).drop 0).take ((k+1)*1)=(ca n l).flatMap (Sh.cells (.slice (.int .i64))):=fun k hk=>by
   rw[← my,gz,ek (by rw[ga,eA];exact a8 _),hk]
   exact xl _
  refine .sched [5] (.one 0 false (.one 2 false (.one 3 false (.one 4 false (.one 5 true (.alt 1 (.one 6 false (.one 7 false (.one 8 false (.one 9 false .stop)))) (.one 6 false (.one 1 false (.one 7 false (.one 8 false (.one 9 false .stop))))))))))) (by kernel_rfl) ?_
  refine aI [] (BB n l _ _ hl) ?_
  refine And.intro ?_ ?_
  ·refine aa 0 ?_
   intro aB
   refine AE [_,_,_,_,_] bY.x9 (.af 0 aB 0 1 _ rfl (cI rfl)) rfl (by omega) (by decide) (by decide) (fun v' bD h'=>?_)
   obtain⟨b5,rfl,rfl⟩:=tF (by omega) h'
   refine aj 1 ?_
   by_cases kQ:k+1=n
   ·refine .kl 5 b5 0 (k+1) 1 _ (.slice (.int .i64)) (ca n l) rfl (Cd k kQ) ⟨(mz.trans kQ.symm),rfl,by decide⟩ 1 0 w _ rfl rfl ?_
    exact aY (k+1,.ae (.slice (.int .i64)) (ca n l),[]) (by show n-(k+1)<n-k;omega) ⟨ab,fun h=>absurd kQ (by have h:k+1<n:=h;omega),fun _=>⟨rfl,rfl⟩⟩ ⟨rfl,rfl,rfl,rfl,aS (by omega),trivial⟩ (.drop 0 1 (aL rfl))
   ·exact aY (k+1,.af b5 0 (k+1) 1,[(b5,cH ((List.range k).map fun a:Nat=>au n l a)++[.ae (.int .i64) (au n l k)])]) (by show n-(k+1)<n-k;omega) ⟨ab,fun _=>by show Acc 1 (k+1) _ _ (cH ((List.range (k+1)).map fun a:Nat=>au n l a));rw[my];exact h',fun h=>absurd h kQ⟩ ⟨rfl,rfl,rfl,rfl,aS (by omega),trivial⟩ (.drop 0 1 (aL rfl))
  ·intro dc
   refine aa 1 ?_
   refine AE [_,_,_,_,_] bY.x9 (.af 0 dc 0 1 _ rfl (cI rfl)) rfl (by omega) (by decide) (by decide) (fun v' bD h'=>?_)
   obtain⟨b5,rfl,rfl⟩:=tF (by omega) h'
   refine aj 1 ?_
   by_cases kQ:k+1=n
   ·refine .kl 5 b5 0 (k+1) 1 _ (.slice (.int .i64)) (ca n l) rfl (Cd k kQ) ⟨(mz.trans kQ.symm),rfl,by decide⟩ 1 0 w _ rfl rfl ?_
    exact aY (k+1,.ae (.slice (.int .i64)) (ca n l),[]) (by show n-(k+1)<n-k;omega) ⟨ab,fun h=>absurd kQ (by have h:k+1<n:=h;omega),fun _=>⟨rfl,rfl⟩⟩ ⟨rfl,rfl,rfl,rfl,aS (by omega),trivial⟩ (.drop 0 1 (aL rfl))
   ·exact aY (k+1,.af b5 0 (k+1) 1,[(b5,cH ((List.range k).map fun a:Nat=>au n l a)++[.ae (.int .i64) (au n l k)])]) (by show n-(k+1)<n-k;omega) ⟨ab,fun _=>by show Acc 1 (k+1) _ _ (cH ((List.range (k+1)).map fun a:Nat=>au n l a));rw[my];exact h',fun h=>absurd h kQ⟩ ⟨rfl,rfl,rfl,rfl,aS (by omega),trivial⟩ (.drop 0 1 (aL rfl))
 ·have aq:k=n:=by omega
  obtain⟨rfl,rfl⟩:=lA aq
  clear bY lA
  refine bQ (S:=Nat×(List Int×List Int×List Bool×Nat×List (List Int))×(AV×Hp×AV×Hp)) (fun x=>[(0,.int .i64 n),(1,.ae dB l),(6,.ptr w 0),(34,.int .i64 n),(35,.int .i64 x.1)]) (fun x=>(w,dr (ca n l) bi bl bo n x.2.2.1 x.2.1.2.2.2.1 x.2.2.2.2.1)::(bi,ao x.2.1.1)::(bl,ao x.2.1.2.1)::(bo,bN x.2.1.2.2.1)::(x.2.2.2.1++(x.2.2.2.2.2++σ))) (fun x=>x.1≤n∧FI n (au n l) x.2.1.1 x.2.1.2.1 x.2.1.2.2.1 [] x.2.1.2.2.2.1 x.2.1.2.2.2.2 []∧iN 1 0 x.2.2.1 x.2.2.2.1 []∧PO x.2.1.2.2.2.2 x.2.2.2.2.1 x.2.2.2.2.2∧∀b:Nat,b<x.1→x.2.1.1.getD b 0≠0) (fun x=>n-x.1) (0,(List.replicate n 0,List.replicate n 0,List.replicate n false,0,[]),(.ai,[],.ai,[])) ⟨⟨bA _,.start n (au n l),.nil,⟨[],[],rfl,.nil,rfl⟩,fun _ h=>absurd h (og _)⟩,⟨rfl,rfl,rfl,rfl,rfl,trivial⟩,by rw[yW,DA];rfl⟩ ?_
  clear aq
  rintro⟨k,⟨ix,lo,on,aH,P⟩,⟨vs,lW,vp,eS⟩⟩ g2 ⟨aK,qb,nV,uv,o6⟩
  have hk:k≤n:=aK
  have hF:FI n (au n l) ix lo on [] aH P []:=qb
  have hs:iN 1 0 vs lW []:=nV
  have hp:PO P vp eS:=uv
  have hv:∀b:Nat,b<k→ix.getD b 0≠0:=o6
  clear aK qb nV uv o6
  have Fu:((k:Nat):Int).toNat=k:=bC k
  refine ak (p:=(k:Int)<n) (fun ab=>?_) (fun aq=>?_)
  ·have ab:k<n:=by omega
   refine aa 0 ?_
   refine aM ?_
   refine bf 1 rfl (fq rfl (by omega) (by rw[hF.li];omega)) ?_
   refine ak (p:=ix.getD ((k:Nat):Int).toNat 0=0) (fun c1=>?_) (fun c1=>?_)
   ·refine .mk [] _ (agN n w bi bl bo l ix lo on aH P vs vp lW eS k σ (by omega) hF (by omega) c1 hs hp) ?_
    rintro _ _ ⟨rfl,Ou,Ot,Oo,Oc,P2,Jz,NA,Oj,NB,Pp,gO,dF,td,uw,rfl⟩
    rw[Fu]at td
    refine aY (k+1,(Ou,Ot,Oo,Oc,P2),(Jz,NA,Oj,NB)) (by show n-(k+1)<n-k;omega) ⟨ab,Pp,gO,dF,fun b hb=>?_⟩ ⟨rfl,rfl,rfl,rfl,aS (by omega),trivial⟩ (.refl _)
    have hb:b<k+1:=hb
    by_cases e:b=k
    ·subst e;exact td
    ·exact uw b (hv b (by omega))
   ·rw[Fu]at c1
    refine aY (k+1,(ix,lo,on,aH,P),(vs,lW,vp,eS)) (by show n-(k+1)<n-k;omega) ⟨ab,hF,hs,hp,fun b hb=>?_⟩ ⟨rfl,rfl,rfl,rfl,aS (by omega),trivial⟩ (.refl _)
    have hb:b<k+1:=hb
    by_cases e:b=k
    ·subst e;exact c1
    ·exact hv b (by omega)
  ·have aq:k=n:=by omega
   subst aq
   have cQ:oZ k l P:=⟨hF.tj.prt,fun x h0 h1=>by
    have h2:=hv x.toNat (by omega)
    have h3:=(hF.tj.x8 x h0 h1).1 (by rw[mi h0];exact h2)
    exact h3.resolve_left (by simp)⟩
   have FM:=C3 hF.tj.prt
   refine aa 0 ?_
   obtain⟨x,hx,_⟩:=cQ.all 0 (by omega) (by omega)
   have uD:=Gf hx
   obtain⟨ac,rw,rfl,hac,mZ⟩:=hp
   have wD:rw.length=P.length:=by rw[← mZ,cg]
   obtain⟨b5,rfl,rfl⟩:=tF (by omega) hac
   have hO:=fun τ=>ab7 k l P rw b5 τ cQ mZ uD hl (by omega) Cg
   rw[← wD]at hO
   rcases hs.zero with ⟨rfl,rfl⟩ | ⟨bs,J,rfl,rfl⟩
   ·refine .perm _ (AY [_,_,_,_] ((b5,fx rw)::eV rw) σ) (hO _) ?_
    rintro _ _ ⟨Gm,eU,rfl,mY,rfl,Fo⟩
    exact⟨_,(AY [_,_,_,_] ((Gm,fx eU)::eV eU) σ).symm,.drop 0 4 (.done ⟨Gm,eU,rfl,mY,rfl,P,cQ,Fo⟩)⟩
   ·refine .perm _ (AY [_,_,_,_,_] ((b5,fx rw)::eV rw) σ) (hO _) ?_
    rintro _ _ ⟨Gm,eU,rfl,mY,rfl,Fo⟩
    exact⟨_,(AY [_,_,_,_,_] ((Gm,fx eU)::eV eU) σ).symm,.drop 0 5 (.done ⟨Gm,eU,rfl,mY,rfl,P,cQ,Fo⟩)⟩
end Go.Proofs.YtnikdflhefijbaaGreat
namespace Go.Proofs.YtnikdflhefijbaaGreat
open Go.Shelf
def Yr:Go.Shelf.Ren:=⟨fun | 6=>259 | 15=>233 | 14=>292 | 28=>274 | 29=>275 | 20=>318 | 21=>319 | 22=>320 | 23=>321 | 24=>322 | 25=>323 | 26=>324 | 27=>325 | 46=>339 | 47=>296 | 48=>297 | 49=>340 | 50=>341 | 57=>355 | n=>n,fun | 22=>23 | 24=>3 | 25=>118 | 3=>3 | 39=>253 | 0=>0 | 53=>284 | 55=>56 | 4=>4 | 46=>308 | 45=>307 | 50=>312 | 5=>5 | 9=>9 | 66=>331 | 70=>335 | 76=>353 | 77=>50 | n=>n,fun | n=>n⟩
theorem aeo:Go.Proofs.SlLaysF.n6 Tryz.prog Yr:= {
 mixed:=by kernel_rfl
 f6 := ⟨"slices.SortFunc[[]int,int]", by decide, Tryz.func259.trans (congrArg some (by kernel_rfl))⟩
 f14 := ⟨"slices.pdqsortCmpFunc[int]", by decide, Tryz.func292.trans (congrArg some (by kernel_rfl))⟩
 f15:=Tryz.func233.trans (congrArg some (by kernel_rfl))
 f20 := ⟨"slices.insertionSortCmpFunc[int]", by decide, Tryz.func318.trans (congrArg some (by kernel_rfl))⟩
 f21 := ⟨"slices.heapSortCmpFunc[int]", by decide, Tryz.func319.trans (congrArg some (by kernel_rfl))⟩
 f22 := ⟨"slices.breakPatternsCmpFunc[int]", by decide, Tryz.func320.trans (congrArg some (by kernel_rfl))⟩
 f23 := ⟨"slices.choosePivotCmpFunc[int]", by decide, Tryz.func321.trans (congrArg some (by kernel_rfl))⟩
 f24 := ⟨"slices.reverseRangeCmpFunc[int]", by decide, Tryz.func322.trans (congrArg some (by kernel_rfl))⟩
 f25 := ⟨"slices.partialInsertionSortCmpFunc[int]", by decide, Tryz.func323.trans (congrArg some (by kernel_rfl))⟩
 f26 := ⟨"slices.partitionEqualCmpFunc[int]", by decide, Tryz.func324.trans (congrArg some (by kernel_rfl))⟩
 f27 := ⟨"slices.partitionCmpFunc[int]", by decide, Tryz.func325.trans (congrArg some (by kernel_rfl))⟩
 f28:=Tryz.func274.trans (congrArg some (by kernel_rfl))
 f29:=Tryz.func275.trans (congrArg some (by kernel_rfl))
 f46 := ⟨"slices.siftDownCmpFunc[int]", by decide, Tryz.func339.trans (congrArg some (by kernel_rfl))⟩
 f47:=Tryz.func296.trans (congrArg some (by kernel_rfl))
 f48:=Tryz.func297.trans (congrArg some (by kernel_rfl))
 f49 := ⟨"slices.medianAdjacentCmpFunc[int]", by decide, Tryz.func340.trans (congrArg some (by kernel_rfl))⟩
 f50 := ⟨"slices.medianCmpFunc[int]", by decide, Tryz.func341.trans (congrArg some (by kernel_rfl))⟩
 f57 := ⟨"slices.order2CmpFunc[int]", by decide, Tryz.func355.trans (congrArg some (by kernel_rfl))⟩
 t0:=Tryz.underlying0
 a0:=Tryz.isAgg0
 z0:=Tryz.sizeOf0
 v0:=Tryz.zeroValue0
 t3:=Tryz.underlying3
 a3:=Tryz.isAgg3
 z3:=Tryz.sizeOf3
 v3:=Tryz.zeroValue3
 t4:=Tryz.underlying4
 a4:=Tryz.isAgg4
 z4:=Tryz.sizeOf4
 v4:=Tryz.zeroValue4
 t5:=Tryz.underlying5
 a5:=Tryz.isAgg5
 z5:=Tryz.sizeOf5
 v5:=Tryz.zeroValue5
 t9:=Tryz.underlying9
 a9:=Tryz.isAgg9
 z9:=Tryz.sizeOf9
 v9:=Tryz.zeroValue9
 t22:=Tryz.underlying23
 a22:=Tryz.isAgg23
 z22:=Tryz.sizeOf23
 v22:=Tryz.zeroValue23
 a24:=Tryz.isAgg3
 z24:=Tryz.sizeOf3
 t25:=Tryz.underlying118
 a25:=Tryz.isAgg118
 z25:=Tryz.sizeOf118
 v25:=Tryz.zeroValue118
 t39:=Tryz.underlying253
 a39:=Tryz.isAgg253
 z39:=Tryz.sizeOf253
 v39:=Tryz.zeroValue253
 t45:=Tryz.underlying307
 a45:=Tryz.isAgg307
 z45:=Tryz.sizeOf307
 v45:=Tryz.zeroValue307
 t46:=Tryz.underlying308
 a46:=Tryz.isAgg308
 z46:=Tryz.sizeOf308
 v46:=Tryz.zeroValue308
 t50:=Tryz.underlying312
 a50:=Tryz.isAgg312
 z50:=Tryz.sizeOf312
 v50:=Tryz.zeroValue312
 t53:=Tryz.underlying284
 a53:=Tryz.isAgg284
 z53:=Tryz.sizeOf284
 v53:=Tryz.zeroValue284
 t55:=Tryz.underlying56
 a55:=Tryz.isAgg56
 z55:=Tryz.sizeOf56
 v55:=Tryz.zeroValue56
 t66:=Tryz.underlying331
 a66:=Tryz.isAgg331
 z66:=Tryz.sizeOf331
 v66:=Tryz.zeroValue331
 t70:=Tryz.underlying335
 a70:=Tryz.isAgg335
 z70:=Tryz.sizeOf335
 v70:=Tryz.zeroValue335
 t76:=Tryz.underlying353
 a76:=Tryz.isAgg353
 z76:=Tryz.sizeOf353
 v76:=Tryz.zeroValue353
 t77:=Tryz.underlying50
 a77:=Tryz.isAgg50
 z77:=Tryz.sizeOf50
 v77:=Tryz.zeroValue50 }
end Go.Proofs.YtnikdflhefijbaaGreat
namespace Go.Proofs.YtnikdflhefijbaaGreat
open Go.RowKit Go.Lib
set_option maxRecDepth 100000
theorem afA(n:Nat)(rk:List Int)(x y:Int)(σ:Hp)(hr:rk.length=n)(hx:0≤x∧x<n)(hy:0≤y∧y<n):ACalls Tryz.prog 260 [.int .i64 x,.int .i64 y,.gi [.ae (.int .i64) rk]] σ (ay (.int .i64 (IntKind.i64.wrap (rk.getD x.toNat 0-rk.getD y.toNat 0))) σ):=by
 have h1:rk[x.toNat]?=some (rk.getD x.toNat 0):=by rw[aZ,bh (by omega)];rfl
 have h2:rk[y.toNat]?=some (rk.getD y.toNat 0):=by rw[aZ,bh (by omega)];rfl
 refine ar Tryz.func260 ?_
 refine .quiet (by kernel_rfl) ?_
 refine aG.mk rfl ?_
 refine bE.mk _ hx.1 h1 ?_
 refine aG.mk rfl ?_
 refine bE.mk _ hy.1 h2 ?_
 exact .done ⟨rfl,rfl⟩
abbrev nm(n:Nat):Type:= { x:Int // 0≤x∧x<(n:Int) }
def xY{n:Nat}(rk:List Int)(x y:nm n):Int:=IntKind.i64.wrap (rk.getD x.1.toNat 0-rk.getD y.1.toNat 0)
def sN{n:Nat}(x:nm n):Value:=.int .i64 x.1
structure uk(n:Nat)(rk:List Int):Prop where
 len:rk.length=n
 big:∀i:Nat,i<n→0≤rk.getD i 0∧rk.getD i 0<1000000
 inj:∀i j:Nat,i<n→j<n→rk.getD i 0=rk.getD j 0→i=j
theorem uk.lt{n:Nat}{rk:List Int}(h:uk n rk)(x y:nm n):ltOf (xY rk) x y=decide (rk.getD x.1.toNat 0<rk.getD y.1.toNat 0):=by
 unfold ltOf
 rw[decide_eq_decide]
 have h1:=h.big x.1.toNat (by have:=x.2;omega)
 have h2:=h.big y.1.toNat (by have:=y.2;omega)
 unfold xY
 rw[IntKind.wrap_i64]
 omega
theorem uk.swo{n:Nat}{rk:List Int}(h:uk n rk):Go.Sort.SWO (ltOf (xY (n:=n) rk)) where
 irrefl x:=by rw[h.lt];simp
 trans x y z h1 h2:=by rw[h.lt]at *;simp only[decide_eq_true_eq]at *;omega
 ntrans x y z h1 h2:=by rw[h.lt]at *;simp only[decide_eq_false_iff_not]at *;omega
theorem uk.tot{n:Nat}{rk:List Int}(h:uk n rk)(x y:nm n)(h1:ltOf (xY rk) x y=false)(h2:ltOf (xY rk) y x=false):x=y:=by
 rw[h.lt]at h1 h2
 simp only[decide_eq_false_iff_not]at h1 h2
 have hx:=x.2
 have hy:=y.2
 have:=h.inj x.1.toNat y.1.toNat (by omega) (by omega) (by omega)
 exact Subtype.ext (by omega)
def vC{n:Nat}(rk:List Int)(L:List (nm n)):List (nm n):=L.mergeSort fun x y=> !(ltOf (xY rk)) y x
theorem XV{n:Nat}(rk:List Int)(L:List (nm n)):(vC rk L).length=L.length:=PB ..
def jG{n:Nat}(L:List (nm n)):List Int:=L.map (·.1)
theorem S3{n:Nat}[Inhabited (nm n)](w:World)(b:Nat)(d:List (nm n)):Go.Sort.putRow sN w b 0 d.toArray=Go.Sort.putRow (Value.int .i64) w b 0 (jG d).toArray:=by
 have e:Go.Sort.putCells sN 0 d.toArray=Go.Sort.putCells (Value.int .i64) 0 (jG d).toArray:=by
  funext c
  unfold Go.Sort.putCells
  refine Array.ext (by simp) fun i h1 h2=>?_
  have hs:(jG d).toArray.size=d.toArray.size:=by simp[jG]
  simp only[Array.getElem_mapIdx,hs]
  by_cases hi:0≤i∧i<0+d.toArray.size
  ·rw[ah hi,ah hi]
   have qY:i<d.length:=by have:=hi.2;simp at this;omega
   have e1:d.toArray[i-0]! = d[i]'qY:=by simp[qY]
   have e2:(jG d).toArray[i-0]! = (d[i]'qY).1:=by simp[jG,qY]
   rw[e1,e2];rfl
  ·rw[ag hi,ag hi]
 unfold Go.Sort.putRow
 rw[e]
theorem CG{n:Nat}(L:List (nm n)):(jG L).length=L.length:=cg _
theorem XZ:Enters Tryz.prog 259:=enters_of Tryz.func259 (by kernel_rfl)
theorem YA:Enters Tryz.prog 260:=enters_of Tryz.func260 (by kernel_rfl)
theorem aiC{F:Nat→Prop}{w:World}{f:Fn}{bk:Nat}{v:Value}(h:aA F w (.fn f [] [.ptr bk 0]) v):v=.func f #[] #[.pointer (some ⟨bk,0,none⟩)]:=by
 cases h with
 |fn _ _ _ v1 v2 fy gO h1 h2=>
  have e1:v1 = #[]:=KI fy.symm
  obtain⟨z,rfl⟩:∃z,v2 = #[z]:=by
   obtain⟨l2⟩:=v2
   match l2,gO with
   | [z],_=>exact⟨z,rfl⟩
  subst e1
  have h3:=h2 0 _ rfl
  cases h3
  rfl
theorem aaG{F:Nat→Prop}{w:World}{σ:Hp}{n:Nat}[Inhabited (nm n)]{rk:List Int}{b bk:Nat}{L:List (nm n)}(hr:uk n rk)(aF:bu F w ((b,ao (jG L))::(bk,[.ae (.int .i64) rk])::σ)):CmpLays1 Tryz.prog 260 #[.pointer (some ⟨bk,0,none⟩)] sN (xY (n:=n) rk) b 0 L.length w:=fun m os dk hdk x y=>by
 have hd:(jG dk.toList).length=(jG L).length:=by
  rw[CG,CG,PM,hdk]
 obtain⟨s1,s2⟩:=HE (n:=m) (zs':=jG dk.toList) aF hd os
 have hW:sortWorld sN w b 0 m dk os=Go.Sort.grow (Go.Sort.putRow (Value.int .i64) (Go.Sort.ahead w m) b 0 (jG dk.toList).toArray) os:=by
  have:=S3 (Go.Sort.ahead w m) b dk.toList
  show Go.Sort.grow (Go.Sort.putRow sN (Go.Sort.ahead w m) b 0 dk) os=_
  rw[← this]
 rw[← hW]at s1 s2
 generalize sortWorld sN w b 0 m dk os=W at s1 s2
 obtain⟨hF,c,T,h1,h2,h3⟩:=(s2.holds (bk,[.ae (.int .i64) rk]) (dp _ (cj ..))).Mv (fun x hx=>by rw[bB.1 hx];rfl)
 have an:bH F W (fun k=>k<W.heap.size) W:=⟨rfl,rfl,rfl,a8 _,fun k hk=>s2.low k hk,fun _ _=>rfl,fun k c T fz h=>⟨c,fz,h,rfl⟩,a8 _⟩
 have p9:bk<W.heap.size:=(Aq.1 h1).1
 have gW:0<c.size:=h2
 have hv:aA (fun k=>k<W.heap.size) W (.gi [.ae (.int .i64) rk]) (.pointer (some ⟨bk,0,none⟩)):=by
  refine .gi _ bk 0 (fun i=>c.getD i undef) ⟨p9,c,T,(0,0),h1⟩ (fun i x hx=>?_) (fun i x hx=>?_) (fun i x hx=>?_)
  ·match i,hx with
   | 0,hx=>rw[HU h1,im,qg (by omega)];rfl
   |i+1,hx=>simp at hx
  ·exact (h3 i x hx).1
  ·exact (h3 i x hx).2.mono an
 have h:=Rj (fun σ=>afA n rk x.1 y.1 σ hr.len x.2 y.2) (w:=W) (vs:= #[.int .i64 x.1,.int .i64 y.1,.pointer (some ⟨bk,0,none⟩)]) ⟨rfl,fun i a h=>by
  match i,h with
  | 0,h=>cases h;exact .int _ _
  | 1,h=>cases h;exact .int _ _
  | 2,h=>cases h;exact hv⟩
 exact h
theorem ab2(n:Nat)[Inhabited (nm n)](rk:List Int)(b bk:Nat)(L:List (nm n))(q:Nat)(σ:Hp)(hr:uk n rk)(hz:L.length=q)(h0:0<q)(hl:q≤1000000):ACalls Tryz.prog 259 [.af b 0 q 1,.fn (.func 260) [] [.ptr bk 0]] ((b,ao (jG L))::(bk,[.ae (.int .i64) rk])::σ) (ay (.tup []) ((b,ao (jG (vC rk L)))::(bk,[.ae (.int .i64) rk])::σ)):=by
 subst hz
 refine⟨XZ,fun F w vs bR aF =>?_⟩
 obtain⟨v,u,rfl⟩:∃v u,vs = #[v,u]:=by
  obtain⟨l2⟩:=vs
  match l2,bR.1 with
  | [v,u],_=>exact⟨v,u,rfl⟩
 have hv:aA F w (.af b 0 L.length 1) v:=bR.2 0 _ rfl
 obtain rfl:=aiC (show aA F w (.fn (.func 260) [] [.ptr bk 0]) u from bR.2 1 _ rfl)
 obtain⟨a,cap,rfl,c,T,fz,m1,m2,m3,m4⟩:=hv.lr
 rcases m4 with ⟨rfl,_⟩ | ⟨_,_,h9,_⟩
 ·obtain⟨h1,h2⟩:=L4 aF
  have h1:Go.Sort.Holds (sN (n:=n)) w b 0 L.toArray:=fun j hj=>by
   have Fv:j<L.length:=by simpa using hj
   have hh:=h1 j (by simp[jG];exact Fv)
   rw[show (jG L).toArray[j]! = (L.toArray[j]!).1 by simp[jG,Fv]]at hh
   exact hh
  have h:Calls Tryz.prog 259 #[.slice (some ⟨b,0,none⟩) L.length cap,.func (.func 260) #[] #[.pointer (some ⟨bk,0,none⟩)]] w fun e w'=>e=.returned (.tuple #[])∧∃n os,w'=sortWorld sN w b 0 n (vC rk L).toArray os:=Any.slices_SortFunc_total aeo sN (fun _=>rfl) (xY rk) hr.swo 260 #[.pointer (some ⟨bk,0,none⟩)] b 0 cap L.toArray w YA (by have:=aaG hr aF;simpa using this) h1 h2 (by show L.length<_;omega) hr.tot
  refine h.mono ?_
  rintro e w' ⟨rfl,m,os,rfl⟩
  obtain⟨k1,k2⟩:=HE (n:=m) (zs':=jG (vC rk L)) aF (by rw[CG,CG,XV]) os
  have hW:sortWorld sN w b 0 m (vC rk L).toArray os=Go.Sort.grow (Go.Sort.putRow (Value.int .i64) (Go.Sort.ahead w m) b 0 (jG (vC rk L)).toArray) os:=by
   show Go.Sort.grow (Go.Sort.putRow sN (Go.Sort.ahead w m) b 0 (vC rk L).toArray) os=_
   rw[S3]
  rw[hW]
  exact⟨.tup [],.tuple #[],_,F,rfl,k1,k2,.tup [] #[] rfl fun i x h=>by simp at h,rfl,rfl⟩
 ·omega
set_option maxHeartbeats 4000000
def sS(n:Nat)(p:List Int):Nat→List Int
 | 0=>List.replicate n 0
 |k+1=>(sS n p k).set (p.getD k 0).toNat ((n:Int)-1-(k:Int))
theorem AF(n:Nat)(p:List Int):∀k,(sS n p k).length=n
 | 0=>gl
 |k+1=>by unfold sS;rw[cR];exact AF n p k
theorem abg{nx:Int→List Int}{n:Nat}{a:Int}{out:List Int}:a∈out++ia nx (n+1) a out:=by
 by_cases h:a∈out
 ·exact gY _ h
 ·refine jM _ ?_
  unfold ia
  rw[ag h]
  simp
theorem S4{nx:Int→List Int}{n:Nat}:∀(L out:List Int) (a:Int),a∈out∨a∈L→a∈L.foldl (fun out a=>out++ia nx (n+1) a out) out
 | [],out,a,h=>h.elim id fun h=>by cases h
 |b::L,out,a,h=>by
  refine S4 L _ a ?_
  rcases h with h | h
  ·exact .inl (gY _ h)
  ·rcases eB.1 h with rfl | h
   ·exact .inl abg
   ·exact .inr h
theorem Z8{n:Nat}{l:List bK}{fr:List Int}{a:Int}(h:0≤a∧a<n):a∈qB n l fr:=by
 refine S4 _ _ a (.inr (jM _ (dT.2 ⟨a.toNat,gy.2 (by omega),?_⟩)))
 omega
structure kn(n:Nat)(p:List Int):Prop where
 nd:p.Nodup
 rg:∀x∈p,0≤x∧x<(n:Int)
 all:∀x:Int,0≤x∧x<(n:Int)→x∈p
theorem kn.len{n:Nat}{p:List Int}(h:kn n p):p.length=n:=by
 have h1:=GY n p h.nd h.rg
 have h2:((List.range n).map fun a:Nat=>(a:Int)).Nodup:=Ct.2 (List.Pairwise.imp (fun h e=>h (Int.ofNat.inj e)) List.nodup_range)
 have h3:∀(A B:List Int),A.Nodup→(∀x∈A,x∈B)→A.length≤B.length:=by
  intro A
  induction A with
  |nil=>intro B _ _;exact bA _
  |cons a A ih=>
   intro B hn hs
   have hn:=mE.1 hn
   have ha:=hs a (cj ..)
   have:=ih (B.erase a) hn.2 fun x hx=>(PA (fun e:x=a=>hn.1 (e▸hx))).2 (hs x (dp _ hx))
   rw[List.length_erase_of_mem ha]at this
   have:=Gf ha
   rw[ik];omega
 have h4:=h3 _ p h2 fun x hx=>by
  obtain⟨a,ha,rfl⟩:=dT.1 hx
  exact h.all _ ⟨by omega,by have:=gy.1 ha;omega⟩
 rw[cg,kS]at h4
 omega
theorem Vk{n:Nat}{p:List Int}(h:kn n p):∀k,k≤n→∀i,i<k→(sS n p k).getD (p.getD i 0).toNat 0=(n:Int)-1-(i:Int)
 | 0,_,i,hi=>absurd hi (og _)
 |k+1,hk,i,hi=>by
  have hl:=h.len
  have OQ:k<p.length:=by omega
  have e:∀j,j<p.length→p.getD j 0∈p∧p[j]?=some (p.getD j 0):=fun j hj=>by
   have:p[j]?=some (p.getD j 0):=by rw[aZ,bh hj];rfl
   exact⟨cx this,this⟩
  have hr:=h.rg _ (e k OQ).1
  unfold sS
  rw[aZ,fj]
  by_cases he:i=k
  ·subst he
   rw[ah rfl,ah (by rw[AF];omega)];rfl
  ·have dY:=h.rg _ (e i (by omega)).1
   have aX:¬(p.getD k 0).toNat=(p.getD i 0).toNat:=fun e2=>by
    have e3:p.getD k 0=p.getD i 0:=by omega
    have:=(List.getElem?_inj (i:=k) (j:=i) OQ h.nd).1 ((e k OQ).2.trans ((congrArg some e3).trans (e i (by omega)).2.symm))
    omega
   rw[ag aX,← aZ]
   exact Vk h k (by omega) i (by omega)
def zZ(n:Nat)(p:List Int):List Int:=sS n p n
theorem afL{n:Nat}{p:List Int}(h:kn n p){i:Nat}{x:Int}(hi:p[i]?=some x):(zZ n p).getD x.toNat 0=(n:Int)-1-(i:Int):=by
 have hl:=(ck.1 hi).1
 rw[h.len]at hl
 have:=Vk h n (a8 _) i hl
 rw[show p.getD i 0=x by rw[aZ,hi];rfl]at this
 exact this
theorem agD(n:Nat)(l:List bK)(fr:List Int)(σ:Hp)(hl:l.length≤100000)(hf:fr.length≤100000)(dY:fF n l=true)(n5:∀x∈fr,0≤x∧x<(n:Int)):ACalls Tryz.prog 257 [.int .i64 n,.ae dB l,.ae (.int .i64) fr] σ (fun r σ'=>r=.tup [.ae (.int .i64) (zZ n (qB n l fr)),.int .i64 0]∧σ'=σ∧kn n (qB n l fr)):=by
 have hn:1≤n∧n≤256:=by
  unfold fF at dY
  simp only[bO,decide_eq_true_eq]at dY
  omega
 refine ar Tryz.func257 ?_
 refine .mk [] _ (ahC n l fr _ hl hf dY n5) ?_
 rintro _ τ ⟨rfl,Ox,met,hP⟩
 subst τ
 have hA:kn n (qB n l fr):=⟨hP.nd,hP.rg,fun x hx=>Z8 hx⟩
 have hlen:=hA.len
 generalize qB n l fr=p at hP hA hlen
 have hnT:((n:Nat):Int).toNat=n:=bC n
 refine bc ?_
 intro bo
 refine bQ (S:=Nat) (fun x=>[(0,.int .i64 n),(10,.af bo 0 n 1),(25,.ae (.int .i64) p),(26,.int .i64 p.length),(27,.int .i64 x)]) (fun x=>(bo,ao (sS n p x))::σ) (fun x=>x≤p.length) (fun x=>p.length-x) 0 ⟨bA _,⟨rfl,rfl,rfl,rfl,rfl,trivial⟩,by rw[show ao (sS n p 0)=cD [.int .i64 0] n from (yW n).symm];rfl⟩ ?_
 intro k g hk
 have hk:k≤p.length:=hk
 refine ak (p:=(k:Int)<p.length) (fun ab=>?_) (fun aq=>?_)
 ·have ab:k<p.length:=by omega
  have hx:=hA.rg _ (bP ab)
  have hlk:=AF n p k
  refine aG.mk rfl (bE.mk p[k] (by omega) (get_some ab) ?_)
  refine aM ?_
  have hv:IntKind.i64.wrap (IntKind.i64.wrap ((n:Int)-1)-(k:Int))=(n:Int)-1-(k:Int):=by rw[IntKind.wrap_i64,IntKind.wrap_i64];omega
  have kj:sS n p (k+1)=(sS n p k).set p[k].toNat ((n:Int)-1-(k:Int)):=by
   show (sS n p k).set (p.getD k 0).toNat _=_
   rw[aZ,bh ab];rfl
  refine cT 0 rfl (nu rfl _ hx.1 (by omega)) ?_
  exact aY (k+1) (by show p.length-(k+1)<p.length-k;omega) ab ⟨rfl,rfl,rfl,rfl,aS (by omega),trivial⟩ (aL (by rw[hv,← kj];rfl))
 ·have aq:k=p.length:=by omega
  subst aq
  refine .cJ 0 bo 0 n 1 _ (.int .i64) (zZ n p) rfl (by rw[gz,ek (by rw[nq,AF,eA];exact a8 _),hlen];exact uY _) ⟨AF n p n,rfl,by decide⟩ (cd .here (.refl _)) (.done ⟨rfl,rfl,hA⟩)
set_option maxHeartbeats 4000000
theorem Q3:∀{Q:List (List Int)},(∀p∈Q,0<p.length)→Q.length≤Q.flatten.length
 | [],_=>a8 _
 |p::Q,h=>by
  have ih:=Q3 (Q:=Q) fun q hq=>h q (dp _ hq)
  have:=h p (cj ..)
  rw[go2,bZ,ik]
  omega
set_option maxHeartbeats 4000000
theorem kn.rk{n:Nat}{p:List Int}(h:kn n p)(hn:n≤1000):uk n (zZ n p):=by
 have hl:=h.len
 have key:∀i:Nat,i<n→∃j:Nat,p[j]?=some (i:Int)∧j<n∧(zZ n p).getD i 0=(n:Int)-1-(j:Int):=fun i hi=>by
  obtain⟨j,hj⟩:=Ga (h.all i ⟨by omega,by omega⟩)
  have gP:=(ck.1 hj).1
  have:=afL h hj
  rw[bC]at this
  exact⟨j,hj,by omega,this⟩
 refine⟨AF n p n,fun i hi=>?_,fun i j hi hj e=>?_⟩
 ·obtain⟨k,_,hk,e⟩:=key i hi
  omega
 ·obtain⟨k,h1,_,e1⟩:=key i hi
  obtain⟨m,h2,_,e2⟩:=key j hj
  have:k=m:=by omega
  subst this
  rw[h1]at h2
  have:=Option.some.inj h2
  omega
def zr(n:Nat)(p:List Int):List (nm n):=p.filterMap fun x=>if h:0≤x∧x<(n:Int) then some ⟨x,h⟩ else none
theorem GR{n:Nat}:∀{p:List Int},(∀x∈p,0≤x∧x<(n:Int))→jG (zr n p)=p
 | [],_=>rfl
 |x::p,h=>by
  have hx:=h x (cj ..)
  have ih:=GR (p:=p) fun y hy=>h y (dp _ hy)
  unfold zr at ih ⊢
  rw[List.filterMap_cons,dif_pos hx]
  show x::jG _=_
  rw[ih]
def fC(n:Nat)(rk:List Int)(p:List Int):List Int:=jG (vC rk (zr n p))
theorem RF{n:Nat}{rk p:List Int}(h:∀x∈p,0≤x∧x<(n:Int)):(fC n rk p).Perm p:=by
 have h1:(jG (vC rk (zr n p))).Perm (jG (zr n p)):=List.Perm.map _ (List.mergeSort_perm _ _)
 rw[GR h]at h1
 exact h1
theorem X9{n:Nat}{rk p:List Int}(h:∀x∈p,0≤x∧x<(n:Int)):(fC n rk p).length=p.length:=(RF h).length_eq
def oX(n:Nat)(l:List bK)(fr:List Int):List Int:=(kq n l).flatMap (fC n (zZ n (qB n l fr)))
def qP(n:Nat)(rk:List Int)(rw:List (Nat×List Int))(k:Nat):List (Nat×List Int):=(rw.take k).map (fun r=>(r.1,fC n rk r.2))++rw.drop k
theorem acZ(n:Nat)(rk:List Int)(b bk:Nat)(p:List Int)(σ:Hp)(hr:uk n rk)(hp:∀x∈p,0≤x∧x<(n:Int))(h0:0<p.length)(hl:p.length≤1000000):ACalls Tryz.prog 259 [.af b 0 p.length 1,.fn (.func 260) [] [.ptr bk 0]] ((b,ao p)::(bk,[.ae (.int .i64) rk])::σ) (ay (.tup []) ((b,ao (fC n rk p))::(bk,[.ae (.int .i64) rk])::σ)):=by
 obtain⟨x,hx⟩:∃x,x∈p:=by
  match p,h0 with
  |x::_,_=>exact⟨x,cj ..⟩
 haveI:Inhabited (nm n):=⟨⟨x,hp x hx⟩⟩
 have e:(zr n p).length=p.length:=by
  have:=congrArg List.length (GR hp)
  rw[CG]at this
  exact this
 have h:=ab2 n rk b bk (zr n p) p.length σ hr e h0 hl
 rw[GR hp]at h
 exact h
theorem afH{n:Nat}{rk:List Int}{rw:List (Nat×List Int)}{k b:Nat}{p:List Int}(h:rw[k]?=some (b,p)):(qP n rk rw k)[k]?=some (b,p)∧(qP n rk rw (k+1))[k]?=some (b,fC n rk p):=by
 have hk:=(ck.1 h).1
 have hg:rw[k]=(b,p):=(ck.1 h).2
 have hl:((rw.take k).map (fun r=>(r.1,fC n rk r.2))).length=k:=by rw[cg,sk];omega
 refine⟨?_,?_⟩
 ·unfold qP
  rw[jb (by omega),hl,qd,Ao,wO]
  exact h
 ·unfold qP
  rw[ff hk,cW,hg,dU,jb (by omega),hl,qd]
  rfl
theorem Z0{n:Nat}{rk:List Int}{rw:List (Nat×List Int)}{k b:Nat}{p:List Int}(h:rw[k]?=some (b,p)):qP n rk rw k=(rw.take k).map (fun r=>(r.1,fC n rk r.2))++(b,p)::rw.drop (k+1)∧qP n rk rw (k+1)=(rw.take k).map (fun r=>(r.1,fC n rk r.2))++(b,fC n rk p)::rw.drop (k+1):=by
 have hk:=(ck.1 h).1
 have hg:rw[k]=(b,p):=(ck.1 h).2
 refine⟨?_,?_⟩
 ·unfold qP
  rw[KE hk,hg]
 ·unfold qP
  rw[ff hk,cW,hg,dU]
  rfl
theorem SR(A B:List (Nat×List Int))(b:Nat)(p:List Int)(x:Nat×List AV)(X σ:Hp):((b,ao p)::x::(X++(eV A++(eV B++σ)))).Perm (x::(X++(eV (A++(b,p)::B)++σ))):=by
 have e:eV (A++(b,p)::B)++σ=eV A++((b,ao p)::(eV B++σ)):=by
  unfold eV
  rw[cW,dU];rfl
 rw[e]
 refine (List.Perm.swap _ _ _).trans (List.Perm.cons _ ?_)
 exact (oh.symm).trans (List.Perm.append_left X oh.symm)
theorem kn.perm{n:Nat}{p q:List Int}(h:kn n p)(hp:q.Perm p):kn n q:=⟨hp.nodup_iff.2 h.nd,fun x hx=>h.rg x (hp.mem_iff.1 hx),fun x hx=>hp.mem_iff.2 (h.all x hx)⟩
theorem Sc{n:Nat}{rk:List Int}:∀{Q:List (List Int)},(∀p∈Q,∀x∈p,0≤x∧x<(n:Int))→(Q.flatMap (fC n rk)).Perm Q.flatten
 | [],_=>List.Perm.nil
 |p::Q,h=>by
  rw[yy,go2]
  exact (RF (h p (cj ..))).append (Sc fun q hq=>h q (dp _ hq))
theorem oZ.flat{n:Nat}{l:List bK}{P Q:List (List Int)}(h:oZ n l P)(hp:Q.Perm P):(∀p∈Q,p≠[])∧(∀p∈Q,∀x∈p,0≤x∧x<(n:Int))∧kn n Q.flatten:=by
 have hn:∀p∈Q,∀x∈p,0≤x∧x<(n:Int):=fun p hq=>h.ok.node p (hp.mem_iff.1 hq)
 refine⟨fun p hq=>h.ok.ne p (hp.mem_iff.1 hq),hn,(hp.flatten).nodup_iff.2 h.ok.nd,fun x hx=>?_,fun x hx=>?_⟩
 ·obtain⟨p,hq,r9⟩:=pr.1 hx
  exact hn p hq x r9
 ·obtain⟨p,hq,r9⟩:=h.all x hx.1 hx.2
  exact pr.2 ⟨p,hp.mem_iff.2 hq,r9⟩
theorem Q4:∀{Q:List (List Int)},(∀p∈Q,p≠[])→Q.length≤Q.flatten.length
 | [],_=>a8 _
 |p::Q,h=>by
  have ih:=Q4 (Q:=Q) fun q hq=>h q (dp _ hq)
  have:=mG.2 (h p (cj ..))
  rw[go2,bZ,ik]
  omega
theorem afg(n:Nat)(l:List bK)(fr:List Int)(σ:Hp)(hl:l.length≤100000)(hf:fr.length≤100000)(dY:fF n l=true)(n5:∀x∈fr,0≤x∧x<(n:Int)):ACalls Tryz.prog 215 [.int .i64 n,.ae dB l,.ae (.int .i64) fr] σ (fun r σ'=>∃bo,r=.tup [.af bo 0 (oX n l fr).length 1,.int .i64 0]∧σ'=(bo,ao (oX n l fr))::σ∧kn n (oX n l fr)∧(∀p∈kq n l,p≠[])∧kn n (kq n l).flatten∧kn n (qB n l fr)):=by
 have hn:1≤n∧n≤256:=by
  unfold fF at dY
  simp only[bO,decide_eq_true_eq]at dY
  omega
 refine ar Tryz.func215 ?_
 refine .mk [] _ (agD n l fr _ hl hf dY n5) ?_
 rintro _ τ ⟨rfl,Ox,hA⟩
 subst τ
 have hR:=hA.rk (by omega)
 intro b8
 refine aj 0 ?_
 refine .mk [] _ (af9 n l _ hl dY) ?_
 rintro _ _ ⟨bo,eU,rfl,mY,rfl,P,cQ,Fo⟩
 obtain⟨aX,qD,gx⟩:=cQ.flat Fo
 have FN:kn n (oX n l fr):=gx.perm (Sc qD)
 unfold oX at FN ⊢
 generalize zZ n (qB n l fr)=rk at hR FN
 generalize kq n l=Q at mY aX qD FN gx
 have hQl:eU.length=Q.length:=by rw[← mY,cg]
 have hlen:=FN.len
 have aib:∀p∈Q,p.length≤n:=fun p hp=>by
  have h1:p.Sublist Q.flatten:=List.sublist_flatten_of_mem hp
  have:=h1.length_le
  have:=gx.len
  omega
 have Wp:eU.length≤n:=by
  have:=Q4 aX
  have:=gx.len
  omega
 have h0:qP n rk eU 0=eU:=by simp[qP]
 have hH:((b8,[AV.ae (.int .i64) rk])::(bo,fx eU)::(eV eU++([]++σ))).Perm ((bo,fx eU)::(eV eU++((b8,[AV.ae (.int .i64) rk])::σ))):=
  (List.Perm.swap _ _ _).trans (List.Perm.cons _ oh.symm)
 refine .wrap 11 .ai rfl rfl ?_
 refine .dO (.perm hH (.refl _)) ?_
 refine bQ (S:=Nat×AV×Hp) (fun x=>[(8,.ptr b8 0),(9,.int .i64 0),(11,.via x.2.1),(30,.af bo 0 eU.length 1),(31,.int .i64 eU.length),(32,.int .i64 x.1)]) (fun x=>(b8,[.ae (.int .i64) rk])::(bo,fx eU)::(eV (qP n rk eU x.1)++(x.2.2++σ))) (fun x=>x.1≤eU.length∧Acc 1 ((Q.take x.1).flatMap (fC n rk)).length x.2.1 x.2.2 (ao ((Q.take x.1).flatMap (fC n rk)))) (fun x=>eU.length-x.1) (0,.ai,[]) ⟨⟨bA _,.nil⟩,⟨rfl,rfl,rfl,rfl,rfl,rfl,trivial⟩,by rw[h0]⟩ ?_
 rintro⟨k,v,acc⟩ g ⟨hk,bY⟩
 have hk:k≤eU.length:=hk
 have bY:Acc 1 ((Q.take k).flatMap (fC n rk)).length v acc (ao ((Q.take k).flatMap (fC n rk))):=bY
 refine ak (p:=(k:Int)<eU.length) (fun ab=>?_) (fun aq=>?_)
 ·have ab:k<eU.length:=by omega
  obtain⟨p,hp⟩:∃p,Q[k]?=some p:=⟨Q[k]'(by omega),bh (by omega)⟩
  obtain⟨bk,p9⟩:=D5 mY hp
  have gv:=cx hp
  have JS:=qD p gv
  have uv:=mG.2 (aX p gv)
  have s7:=aib p gv
  have df:=X9 (rk:=rk) JS
  obtain⟨s1,s2⟩:=Z0 (n:=n) (rk:=rk) p9
  have fi:Q.take (k+1)=Q.take k++[p]:=by
   rw[ff (by omega)]
   rw[bh (by omega)]at hp
   rw[Option.some.inj hp]
  have nZ:((Q.take k).flatMap (fC n rk)).length+p.length≤n:=by
   have e:Q.flatMap (fC n rk)=(Q.take (k+1)).flatMap (fC n rk)++(Q.drop (k+1)).flatMap (fC n rk):=by rw[← yz,CB]
   have:=congrArg List.length e
   rw[fi,List.flatMap_append,List.length_append,List.length_append,show [p].flatMap (fC n rk)=fC n rk p by simp]at this
   omega
  refine aM ?_
  refine bf 1 rfl (DW rfl (by omega) (by rw[bC];exact p9)) ?_
  rw[s1]
  refine .perm _ (SR _ _ bk p (b8,[.ae (.int .i64) rk]) [(bo,fx eU)] (acc++σ)) (acZ n rk bk b8 p _ hR JS uv (by omega)) ?_
  rintro _ _ ⟨rfl,rfl⟩
  refine⟨_,(SR _ _ bk (fC n rk p) (b8,[.ae (.int .i64) rk]) [(bo,fx eU)] (acc++σ)).symm,?_⟩
  rw[← s2]
  have eb:=(afH (n:=n) (rk:=rk) p9).2
  refine jP (_::_::eV (qP n rk eU (k+1))) bY (.af (k+2) bk 0 p.length (ao (fC n rk p)) (H5 eb) (by rw[nq,df];show 0+p.length*1≤_;omega)) ?_ (by omega) (by decide) (by decide) (fun v' bD h'=>?_)
  ·show (List.take (p.length*1) (List.drop 0 (ao (fC n rk p)))).length=p.length*1
   rw[sk,List.length_drop,nq,df];omega
  ·refine aY (k+1,v',bD) (by show eU.length-(k+1)<eU.length-k;omega) ⟨ab,?_⟩ ⟨rfl,rfl,rfl,rfl,rfl,aS (by omega),trivial⟩ (.refl _)
   have e:List.take (p.length*1) (List.drop 0 (ao (fC n rk p)))=ao (fC n rk p):=by rw[gz,ek (by rw[nq,df];omega)]
   have h2:Acc 1 (((Q.take k).flatMap (fC n rk)).length+p.length) v' bD (ao ((Q.take k).flatMap (fC n rk))++List.take (p.length*1) (List.drop 0 (ao (fC n rk p)))):=h'
   rw[e,← df,← bZ,show ao ((Q.take k).flatMap (fC n rk))++ao (fC n rk p)=ao ((Q.take k).flatMap (fC n rk)++fC n rk p) by unfold ao;rw[cW]]at h2
   show Acc 1 ((Q.take (k+1)).flatMap (fC n rk)).length v' bD (ao ((Q.take (k+1)).flatMap (fC n rk)))
   rw[fi,List.flatMap_append,show [p].flatMap (fC n rk)=fC n rk p by simp]
   exact h2
 ·have aq:¬(k:Int)<eU.length:=aq
  rw[ek (by omega)]at bY
  obtain⟨b,rfl,rfl⟩:=tF (by omega) bY
  exact .drop 0 2 (Zo (eV (qP n rk eU k)) (.done ⟨b,rfl,rfl,FN,aX,gx,hA⟩))
end Go.Proofs.YtnikdflhefijbaaGreat
