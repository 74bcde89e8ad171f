import Derived.Test.YtnikdflhefijbaaGreatBn15
import Derived.Shelf.SlSortCmp.NoneTotal
import Derived.Test.YtnikdflhefijbaaGreatBn5
import Derived.Test.YtnikdflhefijbaaGreatBn9
import Derived.Test.YtnikdflhefijbaaGreatBn10
import Derived.Test.YtnikdflhefijbaaGreatBn14
namespace Go.Proofs.YtnikdflhefijbaaGreat
open Go.RowKit
set_option maxRecDepth 100000
set_option maxHeartbeats 4000000
theorem DS{P:List (List Int)}{rw:List (Nat×List Int)}{i:Nat}{p:List Int}(h:rw.map Prod.snd=P)(hp:P[i]?=some p):∃b,rw[i]?=some (b,p):=by
 rw[← h,fm]at hp
 cases hr:rw[i]? with
 |none=>rw[hr]at hp;cases hp
 |some r=>rw[hr]at hp;cases hp;exact⟨r.1,rfl⟩
theorem DK{i:TI}(hw:i.wide=false){rw:List (Nat×List Int)}{z:Int}{b:Nat}{p:List Int}(_hz:0≤z)(h:rw[z.toNat]?=some (b,p)):eg i (fj rw) (0+z.toNat*1)=some (.af b 0 p.length 1):=
 iV hw (by rw[dM,er];unfold fj;rw[fm,h];rfl)
theorem HE{rw:List (Nat×List Int)}{i b:Nat}{p:List Int}{σ:Hp}(h:rw[i]?=some (b,p)):(eP rw++σ)[i]?=some (b,ao p):=by
 have hi:i<(eP rw).length:=by unfold eP;rw[cj];exact (ck.1 h).1
 rw[kh hi]
 unfold eP
 rw[fm,h];rfl
theorem RO{p:List Int}{x:Int}(h:p[((0:Int)).toNat]?=some x):p.getD ((0:Int)).toNat 0=x:=by rw[aW,h];rfl
theorem QJ:∀{ro:List (Nat×List Int)},(ro.map Prod.snd).flatten.Nodup→(∀r∈ro,r.2≠[])→ro.Nodup
 | [],_,_=>Px
 |r::ro,h,aQ=>by
  have h:(r.2++(ro.map Prod.snd).flatten).Nodup:=h
  have h:=o7.1 h
  refine lY.2 ⟨fun hm=>?_,QJ h.2.1 fun q hq=>aQ q (cQ _ hq)⟩
  obtain⟨x,hx⟩:=List.exists_mem_of_ne_nil _ (aQ r (bU ..))
  exact h.2.2 x hx x (nf.2 ⟨r.2,dL.2 ⟨r,hm,rfl⟩,hx⟩) rfl
theorem Qj{α:Type}[DecidableEq α]:∀{A B:List α},A.Nodup→(∀x∈A,x∈B)→B.length≤A.length→A.Perm B
 | [],B,_,_,h=>by rw[iR.1 (Nat.le_zero.1 h)]
 |a::A,B,hn,hs,hl=>by
  have hn:=lY.1 hn
  have ha:=hs a (bU ..)
  have hp:=List.perm_cons_erase ha
  have hle:=hp.length_eq
  refine (List.Perm.cons a (Qj hn.2 (fun x hx=>?_) ?_)).trans hp.symm
  ·exact (J7 (fun e:x=a=>hn.1 (e▸hx))).2 (hs x (cQ _ hx))
  ·rw[gq]at hle hl;omega
theorem ab1(n:Nat)(l:List bA)(P:List (List Int))(rw:List (Nat×List Int))(bq:Nat)(σ:Hp)(h:oO n l P)(mV:rw.map Prod.snd=P)(uu:0<P.length)(hl:l.length≤100000)(hn:n≤1000)(hr:∀e∈l,(0≤e.1∧e.1<(n:Int))∧0≤e.2.1∧e.2.1<(n:Int)):
  ACalls Tryz.prog 291 [.int .i64 n,.ae dC l,.af bq 0 P.length 1] ((bq,fj rw)::(eP rw++σ)) (fun r σ'=>∃bo eO,r=.af bo 0 eO.length 1∧eO.map Prod.snd=kb n l∧σ'=(bo,fj eO)::(eP eO++σ)∧(kb n l).Perm P):=by
 have wh:rw.length=P.length:=by rw[← mV,cj]
 obtain⟨sW,hpf⟩:=CU h.ok
 have hNt:((n:Nat):Int).toNat=n:=bO n
 refine au Tryz.func291 ?_
 intro bl
 refine aY ?_
 intro bw
 intro bW
 refine aj 0 ?_
 refine cc (S:=Nat) (fun k=>[(2,.af bq 0 P.length 1),(4,.ptr bl 0),(7,.ptr bW 0),(20,.af bq 0 P.length 1),(21,.int .i64 P.length),(22,.int .i64 k)]) (fun k=>(bW,[.af bw 0 n 1])::(bw,ao (mP P k (List.replicate n 0)))::(bl,[.ae dC l])::(bq,fj rw)::(eP rw++σ)) (fun k=>k≤P.length) (fun k=>P.length-k) 0 ⟨bE _,⟨rfl,rfl,rfl,rfl,rfl,rfl,trivial⟩,by rw[show ao (mP P 0 (List.replicate n 0))=cJ [.int .i64 0] n from (yJ n).symm];rfl⟩ ?_
 intro k g aP
 have hk:k≤P.length:=aP
 clear aP
 refine ak (p:=(k:Int)<P.length) (fun ab=>?_) (fun aq=>?_)
 ·have ab:k<P.length:=by omega
  obtain⟨p,hp⟩:∃p,P[k]=p:=⟨_,rfl⟩
  have eW:P[k]?=some p:=(bj ab).trans (congrArg some hp)
  have sV:=h.ok.node p (cu eW)
  have ahY:p.length≤n:=CW n p ((h.ok.BJ p (cu eW)).imp fun h=>by omega) sV
  have sd:=CE P k (List.replicate n 0)
  rw[gG]at sd
  have sS:mP P (k+1) (List.replicate n 0)=lh k p (mP P k (List.replicate n 0)):=by show lh k (P.getD k []) _=_;rw[uW eW]
  generalize mP P k (List.replicate n 0)=W at sd sS
  obtain⟨bk,x4⟩:=DS mV eW
  refine aK ?_
  refine aZ 3 rfl (DK rfl (by omega) (by rw[bO];exact x4)) ?_
  refine cc (S:=Nat) (fun j=>[(2,.af bq 0 P.length 1),(4,.ptr bl 0),(7,.ptr bW 0),(8,.int .i64 k),(20,.af bq 0 P.length 1),(21,.int .i64 P.length),(22,.int .i64 k),(27,.af bk 0 p.length 1),(28,.int .i64 p.length),(29,.int .i64 j)]) (fun j=>(bW,[.af bw 0 n 1])::(bw,ao (lh k (p.take j) W))::(bl,[.ae dC l])::(bq,fj rw)::(eP rw++σ)) (fun j=>j≤p.length) (fun j=>p.length-j) 0 ⟨bE _,⟨rfl,rfl,rfl,rfl,rfl,rfl,rfl,rfl,rfl,rfl,trivial⟩,rfl⟩ ?_
  intro j g2 pY
  have hj:j≤p.length:=pY
  clear pY
  refine ak (p:=(j:Int)<p.length) (fun eL=>?_) (fun pQ=>?_)
  ·have eL:j<p.length:=by omega
   obtain⟨a,ha⟩:∃a,p[j]=a:=⟨_,rfl⟩
   have s6:=sV a (ha▸bX eL)
   have an:(lh k (p.take j) W).set a.toNat k=lh k (p.take (j+1)) W:=by unfold lh;rw[fw eL,ha,s9];rfl
   have v7:=Gi k (p.take j) W
   refine aK ?_
   refine eU.mk (k+4) _ _ (HE x4) (fg rfl (by omega) (by omega)) ?_
   rw[bO,show p.getD j 0=a by rw[aW,bj eL,ha];rfl]
   refine aa 0 ?_
   refine aK ?_
   refine da 1 rfl (nq rfl _ s6.1 (by omega)) ?_
   exact bg (j+1) (by show p.length-(j+1)<p.length-j;omega) eL ⟨rfl,rfl,rfl,rfl,rfl,rfl,rfl,rfl,rfl,a8 (by omega),trivial⟩ (aN (by rw[← an];rfl))
  ·have pQ:j=p.length:=by omega
   subst pQ
   exact bg (k+1) (by show P.length-(k+1)<P.length-k;omega) ab ⟨rfl,rfl,rfl,rfl,rfl,a8 (by omega),trivial⟩ (aN (by rw[fu,sS]))
 ·have aq:k=P.length:=by omega
  subst aq
  have OW:∀j:Nat,j<n→0≤(bu n P).getD j 0∧(bu n P).getD j 0<(P.length:Int):=fun j hj=>by
   obtain⟨i,p,hi,_,hw⟩:=h.idx (x:=(j:Int)) (by omega)
   rw[bO]at hw
   have:=yD hi
   rw[hw];omega
  have sd:=Qz n P
  have Ew:=fun k hk=>(Hi h hr k hk)
  have xI:=MI h hr
  have aQ:∀(i:Nat) (p:List Int),P[i]?=some p→p[((0:Int)).toNat]?=some (iu P i):=fun i p hi=>by
   unfold iu
   rw[uW hi]
   exact Ur (mB.2 (h.ok.ne p (cu hi)))
  rw[show mP P P.length (List.replicate n 0)=bu n P from rfl]
  refine aG.mk ⟨by omega,by omega,by show ((P.length:Nat):Int)≤1048576;omega,by decide⟩ ?_
  intro bt
  intro bT
  refine aj 0 ?_
  obtain⟨m,hm⟩:∃m,P.length=m:=⟨_,rfl⟩
  refine .wrap 14 _ rfl rfl ?_
  refine .dN (.pull [0,2,3,3] (.refl _)) ?_
  refine cc (S:=Nat×(AV×Hp)×List (Nat×List Int)) (fun x=>[(2,.af bq 0 P.length 1),(12,.ptr bT 0),(13,.fn (.func 316) [] [.ptr bT 0,.ptr bl 0,.ptr bW 0]),(14,.via x.2.1.1),(44,.int .i64 P.length),(45,.int .i64 x.1)]) (fun x=>(bT,[.af bt 0 P.length 1])::(bW,[.af bw 0 n 1])::(bw,ao (bu n P))::(bt,bJ (dG P l (bu n P) x.1).1)::(bl,[.ae dC l])::(bq,fj rw)::(eP rw++(x.2.1.2++σ))) (fun x=>x.1≤P.length∧Acc 1 x.1 x.2.1.1 x.2.1.2 (fj x.2.2)∧x.2.2.map Prod.snd=(dG P l (bu n P) x.1).2∧∀r∈x.2.2,r∈rw) (fun x=>P.length-x.1) (0,(.ai,[]),[]) ⟨⟨Nat.zero_le _,.nil,rfl,fun r hr=>absurd hr (by simp)⟩,⟨rfl,rfl,rfl,rfl,rfl,rfl,trivial⟩,by rw[show bJ (dG P l (bu n P) 0).1=cJ [.bool false] P.length from (Dn P.length).symm];rfl⟩ ?_
  rintro⟨k,⟨v,acc⟩,ro⟩ g2 ⟨aP,kW,WL,Wb⟩
  have hk:k≤P.length:=aP
  have cH:Acc 1 k v acc (fj ro):=kW
  have mU:ro.map Prod.snd=(dG P l (bu n P) k).2:=WL
  have mn:∀r∈ro,r∈rw:=Wb
  clear aP kW WL Wb
  refine ak (p:=(k:Int)<P.length) (fun ab=>?_) (fun aq=>?_)
  ·have ab:k<P.length:=by omega
   obtain⟨hO,D5,_⟩:=Ew k hk
   obtain⟨b,hb,oX⟩:=D5 ab
   have Fo:=hO.tl
   have fk:(dG P l (bu n P) (k+1)).1=(dG P l (bu n P) k).1.set b true:=by
    show (dG P l (bu n P) k).1.set (fo P l (bu n P) (dG P l (bu n P) k).1 P.length).toNat true=_
    rw[hb,bO]
   have gF:(dG P l (bu n P) (k+1)).2=(dG P l (bu n P) k).2++[P.getD b []]:=by
    show (dG P l (bu n P) k).2++[P.getD (fo P l (bu n P) (dG P l (bu n P) k).1 P.length).toNat []]=_
    rw[hb,bO]
   generalize (dG P l (bu n P) k).1=T at hb Fo fk
   rw[← mU]at gF
   clear hO D5
   have NQ:=Gs P l (bu n P) T
   refine cc (S:=Nat) (fun i=>[(2,.af bq 0 P.length 1),(12,.ptr bT 0),(13,.fn (.func 316) [] [.ptr bT 0,.ptr bl 0,.ptr bW 0]),(14,.via v),(15,.int .i64 (fo P l (bu n P) T i)),(44,.int .i64 P.length),(45,.int .i64 k),(47,.af bq 0 P.length 1),(48,.int .i64 P.length),(49,.int .i64 i)]) (fun _=>(bT,[.af bt 0 P.length 1])::(bW,[.af bw 0 n 1])::(bw,ao (bu n P))::(bt,bJ T)::(bl,[.ae dC l])::(bq,fj rw)::(eP rw++(acc++σ))) (fun i=>i≤P.length) (fun i=>P.length-i) 0 ⟨bE _,⟨rfl,rfl,rfl,rfl,rfl,rfl,rfl,rfl,rfl,rfl,trivial⟩,rfl⟩ ?_
   intro i g3 eD
   have hi:i≤P.length:=eD
   clear eD
   refine ak (p:=(i:Int)<P.length) (fun eL=>?_) (fun pQ=>?_)
   ·have eL:i<P.length:=by omega
    obtain⟨p,hp⟩:∃p,P[i]=p:=⟨_,rfl⟩
    have eW:P[i]?=some p:=(bj eL).trans (congrArg some hp)
    have wD:=fun ρ=>Wu bW bw bl bT bt n P.length l (bu n P) T i ρ hl (by omega) hr sd Fo OW
    have eG:fo P l (bu n P) T (i+1)=if nu l (bu n P) T i=true∧(fo P l (bu n P) T i<0∨iu P i<iu P (fo P l (bu n P) T i).toNat) then (i:Int) else fo P l (bu n P) T i:=rfl
    have Fl:=NQ i
    obtain⟨bi,hbi⟩:=DS mV eW
    have uk:0<p.length:=mB.2 (h.ok.ne p (cu eW))
    refine aK ?_
    refine aZ 5 rfl (DK rfl (by omega) (by rw[bO];exact hbi)) ?_
    cases hf:nu l (bu n P) T i with
    |false=>
     rw[hf]at wD eG
     rw[ag (fun h=>by cases h.1)]at eG
     refine .quiet (by kernel_rfl) ?_
     refine aH [] (wD _) ?_
     exact bg (i+1) (by show P.length-(i+1)<P.length-i;omega) eL ⟨rfl,rfl,rfl,rfl,by rw[eG];rfl,rfl,rfl,rfl,rfl,a8 (by omega),trivial⟩ (.refl _)
    |true=>
     rw[hf]at wD eG
     refine .quiet (by kernel_rfl) ?_
     refine aH [] (wD _) ?_
     refine ak (p:=fo P l (bu n P) T i<0) (fun c1=>?_) (fun c1=>?_)
     ·rw[ah ⟨rfl,.inl c1⟩]at eG
      exact bg (i+1) (by show P.length-(i+1)<P.length-i;omega) eL ⟨rfl,rfl,rfl,rfl,by rw[eG];rfl,rfl,rfl,rfl,rfl,a8 (by omega),trivial⟩ (.refl _)
     ·obtain⟨b2,e2,l2,_⟩:=Fl.resolve_left fun h=>c1 (by rw[h.1];decide)
      obtain⟨p2,dz⟩:∃p,P[b2]?=some p:=⟨P[b2],bj (by omega)⟩
      have WQ:P[(fo P l (bu n P) T i).toNat]?=some p2:=by rw[e2,bO];exact dz
      have B4:0≤fo P l (bu n P) T i:=by omega
      rw[e2,bO,← e2]at eG
      obtain⟨bb,s5⟩:=DS mV dz
      have hp20:0<p2.length:=mB.2 (h.ok.ne p2 (cu dz))
      refine aG.mk ⟨rfl,by decide,by omega⟩ ?_
      refine eU.mk (i+6) _ _ (HE hbi) (fg rfl (by decide) (by omega)) ?_
      refine aK ?_
      refine aZ 5 rfl (DK rfl (by omega) (by rw[e2,bO];exact s5)) ?_
      refine aG.mk ⟨rfl,by decide,by omega⟩ ?_
      refine eU.mk (b2+6) _ _ (HE s5) (fg rfl (by decide) (by omega)) ?_
      rw[show p.getD (0:Int).toNat 0=iu P i from RO (aQ i p eW),show p2.getD (0:Int).toNat 0=iu P b2 from RO (aQ b2 p2 dz)]
      refine ak (p:=iu P i<iu P b2) (fun c2=>?_) (fun c2=>?_)
      ·rw[ah ⟨rfl,.inr c2⟩]at eG
       exact bg (i+1) (by show P.length-(i+1)<P.length-i;omega) eL ⟨rfl,rfl,rfl,rfl,by rw[eG];rfl,rfl,rfl,rfl,rfl,a8 (by omega),trivial⟩ (.refl _)
      ·rw[ag (fun h=>h.2.elim c1 c2)]at eG
       exact bg (i+1) (by show P.length-(i+1)<P.length-i;omega) eL ⟨rfl,rfl,rfl,rfl,by rw[eG];rfl,rfl,rfl,rfl,rfl,a8 (by omega),trivial⟩ (.refl _)
   ·have pQ:i=P.length:=by omega
    subst pQ
    refine aa 0 ?_
    refine aK ?_
    refine da 3 rfl (yH rfl true (by omega) (by omega)) ?_
    obtain⟨pb,qU⟩:∃p,P[b]?=some p:=⟨P[b],bj oX⟩
    obtain⟨bb,s5⟩:=DS mV qU
    rw[uW qU]at gF
    refine aK ?_
    refine aZ 5 rfl (DK rfl (by omega) (by rw[hb,bO];exact s5)) ?_
    intro bs
    refine l8 (_::_::_::_::_::_::_::eP rw) cH (.af 0 bs 0 1 _ rfl (cR rfl)) rfl (by omega) (by decide) (by decide) (fun v' bQ h'=>?_)
    refine bg (k+1,(v',bQ),ro++[(bb,pb)]) (by show P.length-(k+1)<P.length-k;omega) ⟨ab,?_,?_,fun r hr=>?_⟩ ⟨rfl,rfl,rfl,rfl,rfl,a8 (by omega),trivial⟩ (.drop 0 1 (aN (by rw[fk,hb,bO];rfl)))
    ·show Acc 1 (k+1) v' bQ (fj (ro++[(bb,pb)]))
     rw[show fj (ro++[(bb,pb)])=fj ro++[.af bb 0 pb.length 1] from dr];exact h'
    ·show (ro++[(bb,pb)]).map Prod.snd=(dG P l (bu n P) (k+1)).2
     rw[gF,dr];rfl
    ·rcases bR.1 hr with hr | hr
     ·exact mn r hr
     ·rw[bh.1 hr];exact cu s5
  ·have aq:k=P.length:=by omega
   subst aq
   have hOI:=(Ew P.length (aR _)).1
   have nQ:=hOI.ol
   have cf:=hOI.nd
   rw[← mU]at nQ cf
   rw[xI]at mU
   rw[cj]at nQ
   have ai1:∀r∈ro,r.2≠[]:=fun r hr=>h.ok.ne r.2 (by rw[← mV];exact dL.2 ⟨r,mn r hr,rfl⟩)
   have agV:ro.Nodup:=QJ cf ai1
   have oo:ro.Perm rw:=Qj agV mn (by omega)
   obtain⟨bo,rfl,rfl⟩:=tB (by omega) cH
   have hH:((bo,fj ro)::(eP ro++σ)).Perm (eP rw++([(bo,fj ro)]++σ)):=by
    refine (List.Perm.cons _ (List.Perm.append_right σ (List.Perm.map _ oo))).trans nX.symm
   exact .drop 0 6 (.perm hH (.done ⟨bo,ro,by rw[nQ];rfl,mU,rfl,by rw[← mU,← mV];exact List.Perm.map _ oo⟩))
set_option maxHeartbeats 4000000
theorem af1(n:Nat)(l:List bA)(σ:Hp)(hl:l.length≤100000)(dU:ey n l=true):ACalls Tryz.prog 258 [.int .i64 n,.ae dC l] σ (fun r σ'=>∃bo eO,r=.tup [.af bo 0 eO.length 1,.int .i64 0]∧eO.map Prod.snd=kb n l∧σ'=(bo,fj eO)::(eP eO++σ)∧∃P,oO n l P∧(kb n l).Perm P):=by
 have hn:1≤n∧n≤256:=by
  unfold ey at dU
  simp only[bL,decide_eq_true_eq]at dU
  omega
 have B2:∀e∈l,(0≤e.1∧e.1<(n:Int))∧0≤e.2.1∧e.2.1<(n:Int):=fun e he=>by
  unfold ey at dU
  simp only[bL,fI]at dU
  have:=dU.2 e he
  exact⟨kO.1 this.1,kO.1 this.2⟩
 refine au Tryz.func258 ?_
 refine dm [] (DN n l _ (by omega)) (fun _=>?_) (fun c=>absurd c (by rw[dU];decide))
 refine gz.H6 (S:=Nat×Nat×Nat×Nat) [] (.one 0 false (.one 2 false (.one 4 false (.alt 1 (.alt 3 (.alt 5 (.one 6 false (.one 7 false (.one 8 false .stop))) (.one 7 false (.one 5 false (.one 6 false (.one 8 false .stop))))) (.alt 5 (.alt 3 (.one 6 false (.one 7 false (.one 8 false .stop))) (.one 7 false (.one 3 false (.one 6 false (.one 8 false .stop))))) (.one 7 false (.alt 3 (.one 5 false (.one 6 false (.one 8 false .stop))) (.one 5 false (.one 3 false (.one 6 false (.one 8 false .stop)))))))) (.alt 3 (.alt 1 (.alt 5 (.one 6 false (.one 7 false (.one 8 false .stop))) (.one 7 false (.one 5 false (.one 6 false (.one 8 false .stop))))) (.alt 5 (.alt 1 (.one 6 false (.one 7 false (.one 8 false .stop))) (.one 7 false (.one 1 false (.one 6 false (.one 8 false .stop))))) (.one 7 false (.alt 1 (.one 5 false (.one 6 false (.one 8 false .stop))) (.one 5 false (.one 1 false (.one 6 false (.one 8 false .stop)))))))) (.alt 5 (.alt 1 (.alt 3 (.one 6 false (.one 7 false (.one 8 false .stop))) (.one 7 false (.one 3 false (.one 6 false (.one 8 false .stop))))) (.alt 3 (.alt 1 (.one 6 false (.one 7 false (.one 8 false .stop))) (.one 7 false (.one 1 false (.one 6 false (.one 8 false .stop))))) (.one 7 false (.alt 1 (.one 3 false (.one 6 false (.one 8 false .stop))) (.one 3 false (.one 1 false (.one 6 false (.one 8 false .stop)))))))) (.one 7 false (.alt 1 (.alt 3 (.one 5 false (.one 6 false (.one 8 false .stop))) (.one 5 false (.one 3 false (.one 6 false (.one 8 false .stop))))) (.alt 3 (.alt 1 (.one 5 false (.one 6 false (.one 8 false .stop))) (.one 5 false (.one 1 false (.one 6 false (.one 8 false .stop))))) (.one 5 false (.alt 1 (.one 3 false (.one 6 false (.one 8 false .stop))) (.one 3 false (.one 1 false (.one 6 false (.one 8 false .stop))))))))))))))) (fun x=>[(0,.int .i64 n),(1,.ae dC l),(6,.ptr x.1 0)]) (fun x=>(x.1,[.ai,.af x.2.1 0 n 1,.af x.2.2.1 0 n 1,.af x.2.2.2 0 n 1,.ai,.int .i64 0,.ai])::(x.2.1,cJ [.int .i64 0] n)::(x.2.2.1,cJ [.int .i64 0] n)::(x.2.2.2,cJ [.bool false] n)::σ) (by kernel_rfl) ?_ ?_
 ·refine And.intro ?_ ?_
  ·refine aY ?_
   intro bi
   refine And.intro ?_ ?_
   ·refine aY ?_
    intro bl
    refine And.intro ?_ ?_
    ·refine aY ?_
     intro bo
     intro w
     refine aj 0 ?_
     exact dh.mk (w,bi,bl,bo) ⟨rfl,rfl,rfl,trivial⟩ (.pull [3,3,2,1] (aN rfl))
    ·intro w
     refine aY ?_
     intro bo
     refine aj 1 ?_
     exact dh.mk (w,bi,bl,bo) ⟨rfl,rfl,rfl,trivial⟩ (.pull [3,3,2,0] (aN rfl))
   ·refine And.intro ?_ ?_
    ·refine aY ?_
     intro bo
     refine And.intro ?_ ?_
     ·refine aY ?_
      intro bl
      intro w
      refine aj 0 ?_
      exact dh.mk (w,bi,bl,bo) ⟨rfl,rfl,rfl,trivial⟩ (.pull [3,3,2,2] (aN rfl))
     ·intro w
      refine aY ?_
      intro bl
      refine aj 1 ?_
      exact dh.mk (w,bi,bl,bo) ⟨rfl,rfl,rfl,trivial⟩ (.pull [3,3,1,2] (aN rfl))
    ·intro w
     refine And.intro ?_ ?_
     ·refine aY ?_
      intro bl
      refine aY ?_
      intro bo
      refine aj 2 ?_
      exact dh.mk (w,bi,bl,bo) ⟨rfl,rfl,rfl,trivial⟩ (.pull [3,3,1,0] (aN rfl))
     ·refine aY ?_
      intro bo
      refine aY ?_
      intro bl
      refine aj 2 ?_
      exact dh.mk (w,bi,bl,bo) ⟨rfl,rfl,rfl,trivial⟩ (.pull [3,3,1,1] (aN rfl))
  ·refine And.intro ?_ ?_
   ·refine aY ?_
    intro bl
    refine And.intro ?_ ?_
    ·refine aY ?_
     intro bi
     refine And.intro ?_ ?_
     ·refine aY ?_
      intro bo
      intro w
      refine aj 0 ?_
      exact dh.mk (w,bi,bl,bo) ⟨rfl,rfl,rfl,trivial⟩ (.pull [3,3,3,1] (aN rfl))
     ·intro w
      refine aY ?_
      intro bo
      refine aj 1 ?_
      exact dh.mk (w,bi,bl,bo) ⟨rfl,rfl,rfl,trivial⟩ (.pull [3,3,3,0] (aN rfl))
    ·refine And.intro ?_ ?_
     ·refine aY ?_
      intro bo
      refine And.intro ?_ ?_
      ·refine aY ?_
       intro bi
       intro w
       refine aj 0 ?_
       exact dh.mk (w,bi,bl,bo) ⟨rfl,rfl,rfl,trivial⟩ (.pull [3,3,3,2] (aN rfl))
      ·intro w
       refine aY ?_
       intro bi
       refine aj 1 ?_
       exact dh.mk (w,bi,bl,bo) ⟨rfl,rfl,rfl,trivial⟩ (.pull [3,2,3,2] (aN rfl))
     ·intro w
      refine And.intro ?_ ?_
      ·refine aY ?_
       intro bi
       refine aY ?_
       intro bo
       refine aj 2 ?_
       exact dh.mk (w,bi,bl,bo) ⟨rfl,rfl,rfl,trivial⟩ (.pull [3,2,3,0] (aN rfl))
      ·refine aY ?_
       intro bo
       refine aY ?_
       intro bi
       refine aj 2 ?_
       exact dh.mk (w,bi,bl,bo) ⟨rfl,rfl,rfl,trivial⟩ (.pull [3,2,3,1] (aN rfl))
   ·refine And.intro ?_ ?_
    ·refine aY ?_
     intro bo
     refine And.intro ?_ ?_
     ·refine aY ?_
      intro bi
      refine And.intro ?_ ?_
      ·refine aY ?_
       intro bl
       intro w
       refine aj 0 ?_
       exact dh.mk (w,bi,bl,bo) ⟨rfl,rfl,rfl,trivial⟩ (.pull [3,3,2,3] (aN rfl))
      ·intro w
       refine aY ?_
       intro bl
       refine aj 1 ?_
       exact dh.mk (w,bi,bl,bo) ⟨rfl,rfl,rfl,trivial⟩ (.pull [3,3,1,3] (aN rfl))
     ·refine And.intro ?_ ?_
      ·refine aY ?_
       intro bl
       refine And.intro ?_ ?_
       ·refine aY ?_
        intro bi
        intro w
        refine aj 0 ?_
        exact dh.mk (w,bi,bl,bo) ⟨rfl,rfl,rfl,trivial⟩ (.pull [3,3,3,3] (aN rfl))
       ·intro w
        refine aY ?_
        intro bi
        refine aj 1 ?_
        exact dh.mk (w,bi,bl,bo) ⟨rfl,rfl,rfl,trivial⟩ (.pull [3,2,3,3] (aN rfl))
      ·intro w
       refine And.intro ?_ ?_
       ·refine aY ?_
        intro bi
        refine aY ?_
        intro bl
        refine aj 2 ?_
        exact dh.mk (w,bi,bl,bo) ⟨rfl,rfl,rfl,trivial⟩ (.pull [3,2,1,3] (aN rfl))
       ·refine aY ?_
        intro bl
        refine aY ?_
        intro bi
        refine aj 2 ?_
        exact dh.mk (w,bi,bl,bo) ⟨rfl,rfl,rfl,trivial⟩ (.pull [3,2,2,3] (aN rfl))
    ·intro w
     refine And.intro ?_ ?_
     ·refine aY ?_
      intro bi
      refine And.intro ?_ ?_
      ·refine aY ?_
       intro bl
       refine aY ?_
       intro bo
       refine aj 3 ?_
       exact dh.mk (w,bi,bl,bo) ⟨rfl,rfl,rfl,trivial⟩ (.pull [3,2,1,0] (aN rfl))
      ·refine aY ?_
       intro bo
       refine aY ?_
       intro bl
       refine aj 3 ?_
       exact dh.mk (w,bi,bl,bo) ⟨rfl,rfl,rfl,trivial⟩ (.pull [3,2,1,1] (aN rfl))
     ·refine And.intro ?_ ?_
      ·refine aY ?_
       intro bl
       refine And.intro ?_ ?_
       ·refine aY ?_
        intro bi
        refine aY ?_
        intro bo
        refine aj 3 ?_
        exact dh.mk (w,bi,bl,bo) ⟨rfl,rfl,rfl,trivial⟩ (.pull [3,2,2,0] (aN rfl))
       ·refine aY ?_
        intro bo
        refine aY ?_
        intro bi
        refine aj 3 ?_
        exact dh.mk (w,bi,bl,bo) ⟨rfl,rfl,rfl,trivial⟩ (.pull [3,2,2,1] (aN rfl))
      ·refine aY ?_
       intro bo
       refine And.intro ?_ ?_
       ·refine aY ?_
        intro bi
        refine aY ?_
        intro bl
        refine aj 3 ?_
        exact dh.mk (w,bi,bl,bo) ⟨rfl,rfl,rfl,trivial⟩ (.pull [3,2,1,2] (aN rfl))
       ·refine aY ?_
        intro bl
        refine aY ?_
        intro bi
        refine aj 3 ?_
        exact dh.mk (w,bi,bl,bo) ⟨rfl,rfl,rfl,trivial⟩ (.pull [3,2,2,2] (aN rfl))
 rintro⟨w,bi,bl,bo⟩ g
 have dc:∀(a:Nat) (σ:Hp),ACalls Tryz.prog 289 [.int .i64 n,.ae dC l,.int .i64 a] σ (aB (.ae (.int .i64) (ar n l a)) σ):=fun a σ=>Bq n l a σ hl
 have my:∀k,cz ((List.range (k+1)).map fun a:Nat=>ar n l a)=cz ((List.range k).map fun a:Nat=>ar n l a)++[.ae (.int .i64) (ar n l k)]:=fun k=>by rw[wJ,dr];exact dr
 have fP:∀k,(cz ((List.range k).map fun a:Nat=>ar n l a)).length=k:=fun k=>by rw[uK,cj,l0]
 refine cc (S:=Nat×AV×Hp) (fun x=>[(0,.int .i64 n),(1,.ae dC l),(6,.ptr w 0),(20,.int .i64 n),(21,.int .i64 x.1)]) (fun x=>(w,[x.2.1,.af bi 0 n 1,.af bl 0 n 1,.af bo 0 n 1,.ai,.int .i64 0,.ai])::(bi,cJ [.int .i64 0] n)::(bl,cJ [.int .i64 0] n)::(bo,cJ [.bool false] n)::(x.2.2++σ)) (fun x=>x.1≤n∧(x.1<n→Acc 1 x.1 x.2.1 x.2.2 (cz ((List.range x.1).map fun a:Nat=>ar n l a)))∧(x.1=n→x.2.1=.ae (.slice (.int .i64)) (ca n l)∧x.2.2=[])) (fun x=>n-x.1) (0,.ai,[]) ⟨⟨bE _,fun _=>.nil,fun h=>by have h:0=n:=h;omega⟩,⟨rfl,rfl,rfl,rfl,rfl,trivial⟩,rfl⟩ ?_
 rintro⟨k,v,acc⟩ g ⟨aP,kW,D3⟩
 have hk:k≤n:=aP
 have cH:k<n→Acc 1 k v acc (cz ((List.range k).map fun a:Nat=>ar n l a)):=kW
 have k9:k=n→v=.ae (.slice (.int .i64)) (ca n l)∧acc=[]:=D3
 clear aP kW D3
 refine ak (p:=(k:Int)<n) (fun ab=>?_) (fun aq=>?_)
 ·have ab:k<n:=by omega
  have cH:=cH ab
  clear k9
  have mz:(ca n l).length=n:=by unfold ca;rw[cj,l0]
  have BZ:∀k,k+1=n→((cz ((List.range k).map fun a:Nat=>ar n l a)++[AV.ae (.int .i64) (ar n l k)]).drop 0).take ((k+1)*1)=(ca n l).flatMap (Sh.cells (.slice (.int .i64))):=fun k hk=>by
   rw[← my,iP,fe (by rw[fP,er];exact aR _),hk]
   exact w6 _
  refine .sched [5] (.one 0 false (.one 2 false (.one 3 false (.one 4 false (.one 5 true (.alt 1 (.one 6 false (.one 7 false (.one 8 false (.one 9 false .stop)))) (.one 6 false (.one 1 false (.one 7 false (.one 8 false (.one 9 false .stop))))))))))) (by kernel_rfl) ?_
  refine aH [] (Bq n l _ _ hl) ?_
  refine And.intro ?_ ?_
  ·refine aa 0 ?_
   intro aD
   refine Ai [_,_,_,_,_] cH.xQ (.af 0 aD 0 1 _ rfl (cR rfl)) rfl (by omega) (by decide) (by decide) (fun v' bQ h'=>?_)
   obtain⟨b5,rfl,rfl⟩:=tB (by omega) h'
   refine aj 1 ?_
   by_cases kI:k+1=n
   ·refine .j6 5 b5 0 (k+1) 1 _ (.slice (.int .i64)) (ca n l) rfl (BZ k kI) ⟨(mz.trans kI.symm),rfl,by decide⟩ 1 0 w _ rfl rfl ?_
    exact bg (k+1,.ae (.slice (.int .i64)) (ca n l),[]) (by show n-(k+1)<n-k;omega) ⟨ab,fun h=>absurd kI (by have h:k+1<n:=h;omega),fun _=>⟨rfl,rfl⟩⟩ ⟨rfl,rfl,rfl,rfl,a8 (by omega),trivial⟩ (.drop 0 1 (aN rfl))
   ·exact bg (k+1,.af b5 0 (k+1) 1,[(b5,cz ((List.range k).map fun a:Nat=>ar n l a)++[.ae (.int .i64) (ar n l k)])]) (by show n-(k+1)<n-k;omega) ⟨ab,fun _=>by show Acc 1 (k+1) _ _ (cz ((List.range (k+1)).map fun a:Nat=>ar n l a));rw[my];exact h',fun h=>absurd h kI⟩ ⟨rfl,rfl,rfl,rfl,a8 (by omega),trivial⟩ (.drop 0 1 (aN rfl))
  ·intro du
   refine aa 1 ?_
   refine Ai [_,_,_,_,_] cH.xQ (.af 0 du 0 1 _ rfl (cR rfl)) rfl (by omega) (by decide) (by decide) (fun v' bQ h'=>?_)
   obtain⟨b5,rfl,rfl⟩:=tB (by omega) h'
   refine aj 1 ?_
   by_cases kI:k+1=n
   ·refine .j6 5 b5 0 (k+1) 1 _ (.slice (.int .i64)) (ca n l) rfl (BZ k kI) ⟨(mz.trans kI.symm),rfl,by decide⟩ 1 0 w _ rfl rfl ?_
    exact bg (k+1,.ae (.slice (.int .i64)) (ca n l),[]) (by show n-(k+1)<n-k;omega) ⟨ab,fun h=>absurd kI (by have h:k+1<n:=h;omega),fun _=>⟨rfl,rfl⟩⟩ ⟨rfl,rfl,rfl,rfl,a8 (by omega),trivial⟩ (.drop 0 1 (aN rfl))
   ·exact bg (k+1,.af b5 0 (k+1) 1,[(b5,cz ((List.range k).map fun a:Nat=>ar n l a)++[.ae (.int .i64) (ar n l k)])]) (by show n-(k+1)<n-k;omega) ⟨ab,fun _=>by show Acc 1 (k+1) _ _ (cz ((List.range (k+1)).map fun a:Nat=>ar n l a));rw[my];exact h',fun h=>absurd h kI⟩ ⟨rfl,rfl,rfl,rfl,a8 (by omega),trivial⟩ (.drop 0 1 (aN rfl))
 ·have aq:k=n:=by omega
  obtain⟨rfl,rfl⟩:=k9 aq
  clear cH k9
  refine cc (S:=Nat×(List Int×List Int×List Bool×Nat×List (List Int))×(AV×Hp×AV×Hp)) (fun x=>[(0,.int .i64 n),(1,.ae dC l),(6,.ptr w 0),(34,.int .i64 n),(35,.int .i64 x.1)]) (fun x=>(w,dp (ca n l) bi bl bo n x.2.2.1 x.2.1.2.2.2.1 x.2.2.2.2.1)::(bi,ao x.2.1.1)::(bl,ao x.2.1.2.1)::(bo,bJ x.2.1.2.2.1)::(x.2.2.2.1++(x.2.2.2.2.2++σ))) (fun x=>x.1≤n∧FI n (ar n l) x.2.1.1 x.2.1.2.1 x.2.1.2.2.1 [] x.2.1.2.2.2.1 x.2.1.2.2.2.2 []∧iy 1 0 x.2.2.1 x.2.2.2.1 []∧PO x.2.1.2.2.2.2 x.2.2.2.2.1 x.2.2.2.2.2∧∀b:Nat,b<x.1→x.2.1.1.getD b 0≠0) (fun x=>n-x.1) (0,(List.replicate n 0,List.replicate n 0,List.replicate n false,0,[]),(.ai,[],.ai,[])) ⟨⟨bE _,.start n (ar n l),.nil,⟨[],[],rfl,.nil,rfl⟩,fun _ h=>absurd h (nV _)⟩,⟨rfl,rfl,rfl,rfl,rfl,trivial⟩,by rw[yJ,Dn];rfl⟩ ?_
  clear aq
  rintro⟨k,⟨ix,lo,on,aF,P⟩,⟨vs,lM,vp,eM⟩⟩ g2 ⟨aP,p8,qS,uk,r8⟩
  have hk:k≤n:=aP
  have hF:FI n (ar n l) ix lo on [] aF P []:=p8
  have hs:iy 1 0 vs lM []:=qS
  have hp:PO P vp eM:=uk
  have hv:∀b:Nat,b<k→ix.getD b 0≠0:=r8
  clear aP p8 qS uk r8
  have Fe:((k:Nat):Int).toNat=k:=bO k
  refine ak (p:=(k:Int)<n) (fun ab=>?_) (fun aq=>?_)
  ·have ab:k<n:=by omega
   refine aa 0 ?_
   refine aK ?_
   refine aZ 1 rfl (fg rfl (by omega) (by rw[hF.li];omega)) ?_
   refine ak (p:=ix.getD ((k:Nat):Int).toNat 0=0) (fun c1=>?_) (fun c1=>?_)
   ·refine .mk [] _ (agx n w bi bl bo l ix lo on aF P vs vp lM eM k σ (by omega) hF (by omega) c1 hs hp) ?_
    rintro _ _ ⟨rfl,Od,Oc,N9,NY,P2,I6,Nq,N5,Nr,O8,gF,dz,s7,um,rfl⟩
    rw[Fe]at s7
    refine bg (k+1,(Od,Oc,N9,NY,P2),(I6,Nq,N5,Nr)) (by show n-(k+1)<n-k;omega) ⟨ab,O8,gF,dz,fun b hb=>?_⟩ ⟨rfl,rfl,rfl,rfl,a8 (by omega),trivial⟩ (.refl _)
    have hb:b<k+1:=hb
    by_cases e:b=k
    ·subst e;exact s7
    ·exact um b (hv b (by omega))
   ·rw[Fe]at c1
    refine bg (k+1,(ix,lo,on,aF,P),(vs,lM,vp,eM)) (by show n-(k+1)<n-k;omega) ⟨ab,hF,hs,hp,fun b hb=>?_⟩ ⟨rfl,rfl,rfl,rfl,a8 (by omega),trivial⟩ (.refl _)
    have hb:b<k+1:=hb
    by_cases e:b=k
    ·subst e;exact c1
    ·exact hv b (by omega)
  ·have aq:k=n:=by omega
   subst aq
   have cD:oO k l P:=⟨hF.tj.prt,fun x h0 h1=>by
    have h2:=hv x.toNat (by omega)
    have h3:=(hF.tj.xP x h0 h1).1 (by rw[mh h0];exact h2)
    exact h3.resolve_left (by simp)⟩
   have Fv:=CU hF.tj.prt
   refine aa 0 ?_
   obtain⟨x,hx,_⟩:=cD.all 0 (by omega) (by omega)
   have uu:=Cs hx
   obtain⟨ac,rw,rfl,hac,mV⟩:=hp
   have wh:rw.length=P.length:=by rw[← mV,cj]
   obtain⟨b5,rfl,rfl⟩:=tB (by omega) hac
   have hO:=fun τ=>ab1 k l P rw b5 τ cD mV uu hl (by omega) B2
   rw[← wh]at hO
   rcases hs.zero with ⟨rfl,rfl⟩ | ⟨bs,J,rfl,rfl⟩
   ·refine .perm _ (AE [_,_,_,_] ((b5,fj rw)::eP rw) σ) (hO _) ?_
    rintro _ _ ⟨F5,eO,rfl,mU,rfl,E8⟩
    exact⟨_,(AE [_,_,_,_] ((F5,fj eO)::eP eO) σ).symm,.drop 0 4 (.done ⟨F5,eO,rfl,mU,rfl,P,cD,E8⟩)⟩
   ·refine .perm _ (AE [_,_,_,_,_] ((b5,fj rw)::eP rw) σ) (hO _) ?_
    rintro _ _ ⟨F5,eO,rfl,mU,rfl,E8⟩
    exact⟨_,(AE [_,_,_,_,_] ((F5,fj eO)::eP eO) σ).symm,.drop 0 5 (.done ⟨F5,eO,rfl,mU,rfl,P,cD,E8⟩)⟩
end Go.Proofs.YtnikdflhefijbaaGreat
namespace Go.Proofs.YtnikdflhefijbaaGreat
open Go.Shelf
def Yf:Go.Shelf.Ren:=⟨fun | 6=>259 | 15=>233 | 14=>292 | 28=>274 | 29=>275 | 20=>318 | 21=>319 | 22=>320 | 23=>321 | 24=>322 | 25=>323 | 26=>324 | 27=>325 | 46=>339 | 47=>296 | 48=>297 | 49=>340 | 50=>341 | 57=>355 | n=>n,fun | 22=>23 | 24=>3 | 25=>118 | 3=>3 | 39=>253 | 0=>0 | 53=>284 | 55=>56 | 4=>4 | 46=>308 | 45=>307 | 50=>312 | 5=>5 | 9=>9 | 66=>331 | 70=>335 | 76=>353 | 77=>50 | n=>n,fun | n=>n⟩
theorem aeh:Go.Proofs.SlLaysF.n6 Tryz.prog Yf:= {
 mixed:=by kernel_rfl
 f6 := ⟨"slices.SortFunc[[]int,int]", by decide, Tryz.func259.trans (congrArg some (by kernel_rfl))⟩
 f14 := ⟨"slices.pdqsortCmpFunc[int]", by decide, Tryz.func292.trans (congrArg some (by kernel_rfl))⟩
 f15:=Tryz.func233.trans (congrArg some (by kernel_rfl))
 f20 := ⟨"slices.insertionSortCmpFunc[int]", by decide, Tryz.func318.trans (congrArg some (by kernel_rfl))⟩
 f21 := ⟨"slices.heapSortCmpFunc[int]", by decide, Tryz.func319.trans (congrArg some (by kernel_rfl))⟩
 f22 := ⟨"slices.breakPatternsCmpFunc[int]", by decide, Tryz.func320.trans (congrArg some (by kernel_rfl))⟩
 f23 := ⟨"slices.choosePivotCmpFunc[int]", by decide, Tryz.func321.trans (congrArg some (by kernel_rfl))⟩
 f24 := ⟨"slices.reverseRangeCmpFunc[int]", by decide, Tryz.func322.trans (congrArg some (by kernel_rfl))⟩
 f25 := ⟨"slices.partialInsertionSortCmpFunc[int]", by decide, Tryz.func323.trans (congrArg some (by kernel_rfl))⟩
 f26 := ⟨"slices.partitionEqualCmpFunc[int]", by decide, Tryz.func324.trans (congrArg some (by kernel_rfl))⟩
 f27 := ⟨"slices.partitionCmpFunc[int]", by decide, Tryz.func325.trans (congrArg some (by kernel_rfl))⟩
 f28:=Tryz.func274.trans (congrArg some (by kernel_rfl))
 f29:=Tryz.func275.trans (congrArg some (by kernel_rfl))
 f46 := ⟨"slices.siftDownCmpFunc[int]", by decide, Tryz.func339.trans (congrArg some (by kernel_rfl))⟩
 f47:=Tryz.func296.trans (congrArg some (by kernel_rfl))
 f48:=Tryz.func297.trans (congrArg some (by kernel_rfl))
 f49 := ⟨"slices.medianAdjacentCmpFunc[int]", by decide, Tryz.func340.trans (congrArg some (by kernel_rfl))⟩
 f50 := ⟨"slices.medianCmpFunc[int]", by decide, Tryz.func341.trans (congrArg some (by kernel_rfl))⟩
 f57 := ⟨"slices.order2CmpFunc[int]", by decide, Tryz.func355.trans (congrArg some (by kernel_rfl))⟩
 t0:=Tryz.underlying0
 a0:=Tryz.isAgg0
 z0:=Tryz.sizeOf0
 v0:=Tryz.zeroValue0
 t3:=Tryz.underlying3
 a3:=Tryz.isAgg3
 z3:=Tryz.sizeOf3
 v3:=Tryz.zeroValue3
 t4:=Tryz.underlying4
 a4:=Tryz.isAgg4
 z4:=Tryz.sizeOf4
 v4:=Tryz.zeroValue4
 t5:=Tryz.underlying5
 a5:=Tryz.isAgg5
 z5:=Tryz.sizeOf5
 v5:=Tryz.zeroValue5
 t9:=Tryz.underlying9
 a9:=Tryz.isAgg9
 z9:=Tryz.sizeOf9
 v9:=Tryz.zeroValue9
 t22:=Tryz.underlying23
 a22:=Tryz.isAgg23
 z22:=Tryz.sizeOf23
 v22:=Tryz.zeroValue23
 a24:=Tryz.isAgg3
 z24:=Tryz.sizeOf3
 t25:=Tryz.underlying118
 a25:=Tryz.isAgg118
 z25:=Tryz.sizeOf118
 v25:=Tryz.zeroValue118
 t39:=Tryz.underlying253
 a39:=Tryz.isAgg253
 z39:=Tryz.sizeOf253
 v39:=Tryz.zeroValue253
 t45:=Tryz.underlying307
 a45:=Tryz.isAgg307
 z45:=Tryz.sizeOf307
 v45:=Tryz.zeroValue307
 t46:=Tryz.underlying308
 a46:=Tryz.isAgg308
 z46:=Tryz.sizeOf308
 v46:=Tryz.zeroValue308
 t50:=Tryz.underlying312
 a50:=Tryz.isAgg312
 z50:=Tryz.sizeOf312
 v50:=Tryz.zeroValue312
 t53:=Tryz.underlying284
 a53:=Tryz.isAgg284
 z53:=Tryz.sizeOf284
 v53:=Tryz.zeroValue284
 t55:=Tryz.underlying56
 a55:=Tryz.isAgg56
 z55:=Tryz.sizeOf56
 v55:=Tryz.zeroValue56
 t66:=Tryz.underlying331
 a66:=Tryz.isAgg331
 z66:=Tryz.sizeOf331
 v66:=Tryz.zeroValue331
 t70:=Tryz.underlying335
 a70:=Tryz.isAgg335
 z70:=Tryz.sizeOf335
 v70:=Tryz.zeroValue335
 t76:=Tryz.underlying353
 a76:=Tryz.isAgg353
 z76:=Tryz.sizeOf353
 v76:=Tryz.zeroValue353
 t77:=Tryz.underlying50
 a77:=Tryz.isAgg50
 z77:=Tryz.sizeOf50
 v77:=Tryz.zeroValue50 }
end Go.Proofs.YtnikdflhefijbaaGreat
namespace Go.Proofs.YtnikdflhefijbaaGreat
open Go.RowKit Go.Lib
set_option maxRecDepth 100000
theorem afp(n:Nat)(rk:List Int)(x y:Int)(σ:Hp)(hr:rk.length=n)(hx:0≤x∧x<n)(hy:0≤y∧y<n):ACalls Tryz.prog 260 [.int .i64 x,.int .i64 y,.fX [.ae (.int .i64) rk]] σ (aB (.int .i64 (IntKind.i64.wrap (rk.getD x.toNat 0-rk.getD y.toNat 0))) σ):=by
 have h1:rk[x.toNat]?=some (rk.getD x.toNat 0):=by rw[aW,bj (by omega)];rfl
 have h2:rk[y.toNat]?=some (rk.getD y.toNat 0):=by rw[aW,bj (by omega)];rfl
 refine au Tryz.func260 ?_
 refine .quiet (by kernel_rfl) ?_
 refine aG.mk rfl ?_
 refine bM.mk _ hx.1 h1 ?_
 refine aG.mk rfl ?_
 refine bM.mk _ hy.1 h2 ?_
 exact .done ⟨rfl,rfl⟩
abbrev ni(n:Nat):Type:= { x:Int // 0≤x∧x<(n:Int) }
def xM{n:Nat}(rk:List Int)(x y:ni n):Int:=IntKind.i64.wrap (rk.getD x.1.toNat 0-rk.getD y.1.toNat 0)
def sI{n:Nat}(x:ni n):Value:=.int .i64 x.1
structure ud(n:Nat)(rk:List Int):Prop where
 len:rk.length=n
 big:∀i:Nat,i<n→0≤rk.getD i 0∧rk.getD i 0<1000000
 inj:∀i j:Nat,i<n→j<n→rk.getD i 0=rk.getD j 0→i=j
theorem ud.lt{n:Nat}{rk:List Int}(h:ud n rk)(x y:ni n):ltOf (xM rk) x y=decide (rk.getD x.1.toNat 0<rk.getD y.1.toNat 0):=by
 unfold ltOf
 rw[decide_eq_decide]
 have h1:=h.big x.1.toNat (by have:=x.2;omega)
 have h2:=h.big y.1.toNat (by have:=y.2;omega)
 unfold xM
 rw[IntKind.wrap_i64]
 omega
theorem ud.swo{n:Nat}{rk:List Int}(h:ud n rk):Go.Sort.SWO (ltOf (xM (n:=n) rk)) where
 irrefl x:=by rw[h.lt];simp
 trans x y z h1 h2:=by rw[h.lt]at *;simp only[decide_eq_true_eq]at *;omega
 ntrans x y z h1 h2:=by rw[h.lt]at *;simp only[decide_eq_false_iff_not]at *;omega
theorem ud.tot{n:Nat}{rk:List Int}(h:ud n rk)(x y:ni n)(h1:ltOf (xM rk) x y=false)(h2:ltOf (xM rk) y x=false):x=y:=by
 rw[h.lt]at h1 h2
 simp only[decide_eq_false_iff_not]at h1 h2
 have hx:=x.2
 have hy:=y.2
 have:=h.inj x.1.toNat y.1.toNat (by omega) (by omega) (by omega)
 exact Subtype.ext (by omega)
def vm{n:Nat}(rk:List Int)(L:List (ni n)):List (ni n):=L.mergeSort fun x y=> !(ltOf (xM rk)) y x
theorem XH{n:Nat}(rk:List Int)(L:List (ni n)):(vm rk L).length=L.length:=Pp ..
def jv{n:Nat}(L:List (ni n)):List Int:=L.map (·.1)
theorem SF{n:Nat}[Inhabited (ni n)](w:World)(b:Nat)(d:List (ni n)):Go.Sort.putRow sI w b 0 d.toArray=Go.Sort.putRow (Value.int .i64) w b 0 (jv d).toArray:=by
 have e:Go.Sort.putCells sI 0 d.toArray=Go.Sort.putCells (Value.int .i64) 0 (jv d).toArray:=by
  funext c
  unfold Go.Sort.putCells
  refine Array.ext (by simp) fun i h1 h2=>?_
  have hs:(jv d).toArray.size=d.toArray.size:=by simp[jv]
  simp only[Array.getElem_mapIdx,hs]
  by_cases hi:0≤i∧i<0+d.toArray.size
  ·rw[ah hi,ah hi]
   have qV:i<d.length:=by have:=hi.2;simp at this;omega
   have e1:d.toArray[i-0]! = d[i]'qV:=by simp[qV]
   have e2:(jv d).toArray[i-0]! = (d[i]'qV).1:=by simp[jv,qV]
   rw[e1,e2];rfl
  ·rw[ag hi,ag hi]
 unfold Go.Sort.putRow
 rw[e]
theorem Cx{n:Nat}(L:List (ni n)):(jv L).length=L.length:=cj _
theorem XN:Enters Tryz.prog 259:=enters_of Tryz.func259 (by kernel_rfl)
theorem Yo:Enters Tryz.prog 260:=enters_of Tryz.func260 (by kernel_rfl)
theorem aim{F:Nat→Prop}{w:World}{f:Fn}{bk:Nat}{v:Value}(h:aA F w (.fn f [] [.ptr bk 0]) v):v=.func f #[] #[.pointer (some ⟨bk,0,none⟩)]:=by
 cases h with
 |fn _ _ _ v1 v2 fk gF h1 h2=>
  have e1:v1 = #[]:=Kh fk.symm
  obtain⟨z,rfl⟩:∃z,v2 = #[z]:=by
   obtain⟨l2⟩:=v2
   match l2,gF with
   | [z],_=>exact⟨z,rfl⟩
  subst e1
  have h3:=h2 0 _ rfl
  cases h3
  rfl
theorem aaC{F:Nat→Prop}{w:World}{σ:Hp}{n:Nat}[Inhabited (ni n)]{rk:List Int}{b bk:Nat}{L:List (ni n)}(hr:ud n rk)(aE:bf F w ((b,ao (jv L))::(bk,[.ae (.int .i64) rk])::σ)):CmpLays1 Tryz.prog 260 #[.pointer (some ⟨bk,0,none⟩)] sI (xM (n:=n) rk) b 0 L.length w:=fun m os dk hdk x y=>by
 have hd:(jv dk.toList).length=(jv L).length:=by
  rw[Cx,Cx,Py,hdk]
 obtain⟨s1,s2⟩:=Hg (n:=m) (zs':=jv dk.toList) aE hd os
 have hW:sortWorld sI w b 0 m dk os=Go.Sort.grow (Go.Sort.putRow (Value.int .i64) (Go.Sort.ahead w m) b 0 (jv dk.toList).toArray) os:=by
  have:=SF (Go.Sort.ahead w m) b dk.toList
  show Go.Sort.grow (Go.Sort.putRow sI (Go.Sort.ahead w m) b 0 dk) os=_
  rw[← this]
 rw[← hW]at s1 s2
 generalize sortWorld sI w b 0 m dk os=W at s1 s2
 obtain⟨hF,c,T,h1,h2,h3⟩:=(s2.holds (bk,[.ae (.int .i64) rk]) (cQ _ (bU ..))).Mi (fun x hx=>by rw[bh.1 hx];rfl)
 have an:bB F W (fun k=>k<W.heap.size) W:=⟨rfl,rfl,rfl,aR _,fun k hk=>s2.low k hk,fun _ _=>rfl,fun k c T fz h=>⟨c,fz,h,rfl⟩,aR _⟩
 have x4:bk<W.heap.size:=(z6.1 h1).1
 have ik:0<c.size:=h2
 have hv:aA (fun k=>k<W.heap.size) W (.fX [.ae (.int .i64) rk]) (.pointer (some ⟨bk,0,none⟩)):=by
  refine .fX _ bk 0 (fun i=>c.getD i undef) ⟨x4,c,T,(0,0),h1⟩ (fun i x hx=>?_) (fun i x hx=>?_) (fun i x hx=>?_)
  ·match i,hx with
   | 0,hx=>rw[Hv h1,gW,qe (by omega)];rfl
   |i+1,hx=>simp at hx
  ·exact (h3 i x hx).1
  ·exact (h3 i x hx).2.mono an
 have h:=Q5 (fun σ=>afp n rk x.1 y.1 σ hr.len x.2 y.2) (w:=W) (vs:= #[.int .i64 x.1,.int .i64 y.1,.pointer (some ⟨bk,0,none⟩)]) ⟨rfl,fun i a h=>by
  match i,h with
  | 0,h=>cases h;exact .int _ _
  | 1,h=>cases h;exact .int _ _
  | 2,h=>cases h;exact hv⟩
 exact h
theorem aaY(n:Nat)[Inhabited (ni n)](rk:List Int)(b bk:Nat)(L:List (ni n))(q:Nat)(σ:Hp)(hr:ud n rk)(hz:L.length=q)(h0:0<q)(hl:q≤1000000):ACalls Tryz.prog 259 [.af b 0 q 1,.fn (.func 260) [] [.ptr bk 0]] ((b,ao (jv L))::(bk,[.ae (.int .i64) rk])::σ) (aB (.tup []) ((b,ao (jv (vm rk L)))::(bk,[.ae (.int .i64) rk])::σ)):=by
 subst hz
 refine⟨XN,fun F w vs bN aE =>?_⟩
 obtain⟨v,u,rfl⟩:∃v u,vs = #[v,u]:=by
  obtain⟨l2⟩:=vs
  match l2,bN.1 with
  | [v,u],_=>exact⟨v,u,rfl⟩
 have hv:aA F w (.af b 0 L.length 1) v:=bN.2 0 _ rfl
 obtain rfl:=aim (show aA F w (.fn (.func 260) [] [.ptr bk 0]) u from bN.2 1 _ rfl)
 obtain⟨a,cap,rfl,c,T,fz,m1,m2,m3,m4⟩:=hv.kV
 rcases m4 with ⟨rfl,_⟩ | ⟨_,_,h9,_⟩
 ·obtain⟨h1,h2⟩:=LP aE
  have h1:Go.Sort.Holds (sI (n:=n)) w b 0 L.toArray:=fun j hj=>by
   have Ff:j<L.length:=by simpa using hj
   have hh:=h1 j (by simp[jv];exact Ff)
   rw[show (jv L).toArray[j]! = (L.toArray[j]!).1 by simp[jv,Ff]]at hh
   exact hh
  have h:Calls Tryz.prog 259 #[.slice (some ⟨b,0,none⟩) L.length cap,.func (.func 260) #[] #[.pointer (some ⟨bk,0,none⟩)]] w fun e w'=>e=.returned (.tuple #[])∧∃n os,w'=sortWorld sI w b 0 n (vm rk L).toArray os:=Any.slices_SortFunc_total aeh sI (fun _=>rfl) (xM rk) hr.swo 260 #[.pointer (some ⟨bk,0,none⟩)] b 0 cap L.toArray w Yo (by have:=aaC hr aE;simpa using this) h1 h2 (by show L.length<_;omega) hr.tot
  refine h.mono ?_
  rintro e w' ⟨rfl,m,os,rfl⟩
  obtain⟨k1,k2⟩:=Hg (n:=m) (zs':=jv (vm rk L)) aE (by rw[Cx,Cx,XH]) os
  have hW:sortWorld sI w b 0 m (vm rk L).toArray os=Go.Sort.grow (Go.Sort.putRow (Value.int .i64) (Go.Sort.ahead w m) b 0 (jv (vm rk L)).toArray) os:=by
   show Go.Sort.grow (Go.Sort.putRow sI (Go.Sort.ahead w m) b 0 (vm rk L).toArray) os=_
   rw[SF]
  rw[hW]
  exact⟨.tup [],.tuple #[],_,F,rfl,k1,k2,.tup [] #[] rfl fun i x h=>by simp at h,rfl,rfl⟩
 ·omega
set_option maxHeartbeats 4000000
def sO(n:Nat)(p:List Int):Nat→List Int
 | 0=>List.replicate n 0
 |k+1=>(sO n p k).set (p.getD k 0).toNat ((n:Int)-1-(k:Int))
theorem Al(n:Nat)(p:List Int):∀k,(sO n p k).length=n
 | 0=>gG
 |k+1=>by unfold sO;rw[cM];exact Al n p k
theorem ab9{nx:Int→List Int}{n:Nat}{a:Int}{out:List Int}:a∈out++gQ nx (n+1) a out:=by
 by_cases h:a∈out
 ·exact gN _ h
 ·refine jE _ ?_
  unfold gQ
  rw[ag h]
  simp
theorem SG{nx:Int→List Int}{n:Nat}:∀(L out:List Int) (a:Int),a∈out∨a∈L→a∈L.foldl (fun out a=>out++gQ nx (n+1) a out) out
 | [],out,a,h=>h.elim id fun h=>by cases h
 |b::L,out,a,h=>by
  refine SG L _ a ?_
  rcases h with h | h
  ·exact .inl (gN _ h)
  ·rcases dA.1 h with rfl | h
   ·exact .inl ab9
   ·exact .inr h
theorem Z1{n:Nat}{l:List bA}{fr:List Int}{a:Int}(h:0≤a∧a<n):a∈qv n l fr:=by
 refine SG _ _ a (.inr (jE _ (dL.2 ⟨a.toNat,gb.2 (by omega),?_⟩)))
 omega
structure j8(n:Nat)(p:List Int):Prop where
 nd:p.Nodup
 rg:∀x∈p,0≤x∧x<(n:Int)
 all:∀x:Int,0≤x∧x<(n:Int)→x∈p
theorem j8.len{n:Nat}{p:List Int}(h:j8 n p):p.length=n:=by
 have h1:=GB n p h.nd h.rg
 have h2:((List.range n).map fun a:Nat=>(a:Int)).Nodup:=zV.2 (List.Pairwise.imp (fun h e=>h (Int.ofNat.inj e)) JV)
 have h3:∀(A B:List Int),A.Nodup→(∀x∈A,x∈B)→A.length≤B.length:=by
  intro A
  induction A with
  |nil=>intro B _ _;exact bE _
  |cons a A ih=>
   intro B hn hs
   have hn:=lY.1 hn
   have ha:=hs a (bU ..)
   have:=ih (B.erase a) hn.2 fun x hx=>(J7 (fun e:x=a=>hn.1 (e▸hx))).2 (hs x (cQ _ hx))
   rw[List.length_erase_of_mem ha]at this
   have:=Cs ha
   rw[gq];omega
 have h4:=h3 _ p h2 fun x hx=>by
  obtain⟨a,ha,rfl⟩:=dL.1 hx
  exact h.all _ ⟨by omega,by have:=gb.1 ha;omega⟩
 rw[cj,l0]at h4
 omega
theorem U5{n:Nat}{p:List Int}(h:j8 n p):∀k,k≤n→∀i,i<k→(sO n p k).getD (p.getD i 0).toNat 0=(n:Int)-1-(i:Int)
 | 0,_,i,hi=>absurd hi (nV _)
 |k+1,hk,i,hi=>by
  have hl:=h.len
  have OE:k<p.length:=by omega
  have e:∀j,j<p.length→p.getD j 0∈p∧p[j]?=some (p.getD j 0):=fun j hj=>by
   have:p[j]?=some (p.getD j 0):=by rw[aW,bj hj];rfl
   exact⟨cu this,this⟩
  have hr:=h.rg _ (e k OE).1
  unfold sO
  rw[aW,e9]
  by_cases he:i=k
  ·subst he
   rw[ah rfl,ah (by rw[Al];omega)];rfl
  ·have dU:=h.rg _ (e i (by omega)).1
   have aQ:¬(p.getD k 0).toNat=(p.getD i 0).toNat:=fun e2=>by
    have e3:p.getD k 0=p.getD i 0:=by omega
    have:=(List.getElem?_inj (i:=k) (j:=i) OE h.nd).1 ((e k OE).2.trans ((congrArg some e3).trans (e i (by omega)).2.symm))
    omega
   rw[ag aQ,← aW]
   exact U5 h k (by omega) i (by omega)
def zG(n:Nat)(p:List Int):List Int:=sO n p n
theorem afA{n:Nat}{p:List Int}(h:j8 n p){i:Nat}{x:Int}(hi:p[i]?=some x):(zG n p).getD x.toNat 0=(n:Int)-1-(i:Int):=by
 have hl:=(ck.1 hi).1
 rw[h.len]at hl
 have:=U5 h n (aR _) i hl
 rw[show p.getD i 0=x by rw[aW,hi];rfl]at this
 exact this
theorem agq(n:Nat)(l:List bA)(fr:List Int)(σ:Hp)(hl:l.length≤100000)(hf:fr.length≤100000)(dU:ey n l=true)(nR:∀x∈fr,0≤x∧x<(n:Int)):ACalls Tryz.prog 257 [.int .i64 n,.ae dC l,.ae (.int .i64) fr] σ (fun r σ'=>r=.tup [.ae (.int .i64) (zG n (qv n l fr)),.int .i64 0]∧σ'=σ∧j8 n (qv n l fr)):=by
 have hn:1≤n∧n≤256:=by
  unfold ey at dU
  simp only[bL,decide_eq_true_eq]at dU
  omega
 refine au Tryz.func257 ?_
 refine .mk [] _ (ahl n l fr _ hl hf dU nR) ?_
 rintro _ τ ⟨rfl,Oh,met,hP⟩
 subst τ
 have hA:j8 n (qv n l fr):=⟨hP.nd,hP.rg,fun x hx=>Z1 hx⟩
 have hlen:=hA.len
 generalize qv n l fr=p at hP hA hlen
 have hnT:((n:Nat):Int).toNat=n:=bO n
 refine aY ?_
 intro bo
 refine cc (S:=Nat) (fun x=>[(0,.int .i64 n),(10,.af bo 0 n 1),(25,.ae (.int .i64) p),(26,.int .i64 p.length),(27,.int .i64 x)]) (fun x=>(bo,ao (sO n p x))::σ) (fun x=>x≤p.length) (fun x=>p.length-x) 0 ⟨bE _,⟨rfl,rfl,rfl,rfl,rfl,trivial⟩,by rw[show ao (sO n p 0)=cJ [.int .i64 0] n from (yJ n).symm];rfl⟩ ?_
 intro k g hk
 have hk:k≤p.length:=hk
 refine ak (p:=(k:Int)<p.length) (fun ab=>?_) (fun aq=>?_)
 ·have ab:k<p.length:=by omega
  have hx:=hA.rg _ (bX ab)
  have hlk:=Al n p k
  refine aG.mk rfl (bM.mk p[k] (by omega) (get_some ab) ?_)
  refine aK ?_
  have hv:IntKind.i64.wrap (IntKind.i64.wrap ((n:Int)-1)-(k:Int))=(n:Int)-1-(k:Int):=by rw[IntKind.wrap_i64,IntKind.wrap_i64];omega
  have j5:sO n p (k+1)=(sO n p k).set p[k].toNat ((n:Int)-1-(k:Int)):=by
   show (sO n p k).set (p.getD k 0).toNat _=_
   rw[aW,bj ab];rfl
  refine da 0 rfl (nq rfl _ hx.1 (by omega)) ?_
  exact bg (k+1) (by show p.length-(k+1)<p.length-k;omega) ab ⟨rfl,rfl,rfl,rfl,a8 (by omega),trivial⟩ (aN (by rw[hv,← j5];rfl))
 ·have aq:k=p.length:=by omega
  subst aq
  refine .cX 0 bo 0 n 1 _ (.int .i64) (zG n p) rfl (by rw[iP,fe (by rw[nj,Al,er];exact aR _),hlen];exact xa _) ⟨Al n p n,rfl,by decide⟩ (cg .here (.refl _)) (.done ⟨rfl,rfl,hA⟩)
set_option maxHeartbeats 4000000
theorem QP:∀{Q:List (List Int)},(∀p∈Q,0<p.length)→Q.length≤Q.flatten.length
 | [],_=>aR _
 |p::Q,h=>by
  have ih:=QP (Q:=Q) fun q hq=>h q (cQ _ hq)
  have:=h p (bU ..)
  rw[Cg,bV,gq]
  omega
set_option maxHeartbeats 4000000
theorem j8.rk{n:Nat}{p:List Int}(h:j8 n p)(hn:n≤1000):ud n (zG n p):=by
 have hl:=h.len
 have key:∀i:Nat,i<n→∃j:Nat,p[j]?=some (i:Int)∧j<n∧(zG n p).getD i 0=(n:Int)-1-(j:Int):=fun i hi=>by
  obtain⟨j,hj⟩:=FQ (h.all i ⟨by omega,by omega⟩)
  have ij:=(ck.1 hj).1
  have:=afA h hj
  rw[bO]at this
  exact⟨j,hj,by omega,this⟩
 refine⟨Al n p n,fun i hi=>?_,fun i j hi hj e=>?_⟩
 ·obtain⟨k,_,hk,e⟩:=key i hi
  omega
 ·obtain⟨k,h1,_,e1⟩:=key i hi
  obtain⟨m,h2,_,e2⟩:=key j hj
  have:k=m:=by omega
  subst this
  rw[h1]at h2
  have:=Option.some.inj h2
  omega
def y9(n:Nat)(p:List Int):List (ni n):=p.filterMap fun x=>if h:0≤x∧x<(n:Int) then some ⟨x,h⟩ else none
theorem Gw{n:Nat}:∀{p:List Int},(∀x∈p,0≤x∧x<(n:Int))→jv (y9 n p)=p
 | [],_=>rfl
 |x::p,h=>by
  have hx:=h x (bU ..)
  have ih:=Gw (p:=p) fun y hy=>h y (cQ _ hy)
  unfold y9 at ih ⊢
  rw[List.filterMap_cons,dif_pos hx]
  show x::jv _=_
  rw[ih]
def fp(n:Nat)(rk:List Int)(p:List Int):List Int:=jv (vm rk (y9 n p))
theorem Rn{n:Nat}{rk p:List Int}(h:∀x∈p,0≤x∧x<(n:Int)):(fp n rk p).Perm p:=by
 have h1:(jv (vm rk (y9 n p))).Perm (jv (y9 n p)):=List.Perm.map _ (List.mergeSort_perm _ _)
 rw[Gw h]at h1
 exact h1
theorem XX{n:Nat}{rk p:List Int}(h:∀x∈p,0≤x∧x<(n:Int)):(fp n rk p).length=p.length:=(Rn h).length_eq
def oM(n:Nat)(l:List bA)(fr:List Int):List Int:=(kb n l).flatMap (fp n (zG n (qv n l fr)))
def qL(n:Nat)(rk:List Int)(rw:List (Nat×List Int))(k:Nat):List (Nat×List Int):=(rw.take k).map (fun r=>(r.1,fp n rk r.2))++rw.drop k
theorem acY(n:Nat)(rk:List Int)(b bk:Nat)(p:List Int)(σ:Hp)(hr:ud n rk)(hp:∀x∈p,0≤x∧x<(n:Int))(h0:0<p.length)(hl:p.length≤1000000):ACalls Tryz.prog 259 [.af b 0 p.length 1,.fn (.func 260) [] [.ptr bk 0]] ((b,ao p)::(bk,[.ae (.int .i64) rk])::σ) (aB (.tup []) ((b,ao (fp n rk p))::(bk,[.ae (.int .i64) rk])::σ)):=by
 obtain⟨x,hx⟩:∃x,x∈p:=by
  match p,h0 with
  |x::_,_=>exact⟨x,bU ..⟩
 haveI:Inhabited (ni n):=⟨⟨x,hp x hx⟩⟩
 have e:(y9 n p).length=p.length:=by
  have:=congrArg List.length (Gw hp)
  rw[Cx]at this
  exact this
 have h:=aaY n rk b bk (y9 n p) p.length σ hr e h0 hl
 rw[Gw hp]at h
 exact h
theorem afw{n:Nat}{rk:List Int}{rw:List (Nat×List Int)}{k b:Nat}{p:List Int}(h:rw[k]?=some (b,p)):(qL n rk rw k)[k]?=some (b,p)∧(qL n rk rw (k+1))[k]?=some (b,fp n rk p):=by
 have hk:=(ck.1 h).1
 have hg:rw[k]=(b,p):=(ck.1 h).2
 have hl:((rw.take k).map (fun r=>(r.1,fp n rk r.2))).length=k:=by rw[cj,qb];omega
 refine⟨?_,?_⟩
 ·unfold qL
  rw[iQ (by omega),hl,qY,zX,wE]
  exact h
 ·unfold qL
  rw[fw hk,dr,hg,dQ,iQ (by omega),hl,qY]
  rfl
theorem ZT{n:Nat}{rk:List Int}{rw:List (Nat×List Int)}{k b:Nat}{p:List Int}(h:rw[k]?=some (b,p)):qL n rk rw k=(rw.take k).map (fun r=>(r.1,fp n rk r.2))++(b,p)::rw.drop (k+1)∧qL n rk rw (k+1)=(rw.take k).map (fun r=>(r.1,fp n rk r.2))++(b,fp n rk p)::rw.drop (k+1):=by
 have hk:=(ck.1 h).1
 have hg:rw[k]=(b,p):=(ck.1 h).2
 refine⟨?_,?_⟩
 ·unfold qL
  rw[Kc hk,hg]
 ·unfold qL
  rw[fw hk,dr,hg,dQ]
  rfl
theorem Sz(A B:List (Nat×List Int))(b:Nat)(p:List Int)(x:Nat×List AV)(X σ:Hp):((b,ao p)::x::(X++(eP A++(eP B++σ)))).Perm (x::(X++(eP (A++(b,p)::B)++σ))):=by
 have e:eP (A++(b,p)::B)++σ=eP A++((b,ao p)::(eP B++σ)):=by
  unfold eP
  rw[dr,dQ];rfl
 rw[e]
 refine (List.Perm.swap _ _ _).trans (List.Perm.cons _ ?_)
 exact (nX.symm).trans (List.Perm.append_left X nX.symm)
theorem j8.perm{n:Nat}{p q:List Int}(h:j8 n p)(hp:q.Perm p):j8 n q:=⟨hp.nodup_iff.2 h.nd,fun x hx=>h.rg x (hp.mem_iff.1 hx),fun x hx=>hp.mem_iff.2 (h.all x hx)⟩
theorem RR{n:Nat}{rk:List Int}:∀{Q:List (List Int)},(∀p∈Q,∀x∈p,0≤x∧x<(n:Int))→(Q.flatMap (fp n rk)).Perm Q.flatten
 | [],_=>List.Perm.nil
 |p::Q,h=>by
  rw[yh,Cg]
  exact (Rn (h p (bU ..))).append (RR fun q hq=>h q (cQ _ hq))
theorem oO.flat{n:Nat}{l:List bA}{P Q:List (List Int)}(h:oO n l P)(hp:Q.Perm P):(∀p∈Q,p≠[])∧(∀p∈Q,∀x∈p,0≤x∧x<(n:Int))∧j8 n Q.flatten:=by
 have hn:∀p∈Q,∀x∈p,0≤x∧x<(n:Int):=fun p hq=>h.ok.node p (hp.mem_iff.1 hq)
 refine⟨fun p hq=>h.ok.ne p (hp.mem_iff.1 hq),hn,(hp.flatten).nodup_iff.2 h.ok.nd,fun x hx=>?_,fun x hx=>?_⟩
 ·obtain⟨p,hq,rZ⟩:=nf.1 hx
  exact hn p hq x rZ
 ·obtain⟨p,hq,rZ⟩:=h.all x hx.1 hx.2
  exact nf.2 ⟨p,hp.mem_iff.2 hq,rZ⟩
theorem QQ:∀{Q:List (List Int)},(∀p∈Q,p≠[])→Q.length≤Q.flatten.length
 | [],_=>aR _
 |p::Q,h=>by
  have ih:=QQ (Q:=Q) fun q hq=>h q (cQ _ hq)
  have:=mB.2 (h p (bU ..))
  rw[Cg,bV,gq]
  omega
theorem af7(n:Nat)(l:List bA)(fr:List Int)(σ:Hp)(hl:l.length≤100000)(hf:fr.length≤100000)(dU:ey n l=true)(nR:∀x∈fr,0≤x∧x<(n:Int)):ACalls Tryz.prog 215 [.int .i64 n,.ae dC l,.ae (.int .i64) fr] σ (fun r σ'=>∃bo,r=.tup [.af bo 0 (oM n l fr).length 1,.int .i64 0]∧σ'=(bo,ao (oM n l fr))::σ∧j8 n (oM n l fr)∧(∀p∈kb n l,p≠[])∧j8 n (kb n l).flatten∧j8 n (qv n l fr)):=by
 have hn:1≤n∧n≤256:=by
  unfold ey at dU
  simp only[bL,decide_eq_true_eq]at dU
  omega
 refine au Tryz.func215 ?_
 refine .mk [] _ (agq n l fr _ hl hf dU nR) ?_
 rintro _ τ ⟨rfl,Oh,hA⟩
 subst τ
 have hR:=hA.rk (by omega)
 intro b8
 refine aj 0 ?_
 refine .mk [] _ (af1 n l _ hl dU) ?_
 rintro _ _ ⟨bo,eO,rfl,mU,rfl,P,cD,E8⟩
 obtain⟨aQ,qx,gL⟩:=cD.flat E8
 have Fw:j8 n (oM n l fr):=gL.perm (RR qx)
 unfold oM at Fw ⊢
 generalize zG n (qv n l fr)=rk at hR Fw
 generalize kb n l=Q at mU aQ qx Fw gL
 have hQl:eO.length=Q.length:=by rw[← mU,cj]
 have hlen:=Fw.len
 have ahX:∀p∈Q,p.length≤n:=fun p hp=>by
  have h1:p.Sublist Q.flatten:=List.sublist_flatten_of_mem hp
  have:=h1.length_le
  have:=gL.len
  omega
 have Wd:eO.length≤n:=by
  have:=QQ aQ
  have:=gL.len
  omega
 have h0:qL n rk eO 0=eO:=by simp[qL]
 have hH:((b8,[AV.ae (.int .i64) rk])::(bo,fj eO)::(eP eO++([]++σ))).Perm ((bo,fj eO)::(eP eO++((b8,[AV.ae (.int .i64) rk])::σ))):=
  (List.Perm.swap _ _ _).trans (List.Perm.cons _ nX.symm)
 refine .wrap 11 .ai rfl rfl ?_
 refine .dN (.perm hH (.refl _)) ?_
 refine cc (S:=Nat×AV×Hp) (fun x=>[(8,.ptr b8 0),(9,.int .i64 0),(11,.via x.2.1),(30,.af bo 0 eO.length 1),(31,.int .i64 eO.length),(32,.int .i64 x.1)]) (fun x=>(b8,[.ae (.int .i64) rk])::(bo,fj eO)::(eP (qL n rk eO x.1)++(x.2.2++σ))) (fun x=>x.1≤eO.length∧Acc 1 ((Q.take x.1).flatMap (fp n rk)).length x.2.1 x.2.2 (ao ((Q.take x.1).flatMap (fp n rk)))) (fun x=>eO.length-x.1) (0,.ai,[]) ⟨⟨bE _,.nil⟩,⟨rfl,rfl,rfl,rfl,rfl,rfl,trivial⟩,by rw[h0]⟩ ?_
 rintro⟨k,v,acc⟩ g ⟨hk,cH⟩
 have hk:k≤eO.length:=hk
 have cH:Acc 1 ((Q.take k).flatMap (fp n rk)).length v acc (ao ((Q.take k).flatMap (fp n rk))):=cH
 refine ak (p:=(k:Int)<eO.length) (fun ab=>?_) (fun aq=>?_)
 ·have ab:k<eO.length:=by omega
  obtain⟨p,hp⟩:∃p,Q[k]?=some p:=⟨Q[k]'(by omega),bj (by omega)⟩
  obtain⟨bk,x4⟩:=DS mU hp
  have gn:=cu hp
  have Jq:=qx p gn
  have uk:=mB.2 (aQ p gn)
  have sW:=ahX p gn
  have cY:=XX (rk:=rk) Jq
  obtain⟨s1,s2⟩:=ZT (n:=n) (rk:=rk) x4
  have fQ:Q.take (k+1)=Q.take k++[p]:=by
   rw[fw (by omega)]
   rw[bj (by omega)]at hp
   rw[Option.some.inj hp]
  have nQ:((Q.take k).flatMap (fp n rk)).length+p.length≤n:=by
   have e:Q.flatMap (fp n rk)=(Q.take (k+1)).flatMap (fp n rk)++(Q.drop (k+1)).flatMap (fp n rk):=by rw[← yj,zZ]
   have:=congrArg List.length e
   rw[fQ,List.flatMap_append,List.length_append,List.length_append,show [p].flatMap (fp n rk)=fp n rk p by simp]at this
   omega
  refine aK ?_
  refine aZ 1 rfl (DK rfl (by omega) (by rw[bO];exact x4)) ?_
  rw[s1]
  refine .perm _ (Sz _ _ bk p (b8,[.ae (.int .i64) rk]) [(bo,fj eO)] (acc++σ)) (acY n rk bk b8 p _ hR Jq uk (by omega)) ?_
  rintro _ _ ⟨rfl,rfl⟩
  refine⟨_,(Sz _ _ bk (fp n rk p) (b8,[.ae (.int .i64) rk]) [(bo,fj eO)] (acc++σ)).symm,?_⟩
  rw[← s2]
  have dV:=(afw (n:=n) (rk:=rk) x4).2
  refine l8 (_::_::eP (qL n rk eO (k+1))) cH (.af (k+2) bk 0 p.length (ao (fp n rk p)) (HE dV) (by rw[nj,cY];show 0+p.length*1≤_;omega)) ?_ (by omega) (by decide) (by decide) (fun v' bQ h'=>?_)
  ·show (List.take (p.length*1) (List.drop 0 (ao (fp n rk p)))).length=p.length*1
   rw[qb,List.length_drop,nj,cY];omega
  ·refine bg (k+1,v',bQ) (by show eO.length-(k+1)<eO.length-k;omega) ⟨ab,?_⟩ ⟨rfl,rfl,rfl,rfl,rfl,a8 (by omega),trivial⟩ (.refl _)
   have e:List.take (p.length*1) (List.drop 0 (ao (fp n rk p)))=ao (fp n rk p):=by rw[iP,fe (by rw[nj,cY];omega)]
   have h2:Acc 1 (((Q.take k).flatMap (fp n rk)).length+p.length) v' bQ (ao ((Q.take k).flatMap (fp n rk))++List.take (p.length*1) (List.drop 0 (ao (fp n rk p)))):=h'
   rw[e,← cY,← bV,show ao ((Q.take k).flatMap (fp n rk))++ao (fp n rk p)=ao ((Q.take k).flatMap (fp n rk)++fp n rk p) by unfold ao;rw[dr]]at h2
   show Acc 1 ((Q.take (k+1)).flatMap (fp n rk)).length v' bQ (ao ((Q.take (k+1)).flatMap (fp n rk)))
   rw[fQ,List.flatMap_append,show [p].flatMap (fp n rk)=fp n rk p by simp]
   exact h2
 ·have aq:¬(k:Int)<eO.length:=aq
  rw[fe (by omega)]at cH
  obtain⟨b,rfl,rfl⟩:=tB (by omega) cH
  exact .drop 0 2 (Zd (eP (qL n rk eO k)) (.done ⟨b,rfl,rfl,Fw,aQ,gL,hA⟩))
end Go.Proofs.YtnikdflhefijbaaGreat
