import Derived.Test.YtnikdflhefijbaaGreatBn17
import Derived.Shelf.SlSortCmp.NoneTotal
import Derived.Test.YtnikdflhefijbaaGreatBn6
import Derived.Test.YtnikdflhefijbaaGreatBn11
import Derived.Test.YtnikdflhefijbaaGreatBn16
import Derived.Test.YtnikdflhefijbaaGreatBn10
namespace Go.Proofs.YtnikdflhefijbaaGreat
open Go.RowKit
set_option maxRecDepth 100000
set_option maxHeartbeats 4000000
theorem C6{P:List (List Int)}{rw:List (Nat×List Int)}{i:Nat}{p:List Int}(h:rw.map Prod.snd=P)(hp:P[i]?=some p):∃b,rw[i]?=some (b,p):=by
 rw[← h,fo]at hp
 cases hr:rw[i]? with
 |none=>rw[hr]at hp;cases hp
 |some r=>rw[hr]at hp;cases hp;exact⟨r.1,rfl⟩
theorem CX{i:TI}(hw:i.wide=false){rw:List (Nat×List Int)}{z:Int}{b:Nat}{p:List Int}(_hz:0≤z)(h:rw[z.toNat]?=some (b,p)):ey i (fh rw) (0+z.toNat*1)=some (.ae b 0 p.length 1):=
 jc hw (by rw[ef,dO];unfold fh;rw[fo,h];rfl)
theorem G5{rw:List (Nat×List Int)}{i b:Nat}{p:List Int}{σ:Hp}(h:rw[i]?=some (b,p)):(eP rw++σ)[i]?=some (b,an p):=by
 have hi:i<(eP rw).length:=by unfold eP;rw[cm];exact (cg.1 h).1
 rw[jY hi]
 unfold eP
 rw[fo,h];rfl
theorem QU{p:List Int}{x:Int}(h:p[((0:Int)).toNat]?=some x):p.getD ((0:Int)).toNat 0=x:=by rw[bg,h];rfl
theorem PG:∀{ro:List (Nat×List Int)},(ro.map Prod.snd).flatten.Nodup→(∀r∈ro,r.2≠[])→ro.Nodup
 | [],_,_=>Ow
 |r::ro,h,aS=>by
  have h:(r.2++(ro.map Prod.snd).flatten).Nodup:=h
  have h:=oU.1 h
  refine mr.2 ⟨fun hm=>?_,PG h.2.1 fun q hq=>aS q (cW _ hq)⟩
  obtain⟨x,hx⟩:=List.exists_mem_of_ne_nil _ (aS r (ck ..))
  exact h.2.2 x hx x (oT.2 ⟨r.2,dP.2 ⟨r,hm,rfl⟩,hx⟩) rfl
theorem Pe{α:Type}[DecidableEq α]:∀{A B:List α},A.Nodup→(∀x∈A,x∈B)→B.length≤A.length→A.Perm B
 | [],B,_,_,h=>by rw[jv.1 (Nat.le_zero.1 h)]
 |a::A,B,hn,hs,hl=>by
  have hn:=mr.1 hn
  have ha:=hs a (ck ..)
  have hp:=List.perm_cons_erase ha
  have hle:=hp.length_eq
  refine (List.Perm.cons a (Pe hn.2 (fun x hx=>?_) ?_)).trans hp.symm
  ·exact (Oi (fun e:x=a=>hn.1 (e▸hx))).2 (hs x (cW _ hx))
  ·rw[iy]at hle hl;omega
theorem ZD(n:Nat)(l:List bE)(P:List (List Int))(rw:List (Nat×List Int))(bq:Nat)(σ:Hp)(h:oI n l P)(mN:rw.map Prod.snd=P)(tQ:0<P.length)(hl:l.length≤100000)(hn:n≤1000)(hr:∀e∈l,(0≤e.1∧e.1<(n:Int))∧0≤e.2.1∧e.2.1<(n:Int)):
  ACalls Tryz.prog 291 [.int .i64 n,.af dB l,.ae bq 0 P.length 1] ((bq,fh rw)::(eP rw++σ)) (fun r σ'=>∃bo eO,r=.ae bo 0 eO.length 1∧eO.map Prod.snd=kl n l∧σ'=(bo,fh eO)::(eP eO++σ)∧(kl n l).Perm P):=by
 have vF:rw.length=P.length:=by rw[← mN,cm]
 obtain⟨sy,hpf⟩:=B8 h.ok
 have hNt:((n:Nat):Int).toNat=n:=bM n
 refine az Tryz.func291 ?_
 intro bl
 refine aZ ?_
 intro bw
 intro bW
 refine ai 0 ?_
 refine cc (S:=Nat) (fun k=>[(2,.ae bq 0 P.length 1),(4,.ptr bl 0),(7,.ptr bW 0),(20,.ae bq 0 P.length 1),(21,.int .i64 P.length),(22,.int .i64 k)]) (fun k=>(bW,[.ae bw 0 n 1])::(bw,an (mK P k (List.replicate n 0)))::(bl,[.af dB l])::(bq,fh rw)::(eP rw++σ)) (fun k=>k≤P.length) (fun k=>P.length-k) 0 ⟨bD _,⟨rfl,rfl,rfl,rfl,rfl,rfl,trivial⟩,by rw[show an (mK P 0 (List.replicate n 0))=cM [.int .i64 0] n from (x9 n).symm];rfl⟩ ?_
 intro k g aP
 have hk:k≤P.length:=aP
 clear aP
 refine aq (p:=(k:Int)<P.length) (fun ab=>?_) (fun au=>?_)
 ·have ab:k<P.length:=by omega
  obtain⟨p,hp⟩:∃p,P[k]=p:=⟨_,rfl⟩
  have eV:P[k]?=some p:=(bF ab).trans (congrArg some hp)
  have sx:=h.ok.node p (cq eV)
  have afT:p.length≤n:=Ca n p ((h.ok.A7 p (cq eV)).imp fun h=>by omega) sx
  have rE:=BU P k (List.replicate n 0)
  rw[fZ]at rE
  have sq:mK P (k+1) (List.replicate n 0)=lp k p (mK P k (List.replicate n 0)):=by show lp k (P.getD k []) _=_;rw[uv eV]
  generalize mK P k (List.replicate n 0)=W at rE sq
  obtain⟨bk,pI⟩:=C6 mN eV
  refine aM ?_
  refine aT 3 rfl (CX rfl (by omega) (by rw[bM];exact pI)) ?_
  refine cc (S:=Nat) (fun j=>[(2,.ae bq 0 P.length 1),(4,.ptr bl 0),(7,.ptr bW 0),(8,.int .i64 k),(20,.ae bq 0 P.length 1),(21,.int .i64 P.length),(22,.int .i64 k),(27,.ae bk 0 p.length 1),(28,.int .i64 p.length),(29,.int .i64 j)]) (fun j=>(bW,[.ae bw 0 n 1])::(bw,an (lp k (p.take j) W))::(bl,[.af dB l])::(bq,fh rw)::(eP rw++σ)) (fun j=>j≤p.length) (fun j=>p.length-j) 0 ⟨bD _,⟨rfl,rfl,rfl,rfl,rfl,rfl,rfl,rfl,rfl,rfl,trivial⟩,rfl⟩ ?_
  intro j g2 xw
  have hj:j≤p.length:=xw
  clear xw
  refine aq (p:=(j:Int)<p.length) (fun dy=>?_) (fun ji=>?_)
  ·have dy:j<p.length:=by omega
   obtain⟨a,ha⟩:∃a,p[j]=a:=⟨_,rfl⟩
   have sD:=sx a (ha▸cj dy)
   have ao:(lp k (p.take j) W).set a.toNat k=lp k (p.take (j+1)) W:=by unfold lp;rw[fL dy,ha,tV];rfl
   have vC:=Fz k (p.take j) W
   refine aM ?_
   refine fE.mk (k+4) _ _ (G5 pI) (e9 rfl (by omega) (by omega)) ?_
   rw[bM,show p.getD j 0=a by rw[bg,bF dy,ha];rfl]
   refine aa 0 ?_
   refine aM ?_
   refine da 1 rfl (nk rfl _ sD.1 (by omega)) ?_
   exact bj (j+1) (by show p.length-(j+1)<p.length-j;omega) dy ⟨rfl,rfl,rfl,rfl,rfl,rfl,rfl,rfl,rfl,aY (by omega),trivial⟩ (aJ (by rw[← ao];rfl))
  ·have ji:j=p.length:=by omega
   subst ji
   exact bj (k+1) (by show P.length-(k+1)<P.length-k;omega) ab ⟨rfl,rfl,rfl,rfl,rfl,aY (by omega),trivial⟩ (aJ (by rw[gn,sq]))
 ·have au:k=P.length:=by omega
  subst au
  have NV:∀j:Nat,j<n→0≤(bC n P).getD j 0∧(bC n P).getD j 0<(P.length:Int):=fun j hj=>by
   obtain⟨i,p,hi,_,hw⟩:=h.idx (x:=(j:Int)) (by omega)
   rw[bM]at hw
   have:=xZ hi
   rw[hw];omega
  have rE:=Pu n P
  have DM:=fun k hk=>(GH h hr k hk)
  have xf:=LD h hr
  have aS:∀(i:Nat) (p:List Int),P[i]?=some p→p[((0:Int)).toNat]?=some (iC P i):=fun i p hi=>by
   unfold iC
   rw[uv hi]
   exact S7 (mW.2 (h.ok.ne p (cq hi)))
  rw[show mK P P.length (List.replicate n 0)=bC n P from rfl]
  refine aI.mk ⟨by omega,by omega,by show ((P.length:Nat):Int)≤1048576;omega,by decide⟩ ?_
  intro bt
  intro bT
  refine ai 0 ?_
  obtain⟨m,hm⟩:∃m,P.length=m:=⟨_,rfl⟩
  refine .wrap 14 _ rfl rfl ?_
  refine .dI (.pull [0,2,3,3] (.refl _)) ?_
  refine cc (S:=Nat×(AV×Hp)×List (Nat×List Int)) (fun x=>[(2,.ae bq 0 P.length 1),(12,.ptr bT 0),(13,.fn (.func 316) [] [.ptr bT 0,.ptr bl 0,.ptr bW 0]),(14,.via x.2.1.1),(44,.int .i64 P.length),(45,.int .i64 x.1)]) (fun x=>(bT,[.ae bt 0 P.length 1])::(bW,[.ae bw 0 n 1])::(bw,an (bC n P))::(bt,bN (dD P l (bC n P) x.1).1)::(bl,[.af dB l])::(bq,fh rw)::(eP rw++(x.2.1.2++σ))) (fun x=>x.1≤P.length∧Acc 1 x.1 x.2.1.1 x.2.1.2 (fh x.2.2)∧x.2.2.map Prod.snd=(dD P l (bC n P) x.1).2∧∀r∈x.2.2,r∈rw) (fun x=>P.length-x.1) (0,(.aj,[]),[]) ⟨⟨Nat.zero_le _,.nil,rfl,fun r hr=>absurd hr (by simp)⟩,⟨rfl,rfl,rfl,rfl,rfl,rfl,trivial⟩,by rw[show bN (dD P l (bC n P) 0).1=cM [.bool false] P.length from (CC P.length).symm];rfl⟩ ?_
  rintro⟨k,⟨v,acc⟩,ro⟩ g2 ⟨aP,gT,Vp,UR⟩
  have hk:k≤P.length:=aP
  have b9:Acc 1 k v acc (fh ro):=gT
  have mM:ro.map Prod.snd=(dD P l (bC n P) k).2:=Vp
  have mb:∀r∈ro,r∈rw:=UR
  clear aP gT Vp UR
  refine aq (p:=(k:Int)<P.length) (fun ab=>?_) (fun au=>?_)
  ·have ab:k<P.length:=by omega
   obtain⟨hO,yD,_⟩:=DM k hk
   obtain⟨b,hb,oQ⟩:=yD ab
   have EG:=hO.tl
   have fv:(dD P l (bC n P) (k+1)).1=(dD P l (bC n P) k).1.set b true:=by
    show (dD P l (bC n P) k).1.set (fj P l (bC n P) (dD P l (bC n P) k).1 P.length).toNat true=_
    rw[hb,bM]
   have hG:(dD P l (bC n P) (k+1)).2=(dD P l (bC n P) k).2++[P.getD b []]:=by
    show (dD P l (bC n P) k).2++[P.getD (fj P l (bC n P) (dD P l (bC n P) k).1 P.length).toNat []]=_
    rw[hb,bM]
   generalize (dD P l (bC n P) k).1=T at hb EG fv
   rw[← mM]at hG
   clear hO yD
   have MN:=FK P l (bC n P) T
   refine cc (S:=Nat) (fun i=>[(2,.ae bq 0 P.length 1),(12,.ptr bT 0),(13,.fn (.func 316) [] [.ptr bT 0,.ptr bl 0,.ptr bW 0]),(14,.via v),(15,.int .i64 (fj P l (bC n P) T i)),(44,.int .i64 P.length),(45,.int .i64 k),(47,.ae bq 0 P.length 1),(48,.int .i64 P.length),(49,.int .i64 i)]) (fun _=>(bT,[.ae bt 0 P.length 1])::(bW,[.ae bw 0 n 1])::(bw,an (bC n P))::(bt,bN T)::(bl,[.af dB l])::(bq,fh rw)::(eP rw++(acc++σ))) (fun i=>i≤P.length) (fun i=>P.length-i) 0 ⟨bD _,⟨rfl,rfl,rfl,rfl,rfl,rfl,rfl,rfl,rfl,rfl,trivial⟩,rfl⟩ ?_
   intro i g3 gk
   have hi:i≤P.length:=gk
   clear gk
   refine aq (p:=(i:Int)<P.length) (fun dy=>?_) (fun ji=>?_)
   ·have dy:i<P.length:=by omega
    obtain⟨p,hp⟩:∃p,P[i]=p:=⟨_,rfl⟩
    have eV:P[i]?=some p:=(bF dy).trans (congrArg some hp)
    have vN:=fun ρ=>Va bW bw bl bT bt n P.length l (bC n P) T i ρ hl (by omega) hr rE EG NV
    have eE:fj P l (bC n P) T (i+1)=if nr l (bC n P) T i=true∧(fj P l (bC n P) T i<0∨iC P i<iC P (fj P l (bC n P) T i).toNat) then (i:Int) else fj P l (bC n P) T i:=rfl
    have EE:=MN i
    obtain⟨bi,hbi⟩:=C6 mN eV
    have tI:0<p.length:=mW.2 (h.ok.ne p (cq eV))
    refine aM ?_
    refine aT 5 rfl (CX rfl (by omega) (by rw[bM];exact hbi)) ?_
    cases hf:nr l (bC n P) T i with
    |false=>
     rw[hf]at vN eE
     rw[ag (fun h=>by cases h.1)]at eE
     refine .quiet (by kernel_rfl) ?_
     refine aL [] (vN _) ?_
     exact bj (i+1) (by show P.length-(i+1)<P.length-i;omega) dy ⟨rfl,rfl,rfl,rfl,by rw[eE];rfl,rfl,rfl,rfl,rfl,aY (by omega),trivial⟩ (.refl _)
    |true=>
     rw[hf]at vN eE
     refine .quiet (by kernel_rfl) ?_
     refine aL [] (vN _) ?_
     refine aq (p:=fj P l (bC n P) T i<0) (fun c1=>?_) (fun c1=>?_)
     ·rw[ah ⟨rfl,.inl c1⟩]at eE
      exact bj (i+1) (by show P.length-(i+1)<P.length-i;omega) dy ⟨rfl,rfl,rfl,rfl,by rw[eE];rfl,rfl,rfl,rfl,rfl,aY (by omega),trivial⟩ (.refl _)
     ·obtain⟨b2,e2,l2,_⟩:=EE.resolve_left fun h=>c1 (by rw[h.1];decide)
      obtain⟨p2,dA⟩:∃p,P[b2]?=some p:=⟨P[b2],bF (by omega)⟩
      have Vt:P[(fj P l (bC n P) T i).toNat]?=some p2:=by rw[e2,bM];exact dA
      have IX:0≤fj P l (bC n P) T i:=by omega
      rw[e2,bM,← e2]at eE
      obtain⟨bb,sC⟩:=C6 mN dA
      have hp20:0<p2.length:=mW.2 (h.ok.ne p2 (cq dA))
      refine aI.mk ⟨rfl,by decide,by omega⟩ ?_
      refine fE.mk (i+6) _ _ (G5 hbi) (e9 rfl (by decide) (by omega)) ?_
      refine aM ?_
      refine aT 5 rfl (CX rfl (by omega) (by rw[e2,bM];exact sC)) ?_
      refine aI.mk ⟨rfl,by decide,by omega⟩ ?_
      refine fE.mk (b2+6) _ _ (G5 sC) (e9 rfl (by decide) (by omega)) ?_
      rw[show p.getD (0:Int).toNat 0=iC P i from QU (aS i p eV),show p2.getD (0:Int).toNat 0=iC P b2 from QU (aS b2 p2 dA)]
      refine aq (p:=iC P i<iC P b2) (fun c2=>?_) (fun c2=>?_)
      ·rw[ah ⟨rfl,.inr c2⟩]at eE
       exact bj (i+1) (by show P.length-(i+1)<P.length-i;omega) dy ⟨rfl,rfl,rfl,rfl,by rw[eE];rfl,rfl,rfl,rfl,rfl,aY (by omega),trivial⟩ (.refl _)
      ·rw[ag (fun h=>h.2.elim c1 c2)]at eE
       exact bj (i+1) (by show P.length-(i+1)<P.length-i;omega) dy ⟨rfl,rfl,rfl,rfl,by rw[eE];rfl,rfl,rfl,rfl,rfl,aY (by omega),trivial⟩ (.refl _)
   ·have ji:i=P.length:=by omega
    subst ji
    refine aa 0 ?_
    refine aM ?_
    refine da 3 rfl (x7 rfl true (by omega) (by omega)) ?_
    obtain⟨pb,qy⟩:∃p,P[b]?=some p:=⟨P[b],bF oQ⟩
    obtain⟨bb,sC⟩:=C6 mN qy
    rw[uv qy]at hG
    refine aM ?_
    refine aT 5 rfl (CX rfl (by omega) (by rw[hb,bM];exact sC)) ?_
    intro bs
    refine ic (_::_::_::_::_::_::_::eP rw) b9 (.ae 0 bs 0 1 _ rfl (cD rfl)) rfl (by omega) (by decide) (by decide) (fun v' aU h'=>?_)
    refine bj (k+1,(v',aU),ro++[(bb,pb)]) (by show P.length-(k+1)<P.length-k;omega) ⟨ab,?_,?_,fun r hr=>?_⟩ ⟨rfl,rfl,rfl,rfl,rfl,aY (by omega),trivial⟩ (.drop 0 1 (aJ (by rw[fv,hb,bM];rfl)))
    ·show Acc 1 (k+1) v' aU (fh (ro++[(bb,pb)]))
     rw[show fh (ro++[(bb,pb)])=fh ro++[.ae bb 0 pb.length 1] from cO];exact h'
    ·show (ro++[(bb,pb)]).map Prod.snd=(dD P l (bC n P) (k+1)).2
     rw[hG,cO];rfl
    ·rcases bV.1 hr with hr | hr
     ·exact mb r hr
     ·rw[bB.1 hr];exact cq sC
  ·have au:k=P.length:=by omega
   subst au
   have hOI:=(DM P.length (a8 _)).1
   have nO:=hOI.ol
   have ca:=hOI.nd
   rw[← mM]at nO ca
   rw[xf]at mM
   rw[cm]at nO
   have afW:∀r∈ro,r.2≠[]:=fun r hr=>h.ok.ne r.2 (by rw[← mN];exact dP.2 ⟨r,mb r hr,rfl⟩)
   have af2:ro.Nodup:=PG ca afW
   have ob:ro.Perm rw:=Pe af2 mb (by omega)
   obtain⟨bo,rfl,rfl⟩:=sU (by omega) b9
   have hH:((bo,fh ro)::(eP ro++σ)).Perm (eP rw++([(bo,fh ro)]++σ)):=by
    refine (List.Perm.cons _ (List.Perm.append_right σ (List.Perm.map _ ob))).trans nS.symm
   exact .drop 0 6 (.perm hH (.done ⟨bo,ro,by rw[nO];rfl,mM,rfl,by rw[← mM,← mN];exact List.Perm.map _ ob⟩))
set_option maxHeartbeats 4000000
theorem ad9(n:Nat)(l:List bE)(σ:Hp)(hl:l.length≤100000)(dT:fq n l=true):ACalls Tryz.prog 258 [.int .i64 n,.af dB l] σ (fun r σ'=>∃bo eO,r=.tup [.ae bo 0 eO.length 1,.int .i64 0]∧eO.map Prod.snd=kl n l∧σ'=(bo,fh eO)::(eP eO++σ)∧∃P,oI n l P∧(kl n l).Perm P):=by
 have hn:1≤n∧n≤256:=by
  unfold fq at dT
  simp only[bR,decide_eq_true_eq]at dT
  omega
 have Bo:∀e∈l,(0≤e.1∧e.1<(n:Int))∧0≤e.2.1∧e.2.1<(n:Int):=fun e he=>by
  unfold fq at dT
  simp only[bR,fy]at dT
  have:=dT.2 e he
  exact⟨kP.1 this.1,kP.1 this.2⟩
 refine az Tryz.func258 ?_
 refine eK [] (C2 n l _ (by omega)) (fun _=>?_) (fun c=>absurd c (by rw[dT];decide))
 refine gz.Hz (S:=Nat×Nat×Nat×Nat) [] (.one 0 false (.one 2 false (.one 4 false (.alt 1 (.alt 3 (.alt 5 (.one 6 false (.one 7 false (.one 8 false .stop))) (.one 7 false (.one 5 false (.one 6 false (.one 8 false .stop))))) (.alt 5 (.alt 3 (.one 6 false (.one 7 false (.one 8 false .stop))) (.one 7 false (.one 3 false (.one 6 false (.one 8 false .stop))))) (.one 7 false (.alt 3 (.one 5 false (.one 6 false (.one 8 false .stop))) (.one 5 false (.one 3 false (.one 6 false (.one 8 false .stop)))))))) (.alt 3 (.alt 1 (.alt 5 (.one 6 false (.one 7 false (.one 8 false .stop))) (.one 7 false (.one 5 false (.one 6 false (.one 8 false .stop))))) (.alt 5 (.alt 1 (.one 6 false (.one 7 false (.one 8 false .stop))) (.one 7 false (.one 1 false (.one 6 false (.one 8 false .stop))))) (.one 7 false (.alt 1 (.one 5 false (.one 6 false (.one 8 false .stop))) (.one 5 false (.one 1 false (.one 6 false (.one 8 false .stop)))))))) (.alt 5 (.alt 1 (.alt 3 (.one 6 false (.one 7 false (.one 8 false .stop))) (.one 7 false (.one 3 false (.one 6 false (.one 8 false .stop))))) (.alt 3 (.alt 1 (.one 6 false (.one 7 false (.one 8 false .stop))) (.one 7 false (.one 1 false (.one 6 false (.one 8 false .stop))))) (.one 7 false (.alt 1 (.one 3 false (.one 6 false (.one 8 false .stop))) (.one 3 false (.one 1 false (.one 6 false (.one 8 false .stop)))))))) (.one 7 false (.alt 1 (.alt 3 (.one 5 false (.one 6 false (.one 8 false .stop))) (.one 5 false (.one 3 false (.one 6 false (.one 8 false .stop))))) (.alt 3 (.alt 1 (.one 5 false (.one 6 false (.one 8 false .stop))) (.one 5 false (.one 1 false (.one 6 false (.one 8 false .stop))))) (.one 5 false (.alt 1 (.one 3 false (.one 6 false (.one 8 false .stop))) (.one 3 false (.one 1 false (.one 6 false (.one 8 false .stop))))))))))))))) (fun x=>[(0,.int .i64 n),(1,.af dB l),(6,.ptr x.1 0)]) (fun x=>(x.1,[.aj,.ae x.2.1 0 n 1,.ae x.2.2.1 0 n 1,.ae x.2.2.2 0 n 1,.aj,.int .i64 0,.aj])::(x.2.1,cM [.int .i64 0] n)::(x.2.2.1,cM [.int .i64 0] n)::(x.2.2.2,cM [.bool false] n)::σ) (by kernel_rfl) ?_ ?_
 ·refine And.intro ?_ ?_
  ·refine aZ ?_
   intro bi
   refine And.intro ?_ ?_
   ·refine aZ ?_
    intro bl
    refine And.intro ?_ ?_
    ·refine aZ ?_
     intro bo
     intro w
     refine ai 0 ?_
     exact cS.mk (w,bi,bl,bo) ⟨rfl,rfl,rfl,trivial⟩ (.pull [3,3,2,1] (aJ rfl))
    ·intro w
     refine aZ ?_
     intro bo
     refine ai 1 ?_
     exact cS.mk (w,bi,bl,bo) ⟨rfl,rfl,rfl,trivial⟩ (.pull [3,3,2,0] (aJ rfl))
   ·refine And.intro ?_ ?_
    ·refine aZ ?_
     intro bo
     refine And.intro ?_ ?_
     ·refine aZ ?_
      intro bl
      intro w
      refine ai 0 ?_
      exact cS.mk (w,bi,bl,bo) ⟨rfl,rfl,rfl,trivial⟩ (.pull [3,3,2,2] (aJ rfl))
     ·intro w
      refine aZ ?_
      intro bl
      refine ai 1 ?_
      exact cS.mk (w,bi,bl,bo) ⟨rfl,rfl,rfl,trivial⟩ (.pull [3,3,1,2] (aJ rfl))
    ·intro w
     refine And.intro ?_ ?_
     ·refine aZ ?_
      intro bl
      refine aZ ?_
      intro bo
      refine ai 2 ?_
      exact cS.mk (w,bi,bl,bo) ⟨rfl,rfl,rfl,trivial⟩ (.pull [3,3,1,0] (aJ rfl))
     ·refine aZ ?_
      intro bo
      refine aZ ?_
      intro bl
      refine ai 2 ?_
      exact cS.mk (w,bi,bl,bo) ⟨rfl,rfl,rfl,trivial⟩ (.pull [3,3,1,1] (aJ rfl))
  ·refine And.intro ?_ ?_
   ·refine aZ ?_
    intro bl
    refine And.intro ?_ ?_
    ·refine aZ ?_
     intro bi
     refine And.intro ?_ ?_
     ·refine aZ ?_
      intro bo
      intro w
      refine ai 0 ?_
      exact cS.mk (w,bi,bl,bo) ⟨rfl,rfl,rfl,trivial⟩ (.pull [3,3,3,1] (aJ rfl))
     ·intro w
      refine aZ ?_
      intro bo
      refine ai 1 ?_
      exact cS.mk (w,bi,bl,bo) ⟨rfl,rfl,rfl,trivial⟩ (.pull [3,3,3,0] (aJ rfl))
    ·refine And.intro ?_ ?_
     ·refine aZ ?_
      intro bo
      refine And.intro ?_ ?_
      ·refine aZ ?_
       intro bi
       intro w
       refine ai 0 ?_
       exact cS.mk (w,bi,bl,bo) ⟨rfl,rfl,rfl,trivial⟩ (.pull [3,3,3,2] (aJ rfl))
      ·intro w
       refine aZ ?_
       intro bi
       refine ai 1 ?_
       exact cS.mk (w,bi,bl,bo) ⟨rfl,rfl,rfl,trivial⟩ (.pull [3,2,3,2] (aJ rfl))
     ·intro w
      refine And.intro ?_ ?_
      ·refine aZ ?_
       intro bi
       refine aZ ?_
       intro bo
       refine ai 2 ?_
       exact cS.mk (w,bi,bl,bo) ⟨rfl,rfl,rfl,trivial⟩ (.pull [3,2,3,0] (aJ rfl))
      ·refine aZ ?_
       intro bo
       refine aZ ?_
       intro bi
       refine ai 2 ?_
       exact cS.mk (w,bi,bl,bo) ⟨rfl,rfl,rfl,trivial⟩ (.pull [3,2,3,1] (aJ rfl))
   ·refine And.intro ?_ ?_
    ·refine aZ ?_
     intro bo
     refine And.intro ?_ ?_
     ·refine aZ ?_
      intro bi
      refine And.intro ?_ ?_
      ·refine aZ ?_
       intro bl
       intro w
       refine ai 0 ?_
       exact cS.mk (w,bi,bl,bo) ⟨rfl,rfl,rfl,trivial⟩ (.pull [3,3,2,3] (aJ rfl))
      ·intro w
       refine aZ ?_
       intro bl
       refine ai 1 ?_
       exact cS.mk (w,bi,bl,bo) ⟨rfl,rfl,rfl,trivial⟩ (.pull [3,3,1,3] (aJ rfl))
     ·refine And.intro ?_ ?_
      ·refine aZ ?_
       intro bl
       refine And.intro ?_ ?_
       ·refine aZ ?_
        intro bi
        intro w
        refine ai 0 ?_
        exact cS.mk (w,bi,bl,bo) ⟨rfl,rfl,rfl,trivial⟩ (.pull [3,3,3,3] (aJ rfl))
       ·intro w
        refine aZ ?_
        intro bi
        refine ai 1 ?_
        exact cS.mk (w,bi,bl,bo) ⟨rfl,rfl,rfl,trivial⟩ (.pull [3,2,3,3] (aJ rfl))
      ·intro w
       refine And.intro ?_ ?_
       ·refine aZ ?_
        intro bi
        refine aZ ?_
        intro bl
        refine ai 2 ?_
        exact cS.mk (w,bi,bl,bo) ⟨rfl,rfl,rfl,trivial⟩ (.pull [3,2,1,3] (aJ rfl))
       ·refine aZ ?_
        intro bl
        refine aZ ?_
        intro bi
        refine ai 2 ?_
        exact cS.mk (w,bi,bl,bo) ⟨rfl,rfl,rfl,trivial⟩ (.pull [3,2,2,3] (aJ rfl))
    ·intro w
     refine And.intro ?_ ?_
     ·refine aZ ?_
      intro bi
      refine And.intro ?_ ?_
      ·refine aZ ?_
       intro bl
       refine aZ ?_
       intro bo
       refine ai 3 ?_
       exact cS.mk (w,bi,bl,bo) ⟨rfl,rfl,rfl,trivial⟩ (.pull [3,2,1,0] (aJ rfl))
      ·refine aZ ?_
       intro bo
       refine aZ ?_
       intro bl
       refine ai 3 ?_
       exact cS.mk (w,bi,bl,bo) ⟨rfl,rfl,rfl,trivial⟩ (.pull [3,2,1,1] (aJ rfl))
     ·refine And.intro ?_ ?_
      ·refine aZ ?_
       intro bl
       refine And.intro ?_ ?_
       ·refine aZ ?_
        intro bi
        refine aZ ?_
        intro bo
        refine ai 3 ?_
        exact cS.mk (w,bi,bl,bo) ⟨rfl,rfl,rfl,trivial⟩ (.pull [3,2,2,0] (aJ rfl))
       ·refine aZ ?_
        intro bo
        refine aZ ?_
        intro bi
        refine ai 3 ?_
        exact cS.mk (w,bi,bl,bo) ⟨rfl,rfl,rfl,trivial⟩ (.pull [3,2,2,1] (aJ rfl))
      ·refine aZ ?_
       intro bo
       refine And.intro ?_ ?_
       ·refine aZ ?_
        intro bi
        refine aZ ?_
        intro bl
        refine ai 3 ?_
        exact cS.mk (w,bi,bl,bo) ⟨rfl,rfl,rfl,trivial⟩ (.pull [3,2,1,2] (aJ rfl))
       ·refine aZ ?_
        intro bl
        refine aZ ?_
        intro bi
        refine ai 3 ?_
        exact cS.mk (w,bi,bl,bo) ⟨rfl,rfl,rfl,trivial⟩ (.pull [3,2,2,2] (aJ rfl))
 rintro⟨w,bi,bl,bo⟩ g
 have cQ:∀(a:Nat) (σ:Hp),ACalls Tryz.prog 289 [.int .i64 n,.af dB l,.int .i64 a] σ (aE (.af (.int .i64) (ar n l a)) σ):=fun a σ=>AL n l a σ hl
 have mi:∀k,cC ((List.range (k+1)).map fun a:Nat=>ar n l a)=cC ((List.range k).map fun a:Nat=>ar n l a)++[.af (.int .i64) (ar n l k)]:=fun k=>by rw[sH,cO];exact cO
 have fR:∀k,(cC ((List.range k).map fun a:Nat=>ar n l a)).length=k:=fun k=>by rw[ud,cm,pN]
 refine cc (S:=Nat×AV×Hp) (fun x=>[(0,.int .i64 n),(1,.af dB l),(6,.ptr w 0),(20,.int .i64 n),(21,.int .i64 x.1)]) (fun x=>(w,[x.2.1,.ae bi 0 n 1,.ae bl 0 n 1,.ae bo 0 n 1,.aj,.int .i64 0,.aj])::(bi,cM [.int .i64 0] n)::(bl,cM [.int .i64 0] n)::(bo,cM [.bool false] n)::(x.2.2++σ)) (fun x=>x.1≤n∧(x.1<n→Acc 1 x.1 x.2.1 x.2.2 (cC ((List.range x.1).map fun a:Nat=>ar n l a)))∧(x.1=n→x.2.1=.af (.slice (.int .i64)) (bY n l)∧x.2.2=[])) (fun x=>n-x.1) (0,.aj,[]) ⟨⟨bD _,fun _=>.nil,fun h=>by have h:0=n:=h;omega⟩,⟨rfl,rfl,rfl,rfl,rfl,trivial⟩,rfl⟩ ?_
 rintro⟨k,v,acc⟩ g ⟨aP,gT,Dh⟩
 have hk:k≤n:=aP
 have b9:k<n→Acc 1 k v acc (cC ((List.range k).map fun a:Nat=>ar n l a)):=gT
 have lf:k=n→v=.af (.slice (.int .i64)) (bY n l)∧acc=[]:=Dh
 clear aP gT Dh
 refine aq (p:=(k:Int)<n) (fun ab=>?_) (fun au=>?_)
 ·have ab:k<n:=by omega
  have b9:=b9 ab
  clear lf
  have mj:(bY n l).length=n:=by unfold bY;rw[cm,pN]
  have Bl:∀k,k+1=n→((cC ((List.range k).map fun a:Nat=>ar n l a)++[AV.af (.int .i64) (ar n l k)]).drop 0).take ((k+1)*1)=(bY n l).flatMap (Sh.cells (.slice (.int .i64))):=fun k hk=>by
   rw[← mi,gM,eG (by rw[fR,dO];exact a8 _),hk]
   exact wC _
  refine .sched [5] (.one 0 false (.one 2 false (.one 3 false (.one 4 false (.one 5 true (.alt 1 (.one 6 false (.one 7 false (.one 8 false (.one 9 false .stop)))) (.one 6 false (.one 1 false (.one 7 false (.one 8 false (.one 9 false .stop))))))))))) (by kernel_rfl) ?_
  refine aL [] (AL n l _ _ hl) ?_
  refine And.intro ?_ ?_
  ·refine aa 0 ?_
   intro aG
   refine zI [_,_,_,_,_] b9.xm (.ae 0 aG 0 1 _ rfl (cD rfl)) rfl (by omega) (by decide) (by decide) (fun v' aU h'=>?_)
   obtain⟨b5,rfl,rfl⟩:=sU (by omega) h'
   refine ai 1 ?_
   by_cases jI:k+1=n
   ·refine .kz 5 b5 0 (k+1) 1 _ (.slice (.int .i64)) (bY n l) rfl (Bl k jI) ⟨(mj.trans jI.symm),rfl,by decide⟩ 1 0 w _ rfl rfl ?_
    exact bj (k+1,.af (.slice (.int .i64)) (bY n l),[]) (by show n-(k+1)<n-k;omega) ⟨ab,fun h=>absurd jI (by have h:k+1<n:=h;omega),fun _=>⟨rfl,rfl⟩⟩ ⟨rfl,rfl,rfl,rfl,aY (by omega),trivial⟩ (.drop 0 1 (aJ rfl))
   ·exact bj (k+1,.ae b5 0 (k+1) 1,[(b5,cC ((List.range k).map fun a:Nat=>ar n l a)++[.af (.int .i64) (ar n l k)])]) (by show n-(k+1)<n-k;omega) ⟨ab,fun _=>by show Acc 1 (k+1) _ _ (cC ((List.range (k+1)).map fun a:Nat=>ar n l a));rw[mi];exact h',fun h=>absurd h jI⟩ ⟨rfl,rfl,rfl,rfl,aY (by omega),trivial⟩ (.drop 0 1 (aJ rfl))
  ·intro dw
   refine aa 1 ?_
   refine zI [_,_,_,_,_] b9.xm (.ae 0 dw 0 1 _ rfl (cD rfl)) rfl (by omega) (by decide) (by decide) (fun v' aU h'=>?_)
   obtain⟨b5,rfl,rfl⟩:=sU (by omega) h'
   refine ai 1 ?_
   by_cases jI:k+1=n
   ·refine .kz 5 b5 0 (k+1) 1 _ (.slice (.int .i64)) (bY n l) rfl (Bl k jI) ⟨(mj.trans jI.symm),rfl,by decide⟩ 1 0 w _ rfl rfl ?_
    exact bj (k+1,.af (.slice (.int .i64)) (bY n l),[]) (by show n-(k+1)<n-k;omega) ⟨ab,fun h=>absurd jI (by have h:k+1<n:=h;omega),fun _=>⟨rfl,rfl⟩⟩ ⟨rfl,rfl,rfl,rfl,aY (by omega),trivial⟩ (.drop 0 1 (aJ rfl))
   ·exact bj (k+1,.ae b5 0 (k+1) 1,[(b5,cC ((List.range k).map fun a:Nat=>ar n l a)++[.af (.int .i64) (ar n l k)])]) (by show n-(k+1)<n-k;omega) ⟨ab,fun _=>by show Acc 1 (k+1) _ _ (cC ((List.range (k+1)).map fun a:Nat=>ar n l a));rw[mi];exact h',fun h=>absurd h jI⟩ ⟨rfl,rfl,rfl,rfl,aY (by omega),trivial⟩ (.drop 0 1 (aJ rfl))
 ·have au:k=n:=by omega
  obtain⟨rfl,rfl⟩:=lf au
  clear b9 lf
  refine cc (S:=Nat×(List Int×List Int×List Bool×Nat×List (List Int))×(AV×Hp×AV×Hp)) (fun x=>[(0,.int .i64 n),(1,.af dB l),(6,.ptr w 0),(34,.int .i64 n),(35,.int .i64 x.1)]) (fun x=>(w,df (bY n l) bi bl bo n x.2.2.1 x.2.1.2.2.2.1 x.2.2.2.2.1)::(bi,an x.2.1.1)::(bl,an x.2.1.2.1)::(bo,bN x.2.1.2.2.1)::(x.2.2.2.1++(x.2.2.2.2.2++σ))) (fun x=>x.1≤n∧FI n (ar n l) x.2.1.1 x.2.1.2.1 x.2.1.2.2.1 [] x.2.1.2.2.2.1 x.2.1.2.2.2.2 []∧iG 1 0 x.2.2.1 x.2.2.2.1 []∧PO x.2.1.2.2.2.2 x.2.2.2.2.1 x.2.2.2.2.2∧∀b:Nat,b<x.1→x.2.1.1.getD b 0≠0) (fun x=>n-x.1) (0,(List.replicate n 0,List.replicate n 0,List.replicate n false,0,[]),(.aj,[],.aj,[])) ⟨⟨bD _,.start n (ar n l),.nil,⟨[],[],rfl,.nil,rfl⟩,fun _ h=>absurd h (nR _)⟩,⟨rfl,rfl,rfl,rfl,rfl,trivial⟩,by rw[x9,CC];rfl⟩ ?_
  clear au
  rintro⟨k,⟨ix,lo,on,aH,P⟩,⟨vs,lN,vp,eM⟩⟩ g2 ⟨aP,sF,nJ,tI,ru⟩
  have hk:k≤n:=aP
  have hF:FI n (ar n l) ix lo on [] aH P []:=sF
  have hs:iG 1 0 vs lN []:=nJ
  have hp:PO P vp eM:=tI
  have hv:∀b:Nat,b<k→ix.getD b 0≠0:=ru
  clear aP sF nJ tI ru
  have Ez:((k:Nat):Int).toNat=k:=bM k
  refine aq (p:=(k:Int)<n) (fun ab=>?_) (fun au=>?_)
  ·have ab:k<n:=by omega
   refine aa 0 ?_
   refine aM ?_
   refine aT 1 rfl (e9 rfl (by omega) (by rw[hF.li];omega)) ?_
   refine aq (p:=ix.getD ((k:Nat):Int).toNat 0=0) (fun c1=>?_) (fun c1=>?_)
   ·refine .mk [] _ (aeF n w bi bl bo l ix lo on aH P vs vp lN eM k σ (by omega) hF (by omega) c1 hs hp) ?_
    rintro _ _ ⟨rfl,Nc,Nb,M9,MY,P2,Ix,Mn,M5,Mo,N7,hG,dA,sE,tK,rfl⟩
    rw[Ez]at sE
    refine bj (k+1,(Nc,Nb,M9,MY,P2),(Ix,Mn,M5,Mo)) (by show n-(k+1)<n-k;omega) ⟨ab,N7,hG,dA,fun b hb=>?_⟩ ⟨rfl,rfl,rfl,rfl,aY (by omega),trivial⟩ (.refl _)
    have hb:b<k+1:=hb
    by_cases e:b=k
    ·subst e;exact sE
    ·exact tK b (hv b (by omega))
   ·rw[Ez]at c1
    refine bj (k+1,(ix,lo,on,aH,P),(vs,lN,vp,eM)) (by show n-(k+1)<n-k;omega) ⟨ab,hF,hs,hp,fun b hb=>?_⟩ ⟨rfl,rfl,rfl,rfl,aY (by omega),trivial⟩ (.refl _)
    have hb:b<k+1:=hb
    by_cases e:b=k
    ·subst e;exact c1
    ·exact hv b (by omega)
  ·have au:k=n:=by omega
   subst au
   have cH:oI k l P:=⟨hF.tj.prt,fun x h0 h1=>by
    have h2:=hv x.toNat (by omega)
    have h3:=(hF.tj.xl x h0 h1).1 (by rw[l8 h0];exact h2)
    exact h3.resolve_left (by simp)⟩
   have EM:=B8 hF.tj.prt
   refine aa 0 ?_
   obtain⟨x,hx,_⟩:=cH.all 0 (by omega) (by omega)
   have tQ:=E9 hx
   obtain⟨ac,rw,rfl,hac,mN⟩:=hp
   have vF:rw.length=P.length:=by rw[← mN,cm]
   obtain⟨b5,rfl,rfl⟩:=sU (by omega) hac
   have hO:=fun τ=>ZD k l P rw b5 τ cH mN tQ hl (by omega) Bo
   rw[← vF]at hO
   rcases hs.zero with ⟨rfl,rfl⟩ | ⟨bs,J,rfl,rfl⟩
   ·refine .perm _ (zZ [_,_,_,_] ((b5,fh rw)::eP rw) σ) (hO _) ?_
    rintro _ _ ⟨Fi,eO,rfl,mM,rfl,Er⟩
    exact⟨_,(zZ [_,_,_,_] ((Fi,fh eO)::eP eO) σ).symm,.drop 0 4 (.done ⟨Fi,eO,rfl,mM,rfl,P,cH,Er⟩)⟩
   ·refine .perm _ (zZ [_,_,_,_,_] ((b5,fh rw)::eP rw) σ) (hO _) ?_
    rintro _ _ ⟨Fi,eO,rfl,mM,rfl,Er⟩
    exact⟨_,(zZ [_,_,_,_,_] ((Fi,fh eO)::eP eO) σ).symm,.drop 0 5 (.done ⟨Fi,eO,rfl,mM,rfl,P,cH,Er⟩)⟩
end Go.Proofs.YtnikdflhefijbaaGreat
namespace Go.Proofs.YtnikdflhefijbaaGreat
open Go.Shelf
def WL:Go.Shelf.Ren:=⟨fun | 6=>259 | 15=>233 | 14=>292 | 28=>274 | 29=>275 | 20=>318 | 21=>319 | 22=>320 | 23=>321 | 24=>322 | 25=>323 | 26=>324 | 27=>325 | 46=>339 | 47=>296 | 48=>297 | 49=>340 | 50=>341 | 57=>355 | n=>n,fun | 22=>23 | 24=>3 | 25=>118 | 3=>3 | 39=>253 | 0=>0 | 53=>284 | 55=>56 | 4=>4 | 46=>308 | 45=>307 | 50=>312 | 5=>5 | 9=>9 | 66=>331 | 70=>335 | 76=>353 | 77=>50 | n=>n,fun | n=>n⟩
theorem acw:Go.Proofs.SlLaysF.n6 Tryz.prog WL:= {
 mixed:=by kernel_rfl
 f6 := ⟨"slices.SortFunc[[]int,int]", by decide, Tryz.func259.trans (congrArg some (by kernel_rfl))⟩
 f14 := ⟨"slices.pdqsortCmpFunc[int]", by decide, Tryz.func292.trans (congrArg some (by kernel_rfl))⟩
 f15:=Tryz.func233.trans (congrArg some (by kernel_rfl))
 f20 := ⟨"slices.insertionSortCmpFunc[int]", by decide, Tryz.func318.trans (congrArg some (by kernel_rfl))⟩
 f21 := ⟨"slices.heapSortCmpFunc[int]", by decide, Tryz.func319.trans (congrArg some (by kernel_rfl))⟩
 f22 := ⟨"slices.breakPatternsCmpFunc[int]", by decide, Tryz.func320.trans (congrArg some (by kernel_rfl))⟩
 f23 := ⟨"slices.choosePivotCmpFunc[int]", by decide, Tryz.func321.trans (congrArg some (by kernel_rfl))⟩
 f24 := ⟨"slices.reverseRangeCmpFunc[int]", by decide, Tryz.func322.trans (congrArg some (by kernel_rfl))⟩
 f25 := ⟨"slices.partialInsertionSortCmpFunc[int]", by decide, Tryz.func323.trans (congrArg some (by kernel_rfl))⟩
 f26 := ⟨"slices.partitionEqualCmpFunc[int]", by decide, Tryz.func324.trans (congrArg some (by kernel_rfl))⟩
 f27 := ⟨"slices.partitionCmpFunc[int]", by decide, Tryz.func325.trans (congrArg some (by kernel_rfl))⟩
 f28:=Tryz.func274.trans (congrArg some (by kernel_rfl))
 f29:=Tryz.func275.trans (congrArg some (by kernel_rfl))
 f46 := ⟨"slices.siftDownCmpFunc[int]", by decide, Tryz.func339.trans (congrArg some (by kernel_rfl))⟩
 f47:=Tryz.func296.trans (congrArg some (by kernel_rfl))
 f48:=Tryz.func297.trans (congrArg some (by kernel_rfl))
 f49 := ⟨"slices.medianAdjacentCmpFunc[int]", by decide, Tryz.func340.trans (congrArg some (by kernel_rfl))⟩
 f50 := ⟨"slices.medianCmpFunc[int]", by decide, Tryz.func341.trans (congrArg some (by kernel_rfl))⟩
 f57 := ⟨"slices.order2CmpFunc[int]", by decide, Tryz.func355.trans (congrArg some (by kernel_rfl))⟩
 t0:=Tryz.underlying0
 a0:=Tryz.isAgg0
 z0:=Tryz.sizeOf0
 v0:=Tryz.zeroValue0
 t3:=Tryz.underlying3
 a3:=Tryz.isAgg3
 z3:=Tryz.sizeOf3
 v3:=Tryz.zeroValue3
 t4:=Tryz.underlying4
 a4:=Tryz.isAgg4
 z4:=Tryz.sizeOf4
 v4:=Tryz.zeroValue4
 t5:=Tryz.underlying5
 a5:=Tryz.isAgg5
 z5:=Tryz.sizeOf5
 v5:=Tryz.zeroValue5
 t9:=Tryz.underlying9
 a9:=Tryz.isAgg9
 z9:=Tryz.sizeOf9
 v9:=Tryz.zeroValue9
 t22:=Tryz.underlying23
 a22:=Tryz.isAgg23
 z22:=Tryz.sizeOf23
 v22:=Tryz.zeroValue23
 a24:=Tryz.isAgg3
 z24:=Tryz.sizeOf3
 t25:=Tryz.underlying118
 a25:=Tryz.isAgg118
 z25:=Tryz.sizeOf118
 v25:=Tryz.zeroValue118
 t39:=Tryz.underlying253
 a39:=Tryz.isAgg253
 z39:=Tryz.sizeOf253
 v39:=Tryz.zeroValue253
 t45:=Tryz.underlying307
 a45:=Tryz.isAgg307
 z45:=Tryz.sizeOf307
 v45:=Tryz.zeroValue307
 t46:=Tryz.underlying308
 a46:=Tryz.isAgg308
 z46:=Tryz.sizeOf308
 v46:=Tryz.zeroValue308
 t50:=Tryz.underlying312
 a50:=Tryz.isAgg312
 z50:=Tryz.sizeOf312
 v50:=Tryz.zeroValue312
 t53:=Tryz.underlying284
 a53:=Tryz.isAgg284
 z53:=Tryz.sizeOf284
 v53:=Tryz.zeroValue284
 t55:=Tryz.underlying56
 a55:=Tryz.isAgg56
 z55:=Tryz.sizeOf56
 v55:=Tryz.zeroValue56
 t66:=Tryz.underlying331
 a66:=Tryz.isAgg331
 z66:=Tryz.sizeOf331
 v66:=Tryz.zeroValue331
 t70:=Tryz.underlying335
 a70:=Tryz.isAgg335
 z70:=Tryz.sizeOf335
 v70:=Tryz.zeroValue335
 t76:=Tryz.underlying353
 a76:=Tryz.isAgg353
 z76:=Tryz.sizeOf353
 v76:=Tryz.zeroValue353
 t77:=Tryz.underlying50
 a77:=Tryz.isAgg50
 z77:=Tryz.sizeOf50
 v77:=Tryz.zeroValue50 }
end Go.Proofs.YtnikdflhefijbaaGreat
namespace Go.Proofs.YtnikdflhefijbaaGreat
open Go.RowKit Go.Lib
set_option maxRecDepth 100000
theorem adw(n:Nat)(rk:List Int)(x y:Int)(σ:Hp)(hr:rk.length=n)(hx:0≤x∧x<n)(hy:0≤y∧y<n):ACalls Tryz.prog 260 [.int .i64 x,.int .i64 y,.fV [.af (.int .i64) rk]] σ (aE (.int .i64 (IntKind.i64.wrap (rk.getD x.toNat 0-rk.getD y.toNat 0))) σ):=by
 have h1:rk[x.toNat]?=some (rk.getD x.toNat 0):=by rw[bg,bF (by omega)];rfl
 have h2:rk[y.toNat]?=some (rk.getD y.toNat 0):=by rw[bg,bF (by omega)];rfl
 refine az Tryz.func260 ?_
 refine .quiet (by kernel_rfl) ?_
 refine aI.mk rfl ?_
 refine bL.mk _ hx.1 h1 ?_
 refine aI.mk rfl ?_
 refine bL.mk _ hy.1 h2 ?_
 exact .done ⟨rfl,rfl⟩
abbrev mY(n:Nat):Type:= { x:Int // 0≤x∧x<(n:Int) }
def xi{n:Nat}(rk:List Int)(x y:mY n):Int:=IntKind.i64.wrap (rk.getD x.1.toNat 0-rk.getD y.1.toNat 0)
def sc{n:Nat}(x:mY n):Value:=.int .i64 x.1
structure tC(n:Nat)(rk:List Int):Prop where
 len:rk.length=n
 big:∀i:Nat,i<n→0≤rk.getD i 0∧rk.getD i 0<1000000
 inj:∀i j:Nat,i<n→j<n→rk.getD i 0=rk.getD j 0→i=j
theorem tC.lt{n:Nat}{rk:List Int}(h:tC n rk)(x y:mY n):ltOf (xi rk) x y=decide (rk.getD x.1.toNat 0<rk.getD y.1.toNat 0):=by
 unfold ltOf
 rw[decide_eq_decide]
 have h1:=h.big x.1.toNat (by have:=x.2;omega)
 have h2:=h.big y.1.toNat (by have:=y.2;omega)
 unfold xi
 rw[IntKind.wrap_i64]
 omega
theorem tC.swo{n:Nat}{rk:List Int}(h:tC n rk):Go.Sort.SWO (ltOf (xi (n:=n) rk)) where
 irrefl x:=by rw[h.lt];simp
 trans x y z h1 h2:=by rw[h.lt]at *;simp only[decide_eq_true_eq]at *;omega
 ntrans x y z h1 h2:=by rw[h.lt]at *;simp only[decide_eq_false_iff_not]at *;omega
theorem tC.tot{n:Nat}{rk:List Int}(h:tC n rk)(x y:mY n)(h1:ltOf (xi rk) x y=false)(h2:ltOf (xi rk) y x=false):x=y:=by
 rw[h.lt]at h1 h2
 simp only[decide_eq_false_iff_not]at h1 h2
 have hx:=x.2
 have hy:=y.2
 have:=h.inj x.1.toNat y.1.toNat (by omega) (by omega) (by omega)
 exact Subtype.ext (by omega)
def uI{n:Nat}(rk:List Int)(L:List (mY n)):List (mY n):=L.mergeSort fun x y=> !(ltOf (xi rk)) y x
theorem Wb{n:Nat}(rk:List Int)(L:List (mY n)):(uI rk L).length=L.length:=List.length_mergeSort ..
def jD{n:Nat}(L:List (mY n)):List Int:=L.map (·.1)
theorem RH{n:Nat}[Inhabited (mY n)](w:World)(b:Nat)(d:List (mY n)):Go.Sort.putRow sc w b 0 d.toArray=Go.Sort.putRow (Value.int .i64) w b 0 (jD d).toArray:=by
 have e:Go.Sort.putCells sc 0 d.toArray=Go.Sort.putCells (Value.int .i64) 0 (jD d).toArray:=by
  funext c
  unfold Go.Sort.putCells
  refine Array.ext (by simp) fun i h1 h2=>?_
  have hs:(jD d).toArray.size=d.toArray.size:=by simp[jD]
  simp only[Array.getElem_mapIdx,hs]
  by_cases hi:0≤i∧i<0+d.toArray.size
  ·rw[ah hi,ah hi]
   have pH:i<d.length:=by have:=hi.2;simp at this;omega
   have e1:d.toArray[i-0]! = d[i]'pH:=by simp[pH]
   have e2:(jD d).toArray[i-0]! = (d[i]'pH).1:=by simp[jD,pH]
   rw[e1,e2];rfl
  ·rw[ag hi,ag hi]
 unfold Go.Sort.putRow
 rw[e]
theorem BO{n:Nat}(L:List (mY n)):(jD L).length=L.length:=cm _
theorem Wf:Enters Tryz.prog 259:=enters_of Tryz.func259 (by kernel_rfl)
theorem WX:Enters Tryz.prog 260:=enters_of Tryz.func260 (by kernel_rfl)
theorem agk{F:Nat→Prop}{w:World}{f:Fn}{bk:Nat}{v:Value}(h:aA F w (.fn f [] [.ptr bk 0]) v):v=.func f #[] #[.pointer (some ⟨bk,0,none⟩)]:=by
 cases h with
 |fn _ _ _ v1 v2 fv hG h1 h2=>
  have e1:v1 = #[]:=Array.eq_empty_of_size_eq_zero fv.symm
  obtain⟨z,rfl⟩:∃z,v2 = #[z]:=by
   obtain⟨l2⟩:=v2
   match l2,hG with
   | [z],_=>exact⟨z,rfl⟩
  subst e1
  have h3:=h2 0 _ rfl
  cases h3
  rfl
theorem Zc{F:Nat→Prop}{w:World}{σ:Hp}{n:Nat}[Inhabited (mY n)]{rk:List Int}{b bk:Nat}{L:List (mY n)}(hr:tC n rk)(aF:bA F w ((b,an (jD L))::(bk,[.af (.int .i64) rk])::σ)):CmpLays1 Tryz.prog 260 #[.pointer (some ⟨bk,0,none⟩)] sc (xi (n:=n) rk) b 0 L.length w:=fun m os dk hdk x y=>by
 have hd:(jD dk.toList).length=(jD L).length:=by
  rw[BO,BO,go2,hdk]
 obtain⟨s1,s2⟩:=CD (n:=m) (zs':=jD dk.toList) aF hd os
 have hW:sortWorld sc w b 0 m dk os=Go.Sort.grow (Go.Sort.putRow (Value.int .i64) (Go.Sort.ahead w m) b 0 (jD dk.toList).toArray) os:=by
  have:=RH (Go.Sort.ahead w m) b dk.toList
  show Go.Sort.grow (Go.Sort.putRow sc (Go.Sort.ahead w m) b 0 dk) os=_
  rw[← this]
 rw[← hW]at s1 s2
 generalize sortWorld sc w b 0 m dk os=W at s1 s2
 obtain⟨hF,c,T,h1,h2,h3⟩:=(s2.holds (bk,[.af (.int .i64) rk]) (cW _ (ck ..))).GM (fun x hx=>by rw[bB.1 hx];rfl)
 have ao:bJ F W (fun k=>k<W.heap.size) W:=⟨rfl,rfl,rfl,a8 _,fun k hk=>s2.low k hk,fun _ _=>rfl,fun k c T fz h=>⟨c,fz,h,rfl⟩,a8 _⟩
 have pI:bk<W.heap.size:=(E8.1 h1).1
 have iL:0<c.size:=h2
 have hv:aA (fun k=>k<W.heap.size) W (.fV [.af (.int .i64) rk]) (.pointer (some ⟨bk,0,none⟩)):=by
  refine .fV _ bk 0 (fun i=>c.getD i undef) ⟨pI,c,T,(0,0),h1⟩ (fun i x hx=>?_) (fun i x hx=>?_) (fun i x hx=>?_)
  ·match i,hx with
   | 0,hx=>rw[Ls h1,jL,xK (by omega)];rfl
   |i+1,hx=>simp at hx
  ·exact (h3 i x hx).1
  ·exact (h3 i x hx).2.mono ao
 have h:=XW (fun σ=>adw n rk x.1 y.1 σ hr.len x.2 y.2) (w:=W) (vs:= #[.int .i64 x.1,.int .i64 y.1,.pointer (some ⟨bk,0,none⟩)]) ⟨rfl,fun i a h=>by
  match i,h with
  | 0,h=>cases h;exact .int _ _
  | 1,h=>cases h;exact .int _ _
  | 2,h=>cases h;exact hv⟩
 exact h
theorem Zx(n:Nat)[Inhabited (mY n)](rk:List Int)(b bk:Nat)(L:List (mY n))(q:Nat)(σ:Hp)(hr:tC n rk)(hz:L.length=q)(h0:0<q)(hl:q≤1000000):ACalls Tryz.prog 259 [.ae b 0 q 1,.fn (.func 260) [] [.ptr bk 0]] ((b,an (jD L))::(bk,[.af (.int .i64) rk])::σ) (aE (.tup []) ((b,an (jD (uI rk L)))::(bk,[.af (.int .i64) rk])::σ)):=by
 subst hz
 refine⟨Wf,fun F w vs bS aF =>?_⟩
 obtain⟨v,u,rfl⟩:∃v u,vs = #[v,u]:=by
  obtain⟨l2⟩:=vs
  match l2,bS.1 with
  | [v,u],_=>exact⟨v,u,rfl⟩
 have hv:aA F w (.ae b 0 L.length 1) v:=bS.2 0 _ rfl
 obtain rfl:=agk (show aA F w (.fn (.func 260) [] [.ptr bk 0]) u from bS.2 1 _ rfl)
 obtain⟨a,cap,rfl,c,T,fz,m1,m2,m3,m4⟩:=hv.kY
 rcases m4 with ⟨rfl,_⟩ | ⟨_,_,h9,_⟩
 ·obtain⟨h1,h2⟩:=Gq aF
  have h1:Go.Sort.Holds (sc (n:=n)) w b 0 L.toArray:=fun j hj=>by
   have hj2:j<L.length:=by simpa using hj
   have hh:=h1 j (by simp[jD];exact hj2)
   rw[show (jD L).toArray[j]! = (L.toArray[j]!).1 by simp[jD,hj2]]at hh
   exact hh
  have h:Calls Tryz.prog 259 #[.slice (some ⟨b,0,none⟩) L.length cap,.func (.func 260) #[] #[.pointer (some ⟨bk,0,none⟩)]] w fun e w'=>e=.returned (.tuple #[])∧∃n os,w'=sortWorld sc w b 0 n (uI rk L).toArray os:=Any.slices_SortFunc_total acw sc (fun _=>rfl) (xi rk) hr.swo 260 #[.pointer (some ⟨bk,0,none⟩)] b 0 cap L.toArray w WX (by have:=Zc hr aF;simpa using this) h1 h2 (by show L.length<_;omega) hr.tot
  refine h.mono ?_
  rintro e w' ⟨rfl,m,os,rfl⟩
  obtain⟨k1,k2⟩:=CD (n:=m) (zs':=jD (uI rk L)) aF (by rw[BO,BO,Wb]) os
  have hW:sortWorld sc w b 0 m (uI rk L).toArray os=Go.Sort.grow (Go.Sort.putRow (Value.int .i64) (Go.Sort.ahead w m) b 0 (jD (uI rk L)).toArray) os:=by
   show Go.Sort.grow (Go.Sort.putRow sc (Go.Sort.ahead w m) b 0 (uI rk L).toArray) os=_
   rw[RH]
  rw[hW]
  exact⟨.tup [],.tuple #[],_,F,rfl,k1,k2,.tup [] #[] rfl fun i x h=>by simp at h,rfl,rfl⟩
 ·omega
set_option maxHeartbeats 4000000
def sh(n:Nat)(p:List Int):Nat→List Int
 | 0=>List.replicate n 0
 |k+1=>(sh n p k).set (p.getD k 0).toNat ((n:Int)-1-(k:Int))
theorem zK(n:Nat)(p:List Int):∀k,(sh n p k).length=n
 | 0=>fZ
 |k+1=>by unfold sh;rw[cN];exact zK n p k
theorem ZM{nx:Int→List Int}{n:Nat}{a:Int}{out:List Int}:a∈out++gU nx (n+1) a out:=by
 by_cases h:a∈out
 ·exact gN _ h
 ·refine jJ _ ?_
  unfold gU
  rw[ag h]
  simp
theorem RI{nx:Int→List Int}{n:Nat}:∀(L out:List Int) (a:Int),a∈out∨a∈L→a∈L.foldl (fun out a=>out++gU nx (n+1) a out) out
 | [],out,a,h=>h.elim id fun h=>by cases h
 |b::L,out,a,h=>by
  refine RI L _ a ?_
  rcases h with h | h
  ·exact .inl (gN _ h)
  ·rcases eF.1 h with rfl | h
   ·exact .inl ZM
   ·exact .inr h
theorem Yv{n:Nat}{l:List bE}{fr:List Int}{a:Int}(h:0≤a∧a<n):a∈qa n l fr:=by
 refine RI _ _ a (.inr (jJ _ (dP.2 ⟨a.toNat,gm.2 (by omega),?_⟩)))
 omega
structure kh(n:Nat)(p:List Int):Prop where
 nd:p.Nodup
 rg:∀x∈p,0≤x∧x<(n:Int)
 all:∀x:Int,0≤x∧x<(n:Int)→x∈p
theorem kh.len{n:Nat}{p:List Int}(h:kh n p):p.length=n:=by
 have h1:=FZ n p h.nd h.rg
 have h2:((List.range n).map fun a:Nat=>(a:Int)).Nodup:=BA.2 (List.Pairwise.imp (fun h e=>h (Int.ofNat.inj e)) List.nodup_range)
 have h3:∀(A B:List Int),A.Nodup→(∀x∈A,x∈B)→A.length≤B.length:=by
  intro A
  induction A with
  |nil=>intro B _ _;exact bD _
  |cons a A ih=>
   intro B hn hs
   have hn:=mr.1 hn
   have ha:=hs a (ck ..)
   have:=ih (B.erase a) hn.2 fun x hx=>(Oi (fun e:x=a=>hn.1 (e▸hx))).2 (hs x (cW _ hx))
   rw[List.length_erase_of_mem ha]at this
   have:=E9 ha
   rw[iy];omega
 have h4:=h3 _ p h2 fun x hx=>by
  obtain⟨a,ha,rfl⟩:=dP.1 hx
  exact h.all _ ⟨by omega,by have:=gm.1 ha;omega⟩
 rw[cm,pN]at h4
 omega
theorem TR{n:Nat}{p:List Int}(h:kh n p):∀k,k≤n→∀i,i<k→(sh n p k).getD (p.getD i 0).toNat 0=(n:Int)-1-(i:Int)
 | 0,_,i,hi=>absurd hi (nR _)
 |k+1,hk,i,hi=>by
  have hl:=h.len
  have NF:k<p.length:=by omega
  have e:∀j,j<p.length→p.getD j 0∈p∧p[j]?=some (p.getD j 0):=fun j hj=>by
   have:p[j]?=some (p.getD j 0):=by rw[bg,bF hj];rfl
   exact⟨cq this,this⟩
  have hr:=h.rg _ (e k NF).1
  unfold sh
  rw[bg,e8]
  by_cases he:i=k
  ·subst he
   rw[ah rfl,ah (by rw[zK];omega)];rfl
  ·have dT:=h.rg _ (e i (by omega)).1
   have aS:¬(p.getD k 0).toNat=(p.getD i 0).toNat:=fun e2=>by
    have e3:p.getD k 0=p.getD i 0:=by omega
    have:=(List.getElem?_inj (i:=k) (j:=i) NF h.nd).1 ((e k NF).2.trans ((congrArg some e3).trans (e i (by omega)).2.symm))
    omega
   rw[ag aS,← bg]
   exact TR h k (by omega) i (by omega)
def y8(n:Nat)(p:List Int):List Int:=sh n p n
theorem adI{n:Nat}{p:List Int}(h:kh n p){i:Nat}{x:Int}(hi:p[i]?=some x):(y8 n p).getD x.toNat 0=(n:Int)-1-(i:Int):=by
 have hl:=(cg.1 hi).1
 rw[h.len]at hl
 have:=TR h n (a8 _) i hl
 rw[show p.getD i 0=x by rw[bg,hi];rfl]at this
 exact this
theorem aev(n:Nat)(l:List bE)(fr:List Int)(σ:Hp)(hl:l.length≤100000)(hf:fr.length≤100000)(dT:fq n l=true)(tM:∀x∈fr,0≤x∧x<(n:Int)):ACalls Tryz.prog 257 [.int .i64 n,.af dB l,.af (.int .i64) fr] σ (fun r σ'=>r=.tup [.af (.int .i64) (y8 n (qa n l fr)),.int .i64 0]∧σ'=σ∧kh n (qa n l fr)):=by
 have hn:1≤n∧n≤256:=by
  unfold fq at dT
  simp only[bR,decide_eq_true_eq]at dT
  omega
 refine az Tryz.func257 ?_
 refine .mk [] _ (afq n l fr _ hl hf dT tM) ?_
 rintro _ τ ⟨rfl,Ng,met,hP⟩
 subst τ
 have hA:kh n (qa n l fr):=⟨hP.nd,hP.rg,fun x hx=>Yv hx⟩
 have hlen:=hA.len
 generalize qa n l fr=p at hP hA hlen
 have hnT:((n:Nat):Int).toNat=n:=bM n
 refine aZ ?_
 intro bo
 refine cc (S:=Nat) (fun x=>[(0,.int .i64 n),(10,.ae bo 0 n 1),(25,.af (.int .i64) p),(26,.int .i64 p.length),(27,.int .i64 x)]) (fun x=>(bo,an (sh n p x))::σ) (fun x=>x≤p.length) (fun x=>p.length-x) 0 ⟨bD _,⟨rfl,rfl,rfl,rfl,rfl,trivial⟩,by rw[show an (sh n p 0)=cM [.int .i64 0] n from (x9 n).symm];rfl⟩ ?_
 intro k g hk
 have hk:k≤p.length:=hk
 refine aq (p:=(k:Int)<p.length) (fun ab=>?_) (fun au=>?_)
 ·have ab:k<p.length:=by omega
  have hx:=hA.rg _ (cj ab)
  have hlk:=zK n p k
  refine aI.mk rfl (bL.mk p[k] (by omega) (get_some ab) ?_)
  refine aM ?_
  have hv:IntKind.i64.wrap (IntKind.i64.wrap ((n:Int)-1)-(k:Int))=(n:Int)-1-(k:Int):=by rw[IntKind.wrap_i64,IntKind.wrap_i64];omega
  have k9:sh n p (k+1)=(sh n p k).set p[k].toNat ((n:Int)-1-(k:Int)):=by
   show (sh n p k).set (p.getD k 0).toNat _=_
   rw[bg,bF ab];rfl
  refine da 0 rfl (nk rfl _ hx.1 (by omega)) ?_
  exact bj (k+1) (by show p.length-(k+1)<p.length-k;omega) ab ⟨rfl,rfl,rfl,rfl,aY (by omega),trivial⟩ (aJ (by rw[hv,← k9];rfl))
 ·have au:k=p.length:=by omega
  subst au
  refine .cJ 0 bo 0 n 1 _ (.int .i64) (y8 n p) rfl (by rw[gM,eG (by rw[jy,zK,dO];exact a8 _),hlen];exact ui _) ⟨zK n p n,rfl,by decide⟩ (cE .here (.refl _)) (.done ⟨rfl,rfl,hA⟩)
set_option maxHeartbeats 4000000
theorem PN:∀{Q:List (List Int)},(∀p∈Q,0<p.length)→Q.length≤Q.flatten.length
 | [],_=>a8 _
 |p::Q,h=>by
  have ih:=PN (Q:=Q) fun q hq=>h q (cW _ hq)
  have:=h p (ck ..)
  rw[Bz,bP,iy]
  omega
set_option maxHeartbeats 4000000
theorem kh.rk{n:Nat}{p:List Int}(h:kh n p)(hn:n≤1000):tC n (y8 n p):=by
 have hl:=h.len
 have key:∀i:Nat,i<n→∃j:Nat,p[j]?=some (i:Int)∧j<n∧(y8 n p).getD i 0=(n:Int)-1-(j:Int):=fun i hi=>by
  obtain⟨j,hj⟩:=E3 (h.all i ⟨by omega,by omega⟩)
  have iw:=(cg.1 hj).1
  have:=adI h hj
  rw[bM]at this
  exact⟨j,hj,by omega,this⟩
 refine⟨zK n p n,fun i hi=>?_,fun i j hi hj e=>?_⟩
 ·obtain⟨k,_,hk,e⟩:=key i hi
  omega
 ·obtain⟨k,h1,_,e1⟩:=key i hi
  obtain⟨m,h2,_,e2⟩:=key j hj
  have:k=m:=by omega
  subst this
  rw[h1]at h2
  have:=Option.some.inj h2
  omega
def yA(n:Nat)(p:List Int):List (mY n):=p.filterMap fun x=>if h:0≤x∧x<(n:Int) then some ⟨x,h⟩ else none
theorem FR{n:Nat}:∀{p:List Int},(∀x∈p,0≤x∧x<(n:Int))→jD (yA n p)=p
 | [],_=>rfl
 |x::p,h=>by
  have hx:=h x (ck ..)
  have ih:=FR (p:=p) fun y hy=>h y (cW _ hy)
  unfold yA at ih ⊢
  rw[List.filterMap_cons,dif_pos hx]
  show x::jD _=_
  rw[ih]
def fk(n:Nat)(rk:List Int)(p:List Int):List Int:=jD (uI rk (yA n p))
theorem Qs{n:Nat}{rk p:List Int}(h:∀x∈p,0≤x∧x<(n:Int)):(fk n rk p).Perm p:=by
 have h1:(jD (uI rk (yA n p))).Perm (jD (yA n p)):=List.Perm.map _ (List.mergeSort_perm _ _)
 rw[FR h]at h1
 exact h1
theorem Wp{n:Nat}{rk p:List Int}(h:∀x∈p,0≤x∧x<(n:Int)):(fk n rk p).length=p.length:=(Qs h).length_eq
def oG(n:Nat)(l:List bE)(fr:List Int):List Int:=(kl n l).flatMap (fk n (y8 n (qa n l fr)))
def qp(n:Nat)(rk:List Int)(rw:List (Nat×List Int))(k:Nat):List (Nat×List Int):=(rw.take k).map (fun r=>(r.1,fk n rk r.2))++rw.drop k
theorem abb(n:Nat)(rk:List Int)(b bk:Nat)(p:List Int)(σ:Hp)(hr:tC n rk)(hp:∀x∈p,0≤x∧x<(n:Int))(h0:0<p.length)(hl:p.length≤1000000):ACalls Tryz.prog 259 [.ae b 0 p.length 1,.fn (.func 260) [] [.ptr bk 0]] ((b,an p)::(bk,[.af (.int .i64) rk])::σ) (aE (.tup []) ((b,an (fk n rk p))::(bk,[.af (.int .i64) rk])::σ)):=by
 obtain⟨x,hx⟩:∃x,x∈p:=by
  match p,h0 with
  |x::_,_=>exact⟨x,ck ..⟩
 haveI:Inhabited (mY n):=⟨⟨x,hp x hx⟩⟩
 have e:(yA n p).length=p.length:=by
  have:=congrArg List.length (FR hp)
  rw[BO]at this
  exact this
 have h:=Zx n rk b bk (yA n p) p.length σ hr e h0 hl
 rw[FR hp]at h
 exact h
theorem adE{n:Nat}{rk:List Int}{rw:List (Nat×List Int)}{k b:Nat}{p:List Int}(h:rw[k]?=some (b,p)):(qp n rk rw k)[k]?=some (b,p)∧(qp n rk rw (k+1))[k]?=some (b,fk n rk p):=by
 have hk:=(cg.1 h).1
 have hg:rw[k]=(b,p):=(cg.1 h).2
 have hl:((rw.take k).map (fun r=>(r.1,fk n rk r.2))).length=k:=by rw[cm,zq];omega
 refine⟨?_,?_⟩
 ·unfold qp
  rw[iX (by omega),hl,pL,zt,vO]
  exact h
 ·unfold qp
  rw[fL hk,cO,hg,dQ,iX (by omega),hl,pL]
  rfl
theorem Yl{n:Nat}{rk:List Int}{rw:List (Nat×List Int)}{k b:Nat}{p:List Int}(h:rw[k]?=some (b,p)):qp n rk rw k=(rw.take k).map (fun r=>(r.1,fk n rk r.2))++(b,p)::rw.drop (k+1)∧qp n rk rw (k+1)=(rw.take k).map (fun r=>(r.1,fk n rk r.2))++(b,fk n rk p)::rw.drop (k+1):=by
 have hk:=(cg.1 h).1
 have hg:rw[k]=(b,p):=(cg.1 h).2
 refine⟨?_,?_⟩
 ·unfold qp
  rw[Jw hk,hg]
 ·unfold qp
  rw[fL hk,cO,hg,dQ]
  rfl
theorem RB(A B:List (Nat×List Int))(b:Nat)(p:List Int)(x:Nat×List AV)(X σ:Hp):((b,an p)::x::(X++(eP A++(eP B++σ)))).Perm (x::(X++(eP (A++(b,p)::B)++σ))):=by
 have e:eP (A++(b,p)::B)++σ=eP A++((b,an p)::(eP B++σ)):=by
  unfold eP
  rw[cO,dQ];rfl
 rw[e]
 refine (List.Perm.swap _ _ _).trans (List.Perm.cons _ ?_)
 exact (nS.symm).trans (List.Perm.append_left X nS.symm)
theorem kh.perm{n:Nat}{p q:List Int}(h:kh n p)(hp:q.Perm p):kh n q:=⟨hp.nodup_iff.2 h.nd,fun x hx=>h.rg x (hp.mem_iff.1 hx),fun x hx=>hp.mem_iff.2 (h.all x hx)⟩
theorem QY{n:Nat}{rk:List Int}:∀{Q:List (List Int)},(∀p∈Q,∀x∈p,0≤x∧x<(n:Int))→(Q.flatMap (fk n rk)).Perm Q.flatten
 | [],_=>List.Perm.nil
 |p::Q,h=>by
  rw[zr,Bz]
  exact (Qs (h p (ck ..))).append (QY fun q hq=>h q (cW _ hq))
theorem oI.flat{n:Nat}{l:List bE}{P Q:List (List Int)}(h:oI n l P)(hp:Q.Perm P):(∀p∈Q,p≠[])∧(∀p∈Q,∀x∈p,0≤x∧x<(n:Int))∧kh n Q.flatten:=by
 have hn:∀p∈Q,∀x∈p,0≤x∧x<(n:Int):=fun p hq=>h.ok.node p (hp.mem_iff.1 hq)
 refine⟨fun p hq=>h.ok.ne p (hp.mem_iff.1 hq),hn,(hp.flatten).nodup_iff.2 h.ok.nd,fun x hx=>?_,fun x hx=>?_⟩
 ·obtain⟨p,hq,rq⟩:=oT.1 hx
  exact hn p hq x rq
 ·obtain⟨p,hq,rq⟩:=h.all x hx.1 hx.2
  exact oT.2 ⟨p,hp.mem_iff.2 hq,rq⟩
theorem PQ:∀{Q:List (List Int)},(∀p∈Q,p≠[])→Q.length≤Q.flatten.length
 | [],_=>a8 _
 |p::Q,h=>by
  have ih:=PQ (Q:=Q) fun q hq=>h q (cW _ hq)
  have:=mW.2 (h p (ck ..))
  rw[Bz,bP,iy]
  omega
theorem adj(n:Nat)(l:List bE)(fr:List Int)(σ:Hp)(hl:l.length≤100000)(hf:fr.length≤100000)(dT:fq n l=true)(tM:∀x∈fr,0≤x∧x<(n:Int)):ACalls Tryz.prog 215 [.int .i64 n,.af dB l,.af (.int .i64) fr] σ (fun r σ'=>∃bo,r=.tup [.ae bo 0 (oG n l fr).length 1,.int .i64 0]∧σ'=(bo,an (oG n l fr))::σ∧kh n (oG n l fr)∧(∀p∈kl n l,p≠[])∧kh n (kl n l).flatten∧kh n (qa n l fr)):=by
 have hn:1≤n∧n≤256:=by
  unfold fq at dT
  simp only[bR,decide_eq_true_eq]at dT
  omega
 refine az Tryz.func215 ?_
 refine .mk [] _ (aev n l fr _ hl hf dT tM) ?_
 rintro _ τ ⟨rfl,Ng,hA⟩
 subst τ
 have hR:=hA.rk (by omega)
 intro b8
 refine ai 0 ?_
 refine .mk [] _ (ad9 n l _ hl dT) ?_
 rintro _ _ ⟨bo,eO,rfl,mM,rfl,P,cH,Er⟩
 obtain⟨aS,qd,gl⟩:=cH.flat Er
 have ER:kh n (oG n l fr):=gl.perm (QY qd)
 unfold oG at ER ⊢
 generalize y8 n (qa n l fr)=rk at hR ER
 generalize kl n l=Q at mM aS qd ER gl
 have hQl:eO.length=Q.length:=by rw[← mM,cm]
 have hlen:=ER.len
 have afS:∀p∈Q,p.length≤n:=fun p hp=>by
  have h1:p.Sublist Q.flatten:=List.sublist_flatten_of_mem hp
  have:=h1.length_le
  have:=gl.len
  omega
 have US:eO.length≤n:=by
  have:=PQ aS
  have:=gl.len
  omega
 have h0:qp n rk eO 0=eO:=by simp[qp]
 have hH:((b8,[AV.af (.int .i64) rk])::(bo,fh eO)::(eP eO++([]++σ))).Perm ((bo,fh eO)::(eP eO++((b8,[AV.af (.int .i64) rk])::σ))):=
  (List.Perm.swap _ _ _).trans (List.Perm.cons _ nS.symm)
 refine .wrap 11 .aj rfl rfl ?_
 refine .dI (.perm hH (.refl _)) ?_
 refine cc (S:=Nat×AV×Hp) (fun x=>[(8,.ptr b8 0),(9,.int .i64 0),(11,.via x.2.1),(30,.ae bo 0 eO.length 1),(31,.int .i64 eO.length),(32,.int .i64 x.1)]) (fun x=>(b8,[.af (.int .i64) rk])::(bo,fh eO)::(eP (qp n rk eO x.1)++(x.2.2++σ))) (fun x=>x.1≤eO.length∧Acc 1 ((Q.take x.1).flatMap (fk n rk)).length x.2.1 x.2.2 (an ((Q.take x.1).flatMap (fk n rk)))) (fun x=>eO.length-x.1) (0,.aj,[]) ⟨⟨bD _,.nil⟩,⟨rfl,rfl,rfl,rfl,rfl,rfl,trivial⟩,by rw[h0]⟩ ?_
 rintro⟨k,v,acc⟩ g ⟨hk,b9⟩
 have hk:k≤eO.length:=hk
 have b9:Acc 1 ((Q.take k).flatMap (fk n rk)).length v acc (an ((Q.take k).flatMap (fk n rk))):=b9
 refine aq (p:=(k:Int)<eO.length) (fun ab=>?_) (fun au=>?_)
 ·have ab:k<eO.length:=by omega
  obtain⟨p,hp⟩:∃p,Q[k]?=some p:=⟨Q[k]'(by omega),bF (by omega)⟩
  obtain⟨bk,pI⟩:=C6 mM hp
  have gj:=cq hp
  have IP:=qd p gj
  have tI:=mW.2 (aS p gj)
  have sy:=afS p gj
  have dg:=Wp (rk:=rk) IP
  obtain⟨s1,s2⟩:=Yl (n:=n) (rk:=rk) pI
  have fK:Q.take (k+1)=Q.take k++[p]:=by
   rw[fL (by omega)]
   rw[bF (by omega)]at hp
   rw[Option.some.inj hp]
  have nO:((Q.take k).flatMap (fk n rk)).length+p.length≤n:=by
   have e:Q.flatMap (fk n rk)=(Q.take (k+1)).flatMap (fk n rk)++(Q.drop (k+1)).flatMap (fk n rk):=by rw[← vT,E7]
   have:=congrArg List.length e
   rw[fK,List.flatMap_append,List.length_append,List.length_append,show [p].flatMap (fk n rk)=fk n rk p by simp]at this
   omega
  refine aM ?_
  refine aT 1 rfl (CX rfl (by omega) (by rw[bM];exact pI)) ?_
  rw[s1]
  refine .perm _ (RB _ _ bk p (b8,[.af (.int .i64) rk]) [(bo,fh eO)] (acc++σ)) (abb n rk bk b8 p _ hR IP tI (by omega)) ?_
  rintro _ _ ⟨rfl,rfl⟩
  refine⟨_,(RB _ _ bk (fk n rk p) (b8,[.af (.int .i64) rk]) [(bo,fh eO)] (acc++σ)).symm,?_⟩
  rw[← s2]
  have cx:=(adE (n:=n) (rk:=rk) pI).2
  refine ic (_::_::eP (qp n rk eO (k+1))) b9 (.ae (k+2) bk 0 p.length (an (fk n rk p)) (G5 cx) (by rw[jy,dg];show 0+p.length*1≤_;omega)) ?_ (by omega) (by decide) (by decide) (fun v' aU h'=>?_)
  ·show (List.take (p.length*1) (List.drop 0 (an (fk n rk p)))).length=p.length*1
   rw[zq,List.length_drop,jy,dg];omega
  ·refine bj (k+1,v',aU) (by show eO.length-(k+1)<eO.length-k;omega) ⟨ab,?_⟩ ⟨rfl,rfl,rfl,rfl,rfl,aY (by omega),trivial⟩ (.refl _)
   have e:List.take (p.length*1) (List.drop 0 (an (fk n rk p)))=an (fk n rk p):=by rw[gM,eG (by rw[jy,dg];omega)]
   have h2:Acc 1 (((Q.take k).flatMap (fk n rk)).length+p.length) v' aU (an ((Q.take k).flatMap (fk n rk))++List.take (p.length*1) (List.drop 0 (an (fk n rk p)))):=h'
   rw[e,← dg,← bP,show an ((Q.take k).flatMap (fk n rk))++an (fk n rk p)=an ((Q.take k).flatMap (fk n rk)++fk n rk p) by unfold an;rw[cO]]at h2
   show Acc 1 ((Q.take (k+1)).flatMap (fk n rk)).length v' aU (an ((Q.take (k+1)).flatMap (fk n rk)))
   rw[fK,List.flatMap_append,show [p].flatMap (fk n rk)=fk n rk p by simp]
   exact h2
 ·have au:¬(k:Int)<eO.length:=au
  rw[eG (by omega)]at b9
  obtain⟨b,rfl,rfl⟩:=sU (by omega) b9
  exact .drop 0 2 (XL (eP (qp n rk eO k)) (.done ⟨b,rfl,rfl,ER,aS,gl,hA⟩))
end Go.Proofs.YtnikdflhefijbaaGreat
