import Derived.Test.YtnikdflhefijbaaGreatBp17
import Derived.Shelf.SlSortCmp.NoneTotal
import Derived.Test.YtnikdflhefijbaaGreatBp7
import Derived.Test.YtnikdflhefijbaaGreatBp10
import Derived.Test.YtnikdflhefijbaaGreatBp11
import Derived.Test.YtnikdflhefijbaaGreatBp16
import Derived.Test.YtnikdflhefijbaaGreatBp9
namespace Go.Proofs.YtnikdflhefijbaaGreat
open Go.RowKit
set_option maxRecDepth 100000
set_option maxHeartbeats 4000000
theorem DO{P:List (List Int)}{rw:List (Nat×List Int)}{i:Nat}{p:List Int}(h:rw.map Prod.snd=P)(hp:P[i]?=some p):∃b,rw[i]?=some (b,p):=by
 rw[← h,eU]at hp
 cases hr:rw[i]? with
 |none=>rw[hr]at hp;cases hp
 |some r=>rw[hr]at hp;cases hp;exact⟨r.1,rfl⟩
theorem DF{i:TI}(hw:i.wide=false){rw:List (Nat×List Int)}{z:Int}{b:Nat}{p:List Int}(_hz:0≤z)(h:rw[z.toNat]?=some (b,p)):dP i (fg rw) (0+z.toNat*1)=some (.ae b 0 p.length 1):=
 iY hw (by rw[dK,eo];unfold fg;rw[eU,h];rfl)
theorem HH{rw:List (Nat×List Int)}{i b:Nat}{p:List Int}{σ:Hp}(h:rw[i]?=some (b,p)):(eM rw++σ)[i]?=some (b,ak p):=by
 have hi:i<(eM rw).length:=by unfold eM;rw[cb];exact (bQ.1 h).1
 rw[jG hi]
 unfold eM
 rw[eU,h];rfl
theorem RR{p:List Int}{x:Int}(h:p[((0:Int)).toNat]?=some x):p.getD ((0:Int)).toNat 0=x:=by rw[aR,h];rfl
theorem QD:∀{ro:List (Nat×List Int)},(ro.map Prod.snd).flatten.Nodup→(∀r∈ro,r.2≠[])→ro.Nodup
 | [],_,_=>Pp
 |r::ro,h,aO=>by
  have h:(r.2++(ro.map Prod.snd).flatten).Nodup:=h
  have h:=oZ.1 h
  refine lp.2 ⟨fun hm=>?_,QD h.2.1 fun q hq=>aO q (cE _ hq)⟩
  obtain⟨x,hx⟩:=List.exists_mem_of_ne_nil _ (aO r (bV ..))
  exact h.2.2 x hx x (oX.2 ⟨r.2,cY.2 ⟨r,hm,rfl⟩,hx⟩) rfl
theorem Qb{α:Type}[DecidableEq α]:∀{A B:List α},A.Nodup→(∀x∈A,x∈B)→B.length≤A.length→A.Perm B
 | [],B,_,_,h=>by rw[iS.1 (Nat.le_zero.1 h)]
 |a::A,B,hn,hs,hl=>by
  have hn:=lp.1 hn
  have ha:=hs a (bV ..)
  have hp:=List.perm_cons_erase ha
  have hle:=hp.length_eq
  refine (List.Perm.cons a (Qb hn.2 (fun x hx=>?_) ?_)).trans hp.symm
  ·exact (FR (fun e:x=a=>hn.1 (e▸hx))).2 (hs x (cE _ hx))
  ·rw[fO]at hle hl;omega
theorem aaU(n:Nat)(l:List bg)(P:List (List Int))(rw:List (Nat×List Int))(bq:Nat)(σ:Hp)(h:oL n l P)(mO:rw.map Prod.snd=P)(uJ:0<P.length)(hl:l.length≤100000)(hn:n≤1000)(hr:∀e∈l,(0≤e.1∧e.1<(n:Int))∧0≤e.2.1∧e.2.1<(n:Int)):
  ACalls Tryz.prog 291 [.int .i64 n,.ai dG l,.ae bq 0 P.length 1] ((bq,fg rw)::(eM rw++σ)) (fun r σ'=>∃bo eL,r=.ae bo 0 eL.length 1∧eL.map Prod.snd=kd n l∧σ'=(bo,fg eL)::(eM eL++σ)∧(kd n l).Perm P):=by
 have wF:rw.length=P.length:=by rw[← mO,cb]
 obtain⟨sW,hpf⟩:=CO h.ok
 have hNt:((n:Nat):Int).toNat=n:=bU n
 refine aA Tryz.func291 ?_
 intro bl
 refine aU ?_
 intro bw
 intro bW
 refine an 0 ?_
 refine cj (S:=Nat) (fun k=>[(2,.ae bq 0 P.length 1),(4,.ptr bl 0),(7,.ptr bW 0),(20,.ae bq 0 P.length 1),(21,.int .i64 P.length),(22,.int .i64 k)]) (fun k=>(bW,[.ae bw 0 n 1])::(bw,ak (mI P k (List.replicate n 0)))::(bl,[.ai dG l])::(bq,fg rw)::(eM rw++σ)) (fun k=>k≤P.length) (fun k=>P.length-k) 0 ⟨bK _,⟨rfl,rfl,rfl,rfl,rfl,rfl,trivial⟩,by rw[show ak (mI P 0 (List.replicate n 0))=cz [.int .i64 0] n from (yX n).symm];rfl⟩ ?_
 intro k g bD
 have hk:k≤P.length:=bD
 clear bD
 refine aq (p:=(k:Int)<P.length) (fun ab=>?_) (fun ay=>?_)
 ·have ab:k<P.length:=by omega
  obtain⟨p,hp⟩:∃p,P[k]=p:=⟨_,rfl⟩
  have eT:P[k]?=some p:=(bc ab).trans (congrArg some hp)
  have sV:=h.ok.node p (bH eT)
  have ahI:p.length≤n:=CQ n p ((h.ok.BH p (bH eT)).imp fun h=>by omega) sV
  have rY:=Cy P k (List.replicate n 0)
  rw[fZ]at rY
  have rQ:mI P (k+1) (List.replicate n 0)=kV k p (mI P k (List.replicate n 0)):=by show kV k (P.getD k []) _=_;rw[vC eT]
  generalize mI P k (List.replicate n 0)=W at rY rQ
  obtain⟨bk,ym⟩:=DO mO eT
  refine aK ?_
  refine aT 3 rfl (DF rfl (by omega) (by rw[bU];exact ym)) ?_
  refine cj (S:=Nat) (fun j=>[(2,.ae bq 0 P.length 1),(4,.ptr bl 0),(7,.ptr bW 0),(8,.int .i64 k),(20,.ae bq 0 P.length 1),(21,.int .i64 P.length),(22,.int .i64 k),(27,.ae bk 0 p.length 1),(28,.int .i64 p.length),(29,.int .i64 j)]) (fun j=>(bW,[.ae bw 0 n 1])::(bw,ak (kV k (p.take j) W))::(bl,[.ai dG l])::(bq,fg rw)::(eM rw++σ)) (fun j=>j≤p.length) (fun j=>p.length-j) 0 ⟨bK _,⟨rfl,rfl,rfl,rfl,rfl,rfl,rfl,rfl,rfl,rfl,trivial⟩,rfl⟩ ?_
  intro j g2 mS
  have hj:j≤p.length:=mS
  clear mS
  refine aq (p:=(j:Int)<p.length) (fun fG=>?_) (fun pN=>?_)
  ·have fG:j<p.length:=by omega
   obtain⟨a,ha⟩:∃a,p[j]=a:=⟨_,rfl⟩
   have s5:=sV a (ha▸cD fG)
   have ao:(kV k (p.take j) W).set a.toNat k=kV k (p.take (j+1)) W:=by unfold kV;rw[fQ fG,ha,sa];rfl
   have sR:=Gm k (p.take j) W
   refine aK ?_
   refine eO.mk (k+4) _ _ (HH ym) (e9 rfl (by omega) (by omega)) ?_
   rw[bU,show p.getD j 0=a by rw[aR,bc fG,ha];rfl]
   refine aa 0 ?_
   refine aK ?_
   refine cU 1 rfl (nk rfl _ s5.1 (by omega)) ?_
   exact aZ (j+1) (by show p.length-(j+1)<p.length-j;omega) fG ⟨rfl,rfl,rfl,rfl,rfl,rfl,rfl,rfl,rfl,bu (by omega),trivial⟩ (aJ (by rw[← ao];rfl))
  ·have pN:j=p.length:=by omega
   subst pN
   exact aZ (k+1) (by show P.length-(k+1)<P.length-k;omega) ab ⟨rfl,rfl,rfl,rfl,rfl,bu (by omega),trivial⟩ (aJ (by rw[ig,rQ]))
 ·have ay:k=P.length:=by omega
  subst ay
  have OQ:∀j:Nat,j<n→0≤(bf n P).getD j 0∧(bf n P).getD j 0<(P.length:Int):=fun j hj=>by
   obtain⟨i,p,hi,_,hw⟩:=h.idx (x:=(j:Int)) (by omega)
   rw[bU]at hw
   have:=yR hi
   rw[hw];omega
  have rY:=Qs n P
  have Ev:=fun k hk=>(Hn h hr k hk)
  have xX:=MC h hr
  have aO:∀(i:Nat) (p:List Int),P[i]?=some p→p[((0:Int)).toNat]?=some (ir P i):=fun i p hi=>by
   unfold ir
   rw[vC hi]
   exact Uw (mm.2 (h.ok.ne p (bH hi)))
  rw[show mI P P.length (List.replicate n 0)=bf n P from rfl]
  refine aH.mk ⟨by omega,by omega,by show ((P.length:Nat):Int)≤1048576;omega,by decide⟩ ?_
  intro bt
  intro bT
  refine an 0 ?_
  obtain⟨m,hm⟩:∃m,P.length=m:=⟨_,rfl⟩
  refine .wrap 14 _ rfl rfl ?_
  refine .dM (.pull [0,2,3,3] (.refl _)) ?_
  refine cj (S:=Nat×(AV×Hp)×List (Nat×List Int)) (fun x=>[(2,.ae bq 0 P.length 1),(12,.ptr bT 0),(13,.fn (.func 316) [] [.ptr bT 0,.ptr bl 0,.ptr bW 0]),(14,.via x.2.1.1),(44,.int .i64 P.length),(45,.int .i64 x.1)]) (fun x=>(bT,[.ae bt 0 P.length 1])::(bW,[.ae bw 0 n 1])::(bw,ak (bf n P))::(bt,bE (dB P l (bf n P) x.1).1)::(bl,[.ai dG l])::(bq,fg rw)::(eM rw++(x.2.1.2++σ))) (fun x=>x.1≤P.length∧Acc 1 x.1 x.2.1.1 x.2.1.2 (fg x.2.2)∧x.2.2.map Prod.snd=(dB P l (bf n P) x.1).2∧∀r∈x.2.2,r∈rw) (fun x=>P.length-x.1) (0,(.aj,[]),[]) ⟨⟨Nat.zero_le _,.nil,rfl,fun r hr=>absurd hr (by simp)⟩,⟨rfl,rfl,rfl,rfl,rfl,rfl,trivial⟩,by rw[show bE (dB P l (bf n P) 0).1=cz [.bool false] P.length from (Di P.length).symm];rfl⟩ ?_
  rintro⟨k,⟨v,acc⟩,ro⟩ g2 ⟨bD,mE,WC,V0⟩
  have hk:k≤P.length:=bD
  have cC:Acc 1 k v acc (fg ro):=mE
  have mN:ro.map Prod.snd=(dB P l (bf n P) k).2:=WC
  have l9:∀r∈ro,r∈rw:=V0
  clear bD mE WC V0
  refine aq (p:=(k:Int)<P.length) (fun ab=>?_) (fun ay=>?_)
  ·have ab:k<P.length:=by omega
   obtain⟨hO,zp,_⟩:=Ev k hk
   obtain⟨b,hb,oS⟩:=zp ab
   have Fk:=hO.tl
   have fh:(dB P l (bf n P) (k+1)).1=(dB P l (bf n P) k).1.set b true:=by
    show (dB P l (bf n P) k).1.set (fk P l (bf n P) (dB P l (bf n P) k).1 P.length).toNat true=_
    rw[hb,bU]
   have gy:(dB P l (bf n P) (k+1)).2=(dB P l (bf n P) k).2++[P.getD b []]:=by
    show (dB P l (bf n P) k).2++[P.getD (fk P l (bf n P) (dB P l (bf n P) k).1 P.length).toNat []]=_
    rw[hb,bU]
   generalize (dB P l (bf n P) k).1=T at hb Fk fh
   rw[← mN]at gy
   clear hO zp
   have NR:=Gw P l (bf n P) T
   refine cj (S:=Nat) (fun i=>[(2,.ae bq 0 P.length 1),(12,.ptr bT 0),(13,.fn (.func 316) [] [.ptr bT 0,.ptr bl 0,.ptr bW 0]),(14,.via v),(15,.int .i64 (fk P l (bf n P) T i)),(44,.int .i64 P.length),(45,.int .i64 k),(47,.ae bq 0 P.length 1),(48,.int .i64 P.length),(49,.int .i64 i)]) (fun _=>(bT,[.ae bt 0 P.length 1])::(bW,[.ae bw 0 n 1])::(bw,ak (bf n P))::(bt,bE T)::(bl,[.ai dG l])::(bq,fg rw)::(eM rw++(acc++σ))) (fun i=>i≤P.length) (fun i=>P.length-i) 0 ⟨bK _,⟨rfl,rfl,rfl,rfl,rfl,rfl,rfl,rfl,rfl,rfl,trivial⟩,rfl⟩ ?_
   intro i g3 fi
   have hi:i≤P.length:=fi
   clear fi
   refine aq (p:=(i:Int)<P.length) (fun fG=>?_) (fun pN=>?_)
   ·have fG:i<P.length:=by omega
    obtain⟨p,hp⟩:∃p,P[i]=p:=⟨_,rfl⟩
    have eT:P[i]?=some p:=(bc fG).trans (congrArg some hp)
    have wN:=fun ρ=>Wk bW bw bl bT bt n P.length l (bf n P) T i ρ hl (by omega) hr rY Fk OQ
    have eE:fk P l (bf n P) T (i+1)=if nr l (bf n P) T i=true∧(fk P l (bf n P) T i<0∨ir P i<ir P (fk P l (bf n P) T i).toNat) then (i:Int) else fk P l (bf n P) T i:=rfl
    have Fj:=NR i
    obtain⟨bi,hbi⟩:=DO mO eT
    have uA:0<p.length:=mm.2 (h.ok.ne p (bH eT))
    refine aK ?_
    refine aT 5 rfl (DF rfl (by omega) (by rw[bU];exact hbi)) ?_
    cases hf:nr l (bf n P) T i with
    |false=>
     rw[hf]at wN eE
     rw[ah (fun h=>by cases h.1)]at eE
     refine .quiet (by kernel_rfl) ?_
     refine aI [] (wN _) ?_
     exact aZ (i+1) (by show P.length-(i+1)<P.length-i;omega) fG ⟨rfl,rfl,rfl,rfl,by rw[eE];rfl,rfl,rfl,rfl,rfl,bu (by omega),trivial⟩ (.refl _)
    |true=>
     rw[hf]at wN eE
     refine .quiet (by kernel_rfl) ?_
     refine aI [] (wN _) ?_
     refine aq (p:=fk P l (bf n P) T i<0) (fun c1=>?_) (fun c1=>?_)
     ·rw[ag ⟨rfl,.inl c1⟩]at eE
      exact aZ (i+1) (by show P.length-(i+1)<P.length-i;omega) fG ⟨rfl,rfl,rfl,rfl,by rw[eE];rfl,rfl,rfl,rfl,rfl,bu (by omega),trivial⟩ (.refl _)
     ·obtain⟨b2,e2,l2,_⟩:=Fj.resolve_left fun h=>c1 (by rw[h.1];decide)
      obtain⟨p2,dz⟩:∃p,P[b2]?=some p:=⟨P[b2],bc (by omega)⟩
      have WH:P[(fk P l (bf n P) T i).toNat]?=some p2:=by rw[e2,bU];exact dz
      have Jy:0≤fk P l (bf n P) T i:=by omega
      rw[e2,bU,← e2]at eE
      obtain⟨bb,s4⟩:=DO mO dz
      have hp20:0<p2.length:=mm.2 (h.ok.ne p2 (bH dz))
      refine aH.mk ⟨rfl,by decide,by omega⟩ ?_
      refine eO.mk (i+6) _ _ (HH hbi) (e9 rfl (by decide) (by omega)) ?_
      refine aK ?_
      refine aT 5 rfl (DF rfl (by omega) (by rw[e2,bU];exact s4)) ?_
      refine aH.mk ⟨rfl,by decide,by omega⟩ ?_
      refine eO.mk (b2+6) _ _ (HH s4) (e9 rfl (by decide) (by omega)) ?_
      rw[show p.getD (0:Int).toNat 0=ir P i from RR (aO i p eT),show p2.getD (0:Int).toNat 0=ir P b2 from RR (aO b2 p2 dz)]
      refine aq (p:=ir P i<ir P b2) (fun c2=>?_) (fun c2=>?_)
      ·rw[ag ⟨rfl,.inr c2⟩]at eE
       exact aZ (i+1) (by show P.length-(i+1)<P.length-i;omega) fG ⟨rfl,rfl,rfl,rfl,by rw[eE];rfl,rfl,rfl,rfl,rfl,bu (by omega),trivial⟩ (.refl _)
      ·rw[ah (fun h=>h.2.elim c1 c2)]at eE
       exact aZ (i+1) (by show P.length-(i+1)<P.length-i;omega) fG ⟨rfl,rfl,rfl,rfl,by rw[eE];rfl,rfl,rfl,rfl,rfl,bu (by omega),trivial⟩ (.refl _)
   ·have pN:i=P.length:=by omega
    subst pN
    refine aa 0 ?_
    refine aK ?_
    refine cU 3 rfl (yV rfl true (by omega) (by omega)) ?_
    obtain⟨pb,qO⟩:∃p,P[b]?=some p:=⟨P[b],bc oS⟩
    obtain⟨bb,s4⟩:=DO mO qO
    rw[vC qO]at gy
    refine aK ?_
    refine aT 5 rfl (DF rfl (by omega) (by rw[hb,bU];exact s4)) ?_
    intro bs
    refine my (_::_::_::_::_::_::_::eM rw) cC (.ae 0 bs 0 1 _ rfl (cT rfl)) rfl (by omega) (by decide) (by decide) (fun v' bN h'=>?_)
    refine aZ (k+1,(v',bN),ro++[(bb,pb)]) (by show P.length-(k+1)<P.length-k;omega) ⟨ab,?_,?_,fun r hr=>?_⟩ ⟨rfl,rfl,rfl,rfl,rfl,bu (by omega),trivial⟩ (.drop 0 1 (aJ (by rw[fh,hb,bU];rfl)))
    ·show Acc 1 (k+1) v' bN (fg (ro++[(bb,pb)]))
     rw[show fg (ro++[(bb,pb)])=fg ro++[.ae bb 0 pb.length 1] from cM];exact h'
    ·show (ro++[(bb,pb)]).map Prod.snd=(dB P l (bf n P) (k+1)).2
     rw[gy,cM];rfl
    ·rcases bP.1 hr with hr | hr
     ·exact l9 r hr
     ·rw[a8.1 hr];exact bH s4
  ·have ay:k=P.length:=by omega
   subst ay
   have hOI:=(Ev P.length (aM _)).1
   have nP:=hOI.ol
   have bZ:=hOI.nd
   rw[← mN]at nP bZ
   rw[xX]at mN
   rw[cb]at nP
   have ahL:∀r∈ro,r.2≠[]:=fun r hr=>h.ok.ne r.2 (by rw[← mO];exact cY.2 ⟨r,l9 r hr,rfl⟩)
   have agM:ro.Nodup:=QD bZ ahL
   have oq:ro.Perm rw:=Qb agM l9 (by omega)
   obtain⟨bo,rfl,rfl⟩:=tz (by omega) cC
   have hH:((bo,fg ro)::(eM ro++σ)).Perm (eM rw++([(bo,fg ro)]++σ)):=by
    refine (List.Perm.cons _ (List.Perm.append_right σ (List.Perm.map _ oq))).trans nU.symm
   exact .drop 0 6 (.perm hH (.done ⟨bo,ro,by rw[nP];rfl,mN,rfl,by rw[← mN,← mO];exact List.Perm.map _ oq⟩))
set_option maxHeartbeats 4000000
theorem aeN(n:Nat)(l:List bg)(σ:Hp)(hl:l.length≤100000)(dW:fu n l=true):ACalls Tryz.prog 258 [.int .i64 n,.ai dG l] σ (fun r σ'=>∃bo eL,r=.tup [.ae bo 0 eL.length 1,.int .i64 0]∧eL.map Prod.snd=kd n l∧σ'=(bo,fg eL)::(eM eL++σ)∧∃P,oL n l P∧(kd n l).Perm P):=by
 have hn:1≤n∧n≤256:=by
  unfold fu at dW
  simp only[bL,decide_eq_true_eq]at dW
  omega
 have B2:∀e∈l,(0≤e.1∧e.1<(n:Int))∧0≤e.2.1∧e.2.1<(n:Int):=fun e he=>by
  unfold fu at dW
  simp only[bL,fp]at dW
  have:=dW.2 e he
  exact⟨kM.1 this.1,kM.1 this.2⟩
 refine aA Tryz.func258 ?_
 refine fM [] (DK n l _ (by omega)) (fun _=>?_) (fun c=>absurd c (by rw[dW];decide))
 refine gN.M4 (S:=Nat×Nat×Nat×Nat) [] (.one 0 false (.one 2 false (.one 4 false (.alt 1 (.alt 3 (.alt 5 (.one 6 false (.one 7 false (.one 8 false .stop))) (.one 7 false (.one 5 false (.one 6 false (.one 8 false .stop))))) (.alt 5 (.alt 3 (.one 6 false (.one 7 false (.one 8 false .stop))) (.one 7 false (.one 3 false (.one 6 false (.one 8 false .stop))))) (.one 7 false (.alt 3 (.one 5 false (.one 6 false (.one 8 false .stop))) (.one 5 false (.one 3 false (.one 6 false (.one 8 false .stop)))))))) (.alt 3 (.alt 1 (.alt 5 (.one 6 false (.one 7 false (.one 8 false .stop))) (.one 7 false (.one 5 false (.one 6 false (.one 8 false .stop))))) (.alt 5 (.alt 1 (.one 6 false (.one 7 false (.one 8 false .stop))) (.one 7 false (.one 1 false (.one 6 false (.one 8 false .stop))))) (.one 7 false (.alt 1 (.one 5 false (.one 6 false (.one 8 false .stop))) (.one 5 false (.one 1 false (.one 6 false (.one 8 false .stop)))))))) (.alt 5 (.alt 1 (.alt 3 (.one 6 false (.one 7 false (.one 8 false .stop))) (.one 7 false (.one 3 false (.one 6 false (.one 8 false .stop))))) (.alt 3 (.alt 1 (.one 6 false (.one 7 false (.one 8 false .stop))) (.one 7 false (.one 1 false (.one 6 false (.one 8 false .stop))))) (.one 7 false (.alt 1 (.one 3 false (.one 6 false (.one 8 false .stop))) (.one 3 false (.one 1 false (.one 6 false (.one 8 false .stop)))))))) (.one 7 false (.alt 1 (.alt 3 (.one 5 false (.one 6 false (.one 8 false .stop))) (.one 5 false (.one 3 false (.one 6 false (.one 8 false .stop))))) (.alt 3 (.alt 1 (.one 5 false (.one 6 false (.one 8 false .stop))) (.one 5 false (.one 1 false (.one 6 false (.one 8 false .stop))))) (.one 5 false (.alt 1 (.one 3 false (.one 6 false (.one 8 false .stop))) (.one 3 false (.one 1 false (.one 6 false (.one 8 false .stop))))))))))))))) (fun x=>[(0,.int .i64 n),(1,.ai dG l),(6,.ptr x.1 0)]) (fun x=>(x.1,[.aj,.ae x.2.1 0 n 1,.ae x.2.2.1 0 n 1,.ae x.2.2.2 0 n 1,.aj,.int .i64 0,.aj])::(x.2.1,cz [.int .i64 0] n)::(x.2.2.1,cz [.int .i64 0] n)::(x.2.2.2,cz [.bool false] n)::σ) (by kernel_rfl) ?_ ?_
 ·refine And.intro ?_ ?_
  ·refine aU ?_
   intro bi
   refine And.intro ?_ ?_
   ·refine aU ?_
    intro bl
    refine And.intro ?_ ?_
    ·refine aU ?_
     intro bo
     intro w
     refine an 0 ?_
     exact cS.mk (w,bi,bl,bo) ⟨rfl,rfl,rfl,trivial⟩ (.pull [3,3,2,1] (aJ rfl))
    ·intro w
     refine aU ?_
     intro bo
     refine an 1 ?_
     exact cS.mk (w,bi,bl,bo) ⟨rfl,rfl,rfl,trivial⟩ (.pull [3,3,2,0] (aJ rfl))
   ·refine And.intro ?_ ?_
    ·refine aU ?_
     intro bo
     refine And.intro ?_ ?_
     ·refine aU ?_
      intro bl
      intro w
      refine an 0 ?_
      exact cS.mk (w,bi,bl,bo) ⟨rfl,rfl,rfl,trivial⟩ (.pull [3,3,2,2] (aJ rfl))
     ·intro w
      refine aU ?_
      intro bl
      refine an 1 ?_
      exact cS.mk (w,bi,bl,bo) ⟨rfl,rfl,rfl,trivial⟩ (.pull [3,3,1,2] (aJ rfl))
    ·intro w
     refine And.intro ?_ ?_
     ·refine aU ?_
      intro bl
      refine aU ?_
      intro bo
      refine an 2 ?_
      exact cS.mk (w,bi,bl,bo) ⟨rfl,rfl,rfl,trivial⟩ (.pull [3,3,1,0] (aJ rfl))
     ·refine aU ?_
      intro bo
      refine aU ?_
      intro bl
      refine an 2 ?_
      exact cS.mk (w,bi,bl,bo) ⟨rfl,rfl,rfl,trivial⟩ (.pull [3,3,1,1] (aJ rfl))
  ·refine And.intro ?_ ?_
   ·refine aU ?_
    intro bl
    refine And.intro ?_ ?_
    ·refine aU ?_
     intro bi
     refine And.intro ?_ ?_
     ·refine aU ?_
      intro bo
      intro w
      refine an 0 ?_
      exact cS.mk (w,bi,bl,bo) ⟨rfl,rfl,rfl,trivial⟩ (.pull [3,3,3,1] (aJ rfl))
     ·intro w
      refine aU ?_
      intro bo
      refine an 1 ?_
      exact cS.mk (w,bi,bl,bo) ⟨rfl,rfl,rfl,trivial⟩ (.pull [3,3,3,0] (aJ rfl))
    ·refine And.intro ?_ ?_
     ·refine aU ?_
      intro bo
      refine And.intro ?_ ?_
      ·refine aU ?_
       intro bi
       intro w
       refine an 0 ?_
       exact cS.mk (w,bi,bl,bo) ⟨rfl,rfl,rfl,trivial⟩ (.pull [3,3,3,2] (aJ rfl))
      ·intro w
       refine aU ?_
       intro bi
       refine an 1 ?_
       exact cS.mk (w,bi,bl,bo) ⟨rfl,rfl,rfl,trivial⟩ (.pull [3,2,3,2] (aJ rfl))
     ·intro w
      refine And.intro ?_ ?_
      ·refine aU ?_
       intro bi
       refine aU ?_
       intro bo
       refine an 2 ?_
       exact cS.mk (w,bi,bl,bo) ⟨rfl,rfl,rfl,trivial⟩ (.pull [3,2,3,0] (aJ rfl))
      ·refine aU ?_
       intro bo
       refine aU ?_
       intro bi
       refine an 2 ?_
       exact cS.mk (w,bi,bl,bo) ⟨rfl,rfl,rfl,trivial⟩ (.pull [3,2,3,1] (aJ rfl))
   ·refine And.intro ?_ ?_
    ·refine aU ?_
     intro bo
     refine And.intro ?_ ?_
     ·refine aU ?_
      intro bi
      refine And.intro ?_ ?_
      ·refine aU ?_
       intro bl
       intro w
       refine an 0 ?_
       exact cS.mk (w,bi,bl,bo) ⟨rfl,rfl,rfl,trivial⟩ (.pull [3,3,2,3] (aJ rfl))
      ·intro w
       refine aU ?_
       intro bl
       refine an 1 ?_
       exact cS.mk (w,bi,bl,bo) ⟨rfl,rfl,rfl,trivial⟩ (.pull [3,3,1,3] (aJ rfl))
     ·refine And.intro ?_ ?_
      ·refine aU ?_
       intro bl
       refine And.intro ?_ ?_
       ·refine aU ?_
        intro bi
        intro w
        refine an 0 ?_
        exact cS.mk (w,bi,bl,bo) ⟨rfl,rfl,rfl,trivial⟩ (.pull [3,3,3,3] (aJ rfl))
       ·intro w
        refine aU ?_
        intro bi
        refine an 1 ?_
        exact cS.mk (w,bi,bl,bo) ⟨rfl,rfl,rfl,trivial⟩ (.pull [3,2,3,3] (aJ rfl))
      ·intro w
       refine And.intro ?_ ?_
       ·refine aU ?_
        intro bi
        refine aU ?_
        intro bl
        refine an 2 ?_
        exact cS.mk (w,bi,bl,bo) ⟨rfl,rfl,rfl,trivial⟩ (.pull [3,2,1,3] (aJ rfl))
       ·refine aU ?_
        intro bl
        refine aU ?_
        intro bi
        refine an 2 ?_
        exact cS.mk (w,bi,bl,bo) ⟨rfl,rfl,rfl,trivial⟩ (.pull [3,2,2,3] (aJ rfl))
    ·intro w
     refine And.intro ?_ ?_
     ·refine aU ?_
      intro bi
      refine And.intro ?_ ?_
      ·refine aU ?_
       intro bl
       refine aU ?_
       intro bo
       refine an 3 ?_
       exact cS.mk (w,bi,bl,bo) ⟨rfl,rfl,rfl,trivial⟩ (.pull [3,2,1,0] (aJ rfl))
      ·refine aU ?_
       intro bo
       refine aU ?_
       intro bl
       refine an 3 ?_
       exact cS.mk (w,bi,bl,bo) ⟨rfl,rfl,rfl,trivial⟩ (.pull [3,2,1,1] (aJ rfl))
     ·refine And.intro ?_ ?_
      ·refine aU ?_
       intro bl
       refine And.intro ?_ ?_
       ·refine aU ?_
        intro bi
        refine aU ?_
        intro bo
        refine an 3 ?_
        exact cS.mk (w,bi,bl,bo) ⟨rfl,rfl,rfl,trivial⟩ (.pull [3,2,2,0] (aJ rfl))
       ·refine aU ?_
        intro bo
        refine aU ?_
        intro bi
        refine an 3 ?_
        exact cS.mk (w,bi,bl,bo) ⟨rfl,rfl,rfl,trivial⟩ (.pull [3,2,2,1] (aJ rfl))
      ·refine aU ?_
       intro bo
       refine And.intro ?_ ?_
       ·refine aU ?_
        intro bi
        refine aU ?_
        intro bl
        refine an 3 ?_
        exact cS.mk (w,bi,bl,bo) ⟨rfl,rfl,rfl,trivial⟩ (.pull [3,2,1,2] (aJ rfl))
       ·refine aU ?_
        intro bl
        refine aU ?_
        intro bi
        refine an 3 ?_
        exact cS.mk (w,bi,bl,bo) ⟨rfl,rfl,rfl,trivial⟩ (.pull [3,2,2,2] (aJ rfl))
 rintro⟨w,bi,bl,bo⟩ g
 have cy:∀(a:Nat) (σ:Hp),ACalls Tryz.prog 289 [.int .i64 n,.ai dG l,.int .i64 a] σ (aE (.ai (.int .i64) (ar n l a)) σ):=fun a σ=>Bo n l a σ hl
 have lN:∀k,cq ((List.range (k+1)).map fun a:Nat=>ar n l a)=cq ((List.range k).map fun a:Nat=>ar n l a)++[.ai (.int .i64) (ar n l k)]:=fun k=>by rw[wU,cM];exact cM
 have fN:∀k,(cq ((List.range k).map fun a:Nat=>ar n l a)).length=k:=fun k=>by rw[vd,cb,oY]
 refine cj (S:=Nat×AV×Hp) (fun x=>[(0,.int .i64 n),(1,.ai dG l),(6,.ptr w 0),(20,.int .i64 n),(21,.int .i64 x.1)]) (fun x=>(w,[x.2.1,.ae bi 0 n 1,.ae bl 0 n 1,.ae bo 0 n 1,.aj,.int .i64 0,.aj])::(bi,cz [.int .i64 0] n)::(bl,cz [.int .i64 0] n)::(bo,cz [.bool false] n)::(x.2.2++σ)) (fun x=>x.1≤n∧(x.1<n→Acc 1 x.1 x.2.1 x.2.2 (cq ((List.range x.1).map fun a:Nat=>ar n l a)))∧(x.1=n→x.2.1=.ai (.slice (.int .i64)) (bY n l)∧x.2.2=[])) (fun x=>n-x.1) (0,.aj,[]) ⟨⟨bK _,fun _=>.nil,fun h=>by have h:0=n:=h;omega⟩,⟨rfl,rfl,rfl,rfl,rfl,trivial⟩,rfl⟩ ?_
 rintro⟨k,v,acc⟩ g ⟨bD,mE,DZ⟩
 have hk:k≤n:=bD
 have cC:k<n→Acc 1 k v acc (cq ((List.range k).map fun a:Nat=>ar n l a)):=mE
 have j8:k=n→v=.ai (.slice (.int .i64)) (bY n l)∧acc=[]:=DZ
 clear bD mE DZ
 refine aq (p:=(k:Int)<n) (fun ab=>?_) (fun ay=>?_)
 ·have ab:k<n:=by omega
  have cC:=cC ab
  clear j8
  have mi:(bY n l).length=n:=by unfold bY;rw[cb,oY]
  have BZ:∀k,k+1=n→((cq ((List.range k).map fun a:Nat=>ar n l a)++[AV.ai (.int .i64) (ar n l k)]).drop 0).take ((k+1)*1)=(bY n l).flatMap (Sh.cells (.slice (.int .i64))):=fun k hk=>by
   rw[← lN,iB,eZ (by rw[fN,eo];exact aM _),hk]
   exact xj _
  refine .sched [5] (.one 0 false (.one 2 false (.one 3 false (.one 4 false (.one 5 true (.alt 1 (.one 6 false (.one 7 false (.one 8 false (.one 9 false .stop)))) (.one 6 false (.one 1 false (.one 7 false (.one 8 false (.one 9 false .stop))))))))))) (by kernel_rfl) ?_
  refine aI [] (Bo n l _ _ hl) ?_
  refine And.intro ?_ ?_
  ·refine aa 0 ?_
   intro aG
   refine Ao [_,_,_,_,_] cC.yb (.ae 0 aG 0 1 _ rfl (cT rfl)) rfl (by omega) (by decide) (by decide) (fun v' bN h'=>?_)
   obtain⟨b5,rfl,rfl⟩:=tz (by omega) h'
   refine an 1 ?_
   by_cases kE:k+1=n
   ·refine .ku 5 b5 0 (k+1) 1 _ (.slice (.int .i64)) (bY n l) rfl (BZ k kE) ⟨(mi.trans kE.symm),rfl,by decide⟩ 1 0 w _ rfl rfl ?_
    exact aZ (k+1,.ai (.slice (.int .i64)) (bY n l),[]) (by show n-(k+1)<n-k;omega) ⟨ab,fun h=>absurd kE (by have h:k+1<n:=h;omega),fun _=>⟨rfl,rfl⟩⟩ ⟨rfl,rfl,rfl,rfl,bu (by omega),trivial⟩ (.drop 0 1 (aJ rfl))
   ·exact aZ (k+1,.ae b5 0 (k+1) 1,[(b5,cq ((List.range k).map fun a:Nat=>ar n l a)++[.ai (.int .i64) (ar n l k)])]) (by show n-(k+1)<n-k;omega) ⟨ab,fun _=>by show Acc 1 (k+1) _ _ (cq ((List.range (k+1)).map fun a:Nat=>ar n l a));rw[lN];exact h',fun h=>absurd h kE⟩ ⟨rfl,rfl,rfl,rfl,bu (by omega),trivial⟩ (.drop 0 1 (aJ rfl))
  ·intro eV
   refine aa 1 ?_
   refine Ao [_,_,_,_,_] cC.yb (.ae 0 eV 0 1 _ rfl (cT rfl)) rfl (by omega) (by decide) (by decide) (fun v' bN h'=>?_)
   obtain⟨b5,rfl,rfl⟩:=tz (by omega) h'
   refine an 1 ?_
   by_cases kE:k+1=n
   ·refine .ku 5 b5 0 (k+1) 1 _ (.slice (.int .i64)) (bY n l) rfl (BZ k kE) ⟨(mi.trans kE.symm),rfl,by decide⟩ 1 0 w _ rfl rfl ?_
    exact aZ (k+1,.ai (.slice (.int .i64)) (bY n l),[]) (by show n-(k+1)<n-k;omega) ⟨ab,fun h=>absurd kE (by have h:k+1<n:=h;omega),fun _=>⟨rfl,rfl⟩⟩ ⟨rfl,rfl,rfl,rfl,bu (by omega),trivial⟩ (.drop 0 1 (aJ rfl))
   ·exact aZ (k+1,.ae b5 0 (k+1) 1,[(b5,cq ((List.range k).map fun a:Nat=>ar n l a)++[.ai (.int .i64) (ar n l k)])]) (by show n-(k+1)<n-k;omega) ⟨ab,fun _=>by show Acc 1 (k+1) _ _ (cq ((List.range (k+1)).map fun a:Nat=>ar n l a));rw[lN];exact h',fun h=>absurd h kE⟩ ⟨rfl,rfl,rfl,rfl,bu (by omega),trivial⟩ (.drop 0 1 (aJ rfl))
 ·have ay:k=n:=by omega
  obtain⟨rfl,rfl⟩:=j8 ay
  clear cC j8
  refine cj (S:=Nat×(List Int×List Int×List Bool×Nat×List (List Int))×(AV×Hp×AV×Hp)) (fun x=>[(0,.int .i64 n),(1,.ai dG l),(6,.ptr w 0),(34,.int .i64 n),(35,.int .i64 x.1)]) (fun x=>(w,dc (bY n l) bi bl bo n x.2.2.1 x.2.1.2.2.2.1 x.2.2.2.2.1)::(bi,ak x.2.1.1)::(bl,ak x.2.1.2.1)::(bo,bE x.2.1.2.2.1)::(x.2.2.2.1++(x.2.2.2.2.2++σ))) (fun x=>x.1≤n∧FI n (ar n l) x.2.1.1 x.2.1.2.1 x.2.1.2.2.1 [] x.2.1.2.2.2.1 x.2.1.2.2.2.2 []∧iw 1 0 x.2.2.1 x.2.2.2.1 []∧PO x.2.1.2.2.2.2 x.2.2.2.2.1 x.2.2.2.2.2∧∀b:Nat,b<x.1→x.2.1.1.getD b 0≠0) (fun x=>n-x.1) (0,(List.replicate n 0,List.replicate n 0,List.replicate n false,0,[]),(.aj,[],.aj,[])) ⟨⟨bK _,.start n (ar n l),.nil,⟨[],[],rfl,.nil,rfl⟩,fun _ h=>absurd h (ml _)⟩,⟨rfl,rfl,rfl,rfl,rfl,trivial⟩,by rw[yX,Di];rfl⟩ ?_
  clear ay
  rintro⟨k,⟨ix,lo,on,aD,P⟩,⟨vs,lI,vp,eK⟩⟩ g2 ⟨bD,oT,sT,uA,oP⟩
  have hk:k≤n:=bD
  have hF:FI n (ar n l) ix lo on [] aD P []:=oT
  have hs:iw 1 0 vs lI []:=sT
  have hp:PO P vp eK:=uA
  have hv:∀b:Nat,b<k→ix.getD b 0≠0:=oP
  clear bD oT sT uA oP
  have Fc:((k:Nat):Int).toNat=k:=bU k
  refine aq (p:=(k:Int)<n) (fun ab=>?_) (fun ay=>?_)
  ·have ab:k<n:=by omega
   refine aa 0 ?_
   refine aK ?_
   refine aT 1 rfl (e9 rfl (by omega) (by rw[hF.li];omega)) ?_
   refine aq (p:=ix.getD ((k:Nat):Int).toNat 0=0) (fun c1=>?_) (fun c1=>?_)
   ·refine .mk [] _ (agh n w bi bl bo l ix lo on aD P vs vp lI eK k σ (by omega) hF (by omega) c1 hs hp) ?_
    rintro _ _ ⟨rfl,Od,Oc,Oa,N0,P2,I6,Nn,N6,No,O2,gy,dz,s6,rT,rfl⟩
    rw[Fc]at s6
    refine aZ (k+1,(Od,Oc,Oa,N0,P2),(I6,Nn,N6,No)) (by show n-(k+1)<n-k;omega) ⟨ab,O2,gy,dz,fun b hb=>?_⟩ ⟨rfl,rfl,rfl,rfl,bu (by omega),trivial⟩ (.refl _)
    have hb:b<k+1:=hb
    by_cases e:b=k
    ·subst e;exact s6
    ·exact rT b (hv b (by omega))
   ·rw[Fc]at c1
    refine aZ (k+1,(ix,lo,on,aD,P),(vs,lI,vp,eK)) (by show n-(k+1)<n-k;omega) ⟨ab,hF,hs,hp,fun b hb=>?_⟩ ⟨rfl,rfl,rfl,rfl,bu (by omega),trivial⟩ (.refl _)
    have hb:b<k+1:=hb
    by_cases e:b=k
    ·subst e;exact c1
    ·exact hv b (by omega)
  ·have ay:k=n:=by omega
   subst ay
   have cf:oL k l P:=⟨hF.tj.prt,fun x h0 h1=>by
    have h2:=hv x.toNat (by omega)
    have h3:=(hF.tj.ya x h0 h1).1 (by rw[l4 h0];exact h2)
    exact h3.resolve_left (by simp)⟩
   have Fs:=CO hF.tj.prt
   refine aa 0 ?_
   obtain⟨x,hx,_⟩:=cf.all 0 (by omega) (by omega)
   have uJ:=Co hx
   obtain⟨ac,rw,rfl,hac,mO⟩:=hp
   have wF:rw.length=P.length:=by rw[← mO,cb]
   obtain⟨b5,rfl,rfl⟩:=tz (by omega) hac
   have hO:=fun τ=>aaU k l P rw b5 τ cf mO uJ hl (by omega) B2
   rw[← wF]at hO
   rcases hs.zero with ⟨rfl,rfl⟩ | ⟨bs,J,rfl,rfl⟩
   ·refine .perm _ (AG [_,_,_,_] ((b5,fg rw)::eM rw) σ) (hO _) ?_
    rintro _ _ ⟨F8,eL,rfl,mN,rfl,E6⟩
    exact⟨_,(AG [_,_,_,_] ((F8,fg eL)::eM eL) σ).symm,.drop 0 4 (.done ⟨F8,eL,rfl,mN,rfl,P,cf,E6⟩)⟩
   ·refine .perm _ (AG [_,_,_,_,_] ((b5,fg rw)::eM rw) σ) (hO _) ?_
    rintro _ _ ⟨F8,eL,rfl,mN,rfl,E6⟩
    exact⟨_,(AG [_,_,_,_,_] ((F8,fg eL)::eM eL) σ).symm,.drop 0 5 (.done ⟨F8,eL,rfl,mN,rfl,P,cf,E6⟩)⟩
end Go.Proofs.YtnikdflhefijbaaGreat
namespace Go.Proofs.YtnikdflhefijbaaGreat
open Go.Shelf
def X8:Go.Shelf.Ren:=⟨fun | 6=>259 | 15=>233 | 14=>292 | 28=>274 | 29=>275 | 20=>318 | 21=>319 | 22=>320 | 23=>321 | 24=>322 | 25=>323 | 26=>324 | 27=>325 | 46=>339 | 47=>296 | 48=>297 | 49=>340 | 50=>341 | 57=>355 | n=>n,fun | 22=>23 | 24=>3 | 25=>118 | 3=>3 | 39=>253 | 0=>0 | 53=>284 | 55=>56 | 4=>4 | 46=>308 | 45=>307 | 50=>312 | 5=>5 | 9=>9 | 66=>331 | 70=>335 | 76=>353 | 77=>50 | n=>n,fun | n=>n⟩
theorem ae6:Go.Proofs.SlLaysF.n6 Tryz.prog X8:= {
 mixed:=by kernel_rfl
 f6 := ⟨"slices.SortFunc[[]int,int]", by decide, Tryz.func259.trans (congrArg some (by kernel_rfl))⟩
 f14 := ⟨"slices.pdqsortCmpFunc[int]", by decide, Tryz.func292.trans (congrArg some (by kernel_rfl))⟩
 f15:=Tryz.func233.trans (congrArg some (by kernel_rfl))
 f20 := ⟨"slices.insertionSortCmpFunc[int]", by decide, Tryz.func318.trans (congrArg some (by kernel_rfl))⟩
 f21 := ⟨"slices.heapSortCmpFunc[int]", by decide, Tryz.func319.trans (congrArg some (by kernel_rfl))⟩
 f22 := ⟨"slices.breakPatternsCmpFunc[int]", by decide, Tryz.func320.trans (congrArg some (by kernel_rfl))⟩
 f23 := ⟨"slices.choosePivotCmpFunc[int]", by decide, Tryz.func321.trans (congrArg some (by kernel_rfl))⟩
 f24 := ⟨"slices.reverseRangeCmpFunc[int]", by decide, Tryz.func322.trans (congrArg some (by kernel_rfl))⟩
 f25 := ⟨"slices.partialInsertionSortCmpFunc[int]", by decide, Tryz.func323.trans (congrArg some (by kernel_rfl))⟩
 f26 := ⟨"slices.partitionEqualCmpFunc[int]", by decide, Tryz.func324.trans (congrArg some (by kernel_rfl))⟩
 f27 := ⟨"slices.partitionCmpFunc[int]", by decide, Tryz.func325.trans (congrArg some (by kernel_rfl))⟩
 f28:=Tryz.func274.trans (congrArg some (by kernel_rfl))
 f29:=Tryz.func275.trans (congrArg some (by kernel_rfl))
 f46 := ⟨"slices.siftDownCmpFunc[int]", by decide, Tryz.func339.trans (congrArg some (by kernel_rfl))⟩
 f47:=Tryz.func296.trans (congrArg some (by kernel_rfl))
 f48:=Tryz.func297.trans (congrArg some (by kernel_rfl))
 f49 := ⟨"slices.medianAdjacentCmpFunc[int]", by decide, Tryz.func340.trans (congrArg some (by kernel_rfl))⟩
 f50 := ⟨"slices.medianCmpFunc[int]", by decide, Tryz.func341.trans (congrArg some (by kernel_rfl))⟩
 f57 := ⟨"slices.order2CmpFunc[int]", by decide, Tryz.func355.trans (congrArg some (by kernel_rfl))⟩
 t0:=Tryz.underlying0
 a0:=Tryz.isAgg0
 z0:=Tryz.sizeOf0
 v0:=Tryz.zeroValue0
 t3:=Tryz.underlying3
 a3:=Tryz.isAgg3
 z3:=Tryz.sizeOf3
 v3:=Tryz.zeroValue3
 t4:=Tryz.underlying4
 a4:=Tryz.isAgg4
 z4:=Tryz.sizeOf4
 v4:=Tryz.zeroValue4
 t5:=Tryz.underlying5
 a5:=Tryz.isAgg5
 z5:=Tryz.sizeOf5
 v5:=Tryz.zeroValue5
 t9:=Tryz.underlying9
 a9:=Tryz.isAgg9
 z9:=Tryz.sizeOf9
 v9:=Tryz.zeroValue9
 t22:=Tryz.underlying23
 a22:=Tryz.isAgg23
 z22:=Tryz.sizeOf23
 v22:=Tryz.zeroValue23
 a24:=Tryz.isAgg3
 z24:=Tryz.sizeOf3
 t25:=Tryz.underlying118
 a25:=Tryz.isAgg118
 z25:=Tryz.sizeOf118
 v25:=Tryz.zeroValue118
 t39:=Tryz.underlying253
 a39:=Tryz.isAgg253
 z39:=Tryz.sizeOf253
 v39:=Tryz.zeroValue253
 t45:=Tryz.underlying307
 a45:=Tryz.isAgg307
 z45:=Tryz.sizeOf307
 v45:=Tryz.zeroValue307
 t46:=Tryz.underlying308
 a46:=Tryz.isAgg308
 z46:=Tryz.sizeOf308
 v46:=Tryz.zeroValue308
 t50:=Tryz.underlying312
 a50:=Tryz.isAgg312
 z50:=Tryz.sizeOf312
 v50:=Tryz.zeroValue312
 t53:=Tryz.underlying284
 a53:=Tryz.isAgg284
 z53:=Tryz.sizeOf284
 v53:=Tryz.zeroValue284
 t55:=Tryz.underlying56
 a55:=Tryz.isAgg56
 z55:=Tryz.sizeOf56
 v55:=Tryz.zeroValue56
 t66:=Tryz.underlying331
 a66:=Tryz.isAgg331
 z66:=Tryz.sizeOf331
 v66:=Tryz.zeroValue331
 t70:=Tryz.underlying335
 a70:=Tryz.isAgg335
 z70:=Tryz.sizeOf335
 v70:=Tryz.zeroValue335
 t76:=Tryz.underlying353
 a76:=Tryz.isAgg353
 z76:=Tryz.sizeOf353
 v76:=Tryz.zeroValue353
 t77:=Tryz.underlying50
 a77:=Tryz.isAgg50
 z77:=Tryz.sizeOf50
 v77:=Tryz.zeroValue50 }
end Go.Proofs.YtnikdflhefijbaaGreat
namespace Go.Proofs.YtnikdflhefijbaaGreat
open Go.RowKit Go.Lib
set_option maxRecDepth 100000
theorem af7(n:Nat)(rk:List Int)(x y:Int)(σ:Hp)(hr:rk.length=n)(hx:0≤x∧x<n)(hy:0≤y∧y<n):ACalls Tryz.prog 260 [.int .i64 x,.int .i64 y,.fV [.ai (.int .i64) rk]] σ (aE (.int .i64 (IntKind.i64.wrap (rk.getD x.toNat 0-rk.getD y.toNat 0))) σ):=by
 have h1:rk[x.toNat]?=some (rk.getD x.toNat 0):=by rw[aR,bc (by omega)];rfl
 have h2:rk[y.toNat]?=some (rk.getD y.toNat 0):=by rw[aR,bc (by omega)];rfl
 refine aA Tryz.func260 ?_
 refine .quiet (by kernel_rfl) ?_
 refine aH.mk rfl ?_
 refine cg.mk _ hx.1 h1 ?_
 refine aH.mk rfl ?_
 refine cg.mk _ hy.1 h2 ?_
 exact .done ⟨rfl,rfl⟩
abbrev mZ(n:Nat):Type:= { x:Int // 0≤x∧x<(n:Int) }
def x6{n:Nat}(rk:List Int)(x y:mZ n):Int:=IntKind.i64.wrap (rk.getD x.1.toNat 0-rk.getD y.1.toNat 0)
def sG{n:Nat}(x:mZ n):Value:=.int .i64 x.1
structure um(n:Nat)(rk:List Int):Prop where
 len:rk.length=n
 big:∀i:Nat,i<n→0≤rk.getD i 0∧rk.getD i 0<1000000
 inj:∀i j:Nat,i<n→j<n→rk.getD i 0=rk.getD j 0→i=j
theorem um.lt{n:Nat}{rk:List Int}(h:um n rk)(x y:mZ n):ltOf (x6 rk) x y=decide (rk.getD x.1.toNat 0<rk.getD y.1.toNat 0):=by
 unfold ltOf
 rw[decide_eq_decide]
 have h1:=h.big x.1.toNat (by have:=x.2;omega)
 have h2:=h.big y.1.toNat (by have:=y.2;omega)
 unfold x6
 rw[IntKind.wrap_i64]
 omega
theorem um.swo{n:Nat}{rk:List Int}(h:um n rk):Go.Sort.SWO (ltOf (x6 (n:=n) rk)) where
 irrefl x:=by rw[h.lt];simp
 trans x y z h1 h2:=by rw[h.lt]at *;simp only[decide_eq_true_eq]at *;omega
 ntrans x y z h1 h2:=by rw[h.lt]at *;simp only[decide_eq_false_iff_not]at *;omega
theorem um.tot{n:Nat}{rk:List Int}(h:um n rk)(x y:mZ n)(h1:ltOf (x6 rk) x y=false)(h2:ltOf (x6 rk) y x=false):x=y:=by
 rw[h.lt]at h1 h2
 simp only[decide_eq_false_iff_not]at h1 h2
 have hx:=x.2
 have hy:=y.2
 have:=h.inj x.1.toNat y.1.toNat (by omega) (by omega) (by omega)
 exact Subtype.ext (by omega)
def vI{n:Nat}(rk:List Int)(L:List (mZ n)):List (mZ n):=L.mergeSort fun x y=> !(ltOf (x6 rk)) y x
theorem Xy{n:Nat}(rk:List Int)(L:List (mZ n)):(vI rk L).length=L.length:=Pe ..
def jz{n:Nat}(L:List (mZ n)):List Int:=L.map (·.1)
theorem SH{n:Nat}[Inhabited (mZ n)](w:World)(b:Nat)(d:List (mZ n)):Go.Sort.putRow sG w b 0 d.toArray=Go.Sort.putRow (Value.int .i64) w b 0 (jz d).toArray:=by
 have e:Go.Sort.putCells sG 0 d.toArray=Go.Sort.putCells (Value.int .i64) 0 (jz d).toArray:=by
  funext c
  unfold Go.Sort.putCells
  refine Array.ext (by simp) fun i h1 h2=>?_
  have hs:(jz d).toArray.size=d.toArray.size:=by simp[jz]
  simp only[Array.getElem_mapIdx,hs]
  by_cases hi:0≤i∧i<0+d.toArray.size
  ·rw[ag hi,ag hi]
   have yl:i<d.length:=by have:=hi.2;simp at this;omega
   have e1:d.toArray[i-0]! = d[i]'yl:=by simp[yl]
   have e2:(jz d).toArray[i-0]! = (d[i]'yl).1:=by simp[jz,yl]
   rw[e1,e2];rfl
  ·rw[ah hi,ah hi]
 unfold Go.Sort.putRow
 rw[e]
theorem Cs{n:Nat}(L:List (mZ n)):(jz L).length=L.length:=cb _
theorem XE:Enters Tryz.prog 259:=enters_of Tryz.func259 (by kernel_rfl)
theorem Yh:Enters Tryz.prog 260:=enters_of Tryz.func260 (by kernel_rfl)
theorem ai7{F:Nat→Prop}{w:World}{f:Fn}{bk:Nat}{v:Value}(h:ax F w (.fn f [] [.ptr bk 0]) v):v=.func f #[] #[.pointer (some ⟨bk,0,none⟩)]:=by
 cases h with
 |fn _ _ _ v1 v2 fh gy h1 h2=>
  have e1:v1 = #[]:=Kf fh.symm
  obtain⟨z,rfl⟩:∃z,v2 = #[z]:=by
   obtain⟨l2⟩:=v2
   match l2,gy with
   | [z],_=>exact⟨z,rfl⟩
  subst e1
  have h3:=h2 0 _ rfl
  cases h3
  rfl
theorem aay{F:Nat→Prop}{w:World}{σ:Hp}{n:Nat}[Inhabited (mZ n)]{rk:List Int}{b bk:Nat}{L:List (mZ n)}(hr:um n rk)(aC:aX F w ((b,ak (jz L))::(bk,[.ai (.int .i64) rk])::σ)):CmpLays1 Tryz.prog 260 #[.pointer (some ⟨bk,0,none⟩)] sG (x6 (n:=n) rk) b 0 L.length w:=fun m os dk hdk x y=>by
 have hd:(jz dk.toList).length=(jz L).length:=by
  rw[Cs,Cs,Pq,hdk]
 obtain⟨s1,s2⟩:=Hm (n:=m) (zs':=jz dk.toList) aC hd os
 have hW:sortWorld sG w b 0 m dk os=Go.Sort.grow (Go.Sort.putRow (Value.int .i64) (Go.Sort.ahead w m) b 0 (jz dk.toList).toArray) os:=by
  have:=SH (Go.Sort.ahead w m) b dk.toList
  show Go.Sort.grow (Go.Sort.putRow sG (Go.Sort.ahead w m) b 0 dk) os=_
  rw[← this]
 rw[← hW]at s1 s2
 generalize sortWorld sG w b 0 m dk os=W at s1 s2
 obtain⟨hF,c,T,h1,h2,h3⟩:=(s2.holds (bk,[.ai (.int .i64) rk]) (cE _ (bV ..))).L9 (fun x hx=>by rw[a8.1 hx];rfl)
 have ao:bh F W (fun k=>k<W.heap.size) W:=⟨rfl,rfl,rfl,aM _,fun k hk=>s2.low k hk,fun _ _=>rfl,fun k c T fz h=>⟨c,fz,h,rfl⟩,aM _⟩
 have ym:bk<W.heap.size:=(Ad.1 h1).1
 have gV:0<c.size:=h2
 have hv:ax (fun k=>k<W.heap.size) W (.fV [.ai (.int .i64) rk]) (.pointer (some ⟨bk,0,none⟩)):=by
  refine .fV _ bk 0 (fun i=>c.getD i undef) ⟨ym,c,T,(0,0),h1⟩ (fun i x hx=>?_) (fun i x hx=>?_) (fun i x hx=>?_)
  ·match i,hx with
   | 0,hx=>rw[HA h1,gW,qa (by omega)];rfl
   |i+1,hx=>simp at hx
  ·exact (h3 i x hx).1
  ·exact (h3 i x hx).2.mono ao
 have h:=Q3 (fun σ=>af7 n rk x.1 y.1 σ hr.len x.2 y.2) (w:=W) (vs:= #[.int .i64 x.1,.int .i64 y.1,.pointer (some ⟨bk,0,none⟩)]) ⟨rfl,fun i a h=>by
  match i,h with
  | 0,h=>cases h;exact .int _ _
  | 1,h=>cases h;exact .int _ _
  | 2,h=>cases h;exact hv⟩
 exact h
theorem aaS(n:Nat)[Inhabited (mZ n)](rk:List Int)(b bk:Nat)(L:List (mZ n))(q:Nat)(σ:Hp)(hr:um n rk)(hz:L.length=q)(h0:0<q)(hl:q≤1000000):ACalls Tryz.prog 259 [.ae b 0 q 1,.fn (.func 260) [] [.ptr bk 0]] ((b,ak (jz L))::(bk,[.ai (.int .i64) rk])::σ) (aE (.tup []) ((b,ak (jz (vI rk L)))::(bk,[.ai (.int .i64) rk])::σ)):=by
 subst hz
 refine⟨XE,fun F w vs bX aC =>?_⟩
 obtain⟨v,u,rfl⟩:∃v u,vs = #[v,u]:=by
  obtain⟨l2⟩:=vs
  match l2,bX.1 with
  | [v,u],_=>exact⟨v,u,rfl⟩
 have hv:ax F w (.ae b 0 L.length 1) v:=bX.2 0 _ rfl
 obtain rfl:=ai7 (show ax F w (.fn (.func 260) [] [.ptr bk 0]) u from bX.2 1 _ rfl)
 obtain⟨a,cap,rfl,c,T,fz,m1,m2,m3,m4⟩:=hv.lD
 rcases m4 with ⟨rfl,_⟩ | ⟨_,_,h9,_⟩
 ·obtain⟨h1,h2⟩:=LF aC
  have h1:Go.Sort.Holds (sG (n:=n)) w b 0 L.toArray:=fun j hj=>by
   have wG:j<L.length:=by simpa using hj
   have hh:=h1 j (by simp[jz];exact wG)
   rw[show (jz L).toArray[j]! = (L.toArray[j]!).1 by simp[jz,wG]]at hh
   exact hh
  have h:Calls Tryz.prog 259 #[.slice (some ⟨b,0,none⟩) L.length cap,.func (.func 260) #[] #[.pointer (some ⟨bk,0,none⟩)]] w fun e w'=>e=.returned (.tuple #[])∧∃n os,w'=sortWorld sG w b 0 n (vI rk L).toArray os:=Any.slices_SortFunc_total ae6 sG (fun _=>rfl) (x6 rk) hr.swo 260 #[.pointer (some ⟨bk,0,none⟩)] b 0 cap L.toArray w Yh (by have:=aay hr aC;simpa using this) h1 h2 (by show L.length<_;omega) hr.tot
  refine h.mono ?_
  rintro e w' ⟨rfl,m,os,rfl⟩
  obtain⟨k1,k2⟩:=Hm (n:=m) (zs':=jz (vI rk L)) aC (by rw[Cs,Cs,Xy]) os
  have hW:sortWorld sG w b 0 m (vI rk L).toArray os=Go.Sort.grow (Go.Sort.putRow (Value.int .i64) (Go.Sort.ahead w m) b 0 (jz (vI rk L)).toArray) os:=by
   show Go.Sort.grow (Go.Sort.putRow sG (Go.Sort.ahead w m) b 0 (vI rk L).toArray) os=_
   rw[SH]
  rw[hW]
  exact⟨.tup [],.tuple #[],_,F,rfl,k1,k2,.tup [] #[] rfl fun i x h=>by simp at h,rfl,rfl⟩
 ·omega
set_option maxHeartbeats 4000000
def sL(n:Nat)(p:List Int):Nat→List Int
 | 0=>List.replicate n 0
 |k+1=>(sL n p k).set (p.getD k 0).toNat ((n:Int)-1-(k:Int))
theorem Aq(n:Nat)(p:List Int):∀k,(sL n p k).length=n
 | 0=>fZ
 |k+1=>by unfold sL;rw[ck];exact Aq n p k
theorem ab1{nx:Int→List Int}{n:Nat}{a:Int}{out:List Int}:a∈out++gO nx (n+1) a out:=by
 by_cases h:a∈out
 ·exact gJ _ h
 ·refine jF _ ?_
  unfold gO
  rw[ah h]
  simp
theorem SI{nx:Int→List Int}{n:Nat}:∀(L out:List Int) (a:Int),a∈out∨a∈L→a∈L.foldl (fun out a=>out++gO nx (n+1) a out) out
 | [],out,a,h=>h.elim id fun h=>by cases h
 |b::L,out,a,h=>by
  refine SI L _ a ?_
  rcases h with h | h
  ·exact .inl (gJ _ h)
  ·rcases da.1 h with rfl | h
   ·exact .inl ab1
   ·exact .inr h
theorem ZQ{n:Nat}{l:List bg}{fr:List Int}{a:Int}(h:0≤a∧a<n):a∈qm n l fr:=by
 refine SI _ _ a (.inr (jF _ (cY.2 ⟨a.toNat,fA.2 (by omega),?_⟩)))
 omega
structure ka(n:Nat)(p:List Int):Prop where
 nd:p.Nodup
 rg:∀x∈p,0≤x∧x<(n:Int)
 all:∀x:Int,0≤x∧x<(n:Int)→x∈p
theorem ka.len{n:Nat}{p:List Int}(h:ka n p):p.length=n:=by
 have h1:=GJ n p h.nd h.rg
 have h2:((List.range n).map fun a:Nat=>(a:Int)).Nodup:=uP.2 (List.Pairwise.imp (fun h e=>h (Int.ofNat.inj e)) Cd)
 have h3:∀(A B:List Int),A.Nodup→(∀x∈A,x∈B)→A.length≤B.length:=by
  intro A
  induction A with
  |nil=>intro B _ _;exact bK _
  |cons a A ih=>
   intro B hn hs
   have hn:=lp.1 hn
   have ha:=hs a (bV ..)
   have:=ih (B.erase a) hn.2 fun x hx=>(FR (fun e:x=a=>hn.1 (e▸hx))).2 (hs x (cE _ hx))
   rw[List.length_erase_of_mem ha]at this
   have:=Co ha
   rw[fO];omega
 have h4:=h3 _ p h2 fun x hx=>by
  obtain⟨a,ha,rfl⟩:=cY.1 hx
  exact h.all _ ⟨by omega,by have:=fA.1 ha;omega⟩
 rw[cb,oY]at h4
 omega
theorem U6{n:Nat}{p:List Int}(h:ka n p):∀k,k≤n→∀i,i<k→(sL n p k).getD (p.getD i 0).toNat 0=(n:Int)-1-(i:Int)
 | 0,_,i,hi=>absurd hi (ml _)
 |k+1,hk,i,hi=>by
  have hl:=h.len
  have Oz:k<p.length:=by omega
  have e:∀j,j<p.length→p.getD j 0∈p∧p[j]?=some (p.getD j 0):=fun j hj=>by
   have:p[j]?=some (p.getD j 0):=by rw[aR,bc hj];rfl
   exact⟨bH this,this⟩
  have hr:=h.rg _ (e k Oz).1
  unfold sL
  rw[aR,dY]
  by_cases he:i=k
  ·subst he
   rw[ag rfl,ag (by rw[Aq];omega)];rfl
  ·have dW:=h.rg _ (e i (by omega)).1
   have aO:¬(p.getD k 0).toNat=(p.getD i 0).toNat:=fun e2=>by
    have e3:p.getD k 0=p.getD i 0:=by omega
    have:=(List.getElem?_inj (i:=k) (j:=i) Oz h.nd).1 ((e k Oz).2.trans ((congrArg some e3).trans (e i (by omega)).2.symm))
    omega
   rw[ah aO,← aR]
   exact U6 h k (by omega) i (by omega)
def zL(n:Nat)(p:List Int):List Int:=sL n p n
theorem afk{n:Nat}{p:List Int}(h:ka n p){i:Nat}{x:Int}(hi:p[i]?=some x):(zL n p).getD x.toNat 0=(n:Int)-1-(i:Int):=by
 have hl:=(bQ.1 hi).1
 rw[h.len]at hl
 have:=U6 h n (aM _) i hl
 rw[show p.getD i 0=x by rw[aR,hi];rfl]at this
 exact this
theorem ag9(n:Nat)(l:List bg)(fr:List Int)(σ:Hp)(hl:l.length≤100000)(hf:fr.length≤100000)(dW:fu n l=true)(uF:∀x∈fr,0≤x∧x<(n:Int)):ACalls Tryz.prog 257 [.int .i64 n,.ai dG l,.ai (.int .i64) fr] σ (fun r σ'=>r=.tup [.ai (.int .i64) (zL n (qm n l fr)),.int .i64 0]∧σ'=σ∧ka n (qm n l fr)):=by
 have hn:1≤n∧n≤256:=by
  unfold fu at dW
  simp only[bL,decide_eq_true_eq]at dW
  omega
 refine aA Tryz.func257 ?_
 refine .mk [] _ (ahe n l fr _ hl hf dW uF) ?_
 rintro _ τ ⟨rfl,Og,met,hP⟩
 subst τ
 have hA:ka n (qm n l fr):=⟨hP.nd,hP.rg,fun x hx=>ZQ hx⟩
 have hlen:=hA.len
 generalize qm n l fr=p at hP hA hlen
 have hnT:((n:Nat):Int).toNat=n:=bU n
 refine aU ?_
 intro bo
 refine cj (S:=Nat) (fun x=>[(0,.int .i64 n),(10,.ae bo 0 n 1),(25,.ai (.int .i64) p),(26,.int .i64 p.length),(27,.int .i64 x)]) (fun x=>(bo,ak (sL n p x))::σ) (fun x=>x≤p.length) (fun x=>p.length-x) 0 ⟨bK _,⟨rfl,rfl,rfl,rfl,rfl,trivial⟩,by rw[show ak (sL n p 0)=cz [.int .i64 0] n from (yX n).symm];rfl⟩ ?_
 intro k g hk
 have hk:k≤p.length:=hk
 refine aq (p:=(k:Int)<p.length) (fun ab=>?_) (fun ay=>?_)
 ·have ab:k<p.length:=by omega
  have hx:=hA.rg _ (cD ab)
  have hlk:=Aq n p k
  refine aH.mk rfl (cg.mk p[k] (by omega) (get_some ab) ?_)
  refine aK ?_
  have hv:IntKind.i64.wrap (IntKind.i64.wrap ((n:Int)-1)-(k:Int))=(n:Int)-1-(k:Int):=by rw[IntKind.wrap_i64,IntKind.wrap_i64];omega
  have j7:sL n p (k+1)=(sL n p k).set p[k].toNat ((n:Int)-1-(k:Int)):=by
   show (sL n p k).set (p.getD k 0).toNat _=_
   rw[aR,bc ab];rfl
  refine cU 0 rfl (nk rfl _ hx.1 (by omega)) ?_
  exact aZ (k+1) (by show p.length-(k+1)<p.length-k;omega) ab ⟨rfl,rfl,rfl,rfl,bu (by omega),trivial⟩ (aJ (by rw[hv,← j7];rfl))
 ·have ay:k=p.length:=by omega
  subst ay
  refine .cI 0 bo 0 n 1 _ (.int .i64) (zL n p) rfl (by rw[iB,eZ (by rw[mw,Aq,eo];exact aM _),hlen];exact xn _) ⟨Aq n p n,rfl,by decide⟩ (eH .here (.refl _)) (.done ⟨rfl,rfl,hA⟩)
set_option maxHeartbeats 4000000
theorem QK:∀{Q:List (List Int)},(∀p∈Q,0<p.length)→Q.length≤Q.flatten.length
 | [],_=>aM _
 |p::Q,h=>by
  have ih:=QK (Q:=Q) fun q hq=>h q (cE _ hq)
  have:=h p (bV ..)
  rw[Cf,bG,fO]
  omega
set_option maxHeartbeats 4000000
theorem ka.rk{n:Nat}{p:List Int}(h:ka n p)(hn:n≤1000):um n (zL n p):=by
 have hl:=h.len
 have key:∀i:Nat,i<n→∃j:Nat,p[j]?=some (i:Int)∧j<n∧(zL n p).getD i 0=(n:Int)-1-(j:Int):=fun i hi=>by
  obtain⟨j,hj⟩:=FQ (h.all i ⟨by omega,by omega⟩)
  have jl:=(bQ.1 hj).1
  have:=afk h hj
  rw[bU]at this
  exact⟨j,hj,by omega,this⟩
 refine⟨Aq n p n,fun i hi=>?_,fun i j hi hj e=>?_⟩
 ·obtain⟨k,_,hk,e⟩:=key i hi
  omega
 ·obtain⟨k,h1,_,e1⟩:=key i hi
  obtain⟨m,h2,_,e2⟩:=key j hj
  have:k=m:=by omega
  subst this
  rw[h1]at h2
  have:=Option.some.inj h2
  omega
def zl(n:Nat)(p:List Int):List (mZ n):=p.filterMap fun x=>if h:0≤x∧x<(n:Int) then some ⟨x,h⟩ else none
theorem GA{n:Nat}:∀{p:List Int},(∀x∈p,0≤x∧x<(n:Int))→jz (zl n p)=p
 | [],_=>rfl
 |x::p,h=>by
  have hx:=h x (bV ..)
  have ih:=GA (p:=p) fun y hy=>h y (cE _ hy)
  unfold zl at ih ⊢
  rw[List.filterMap_cons,dif_pos hx]
  show x::jz _=_
  rw[ih]
def fm(n:Nat)(rk:List Int)(p:List Int):List Int:=jz (vI rk (zl n p))
theorem Rn{n:Nat}{rk p:List Int}(h:∀x∈p,0≤x∧x<(n:Int)):(fm n rk p).Perm p:=by
 have h1:(jz (vI rk (zl n p))).Perm (jz (zl n p)):=List.Perm.map _ (List.mergeSort_perm _ _)
 rw[GA h]at h1
 exact h1
theorem XO{n:Nat}{rk p:List Int}(h:∀x∈p,0≤x∧x<(n:Int)):(fm n rk p).length=p.length:=(Rn h).length_eq
def nD(n:Nat)(l:List bg)(fr:List Int):List Int:=(kd n l).flatMap (fm n (zL n (qm n l fr)))
def qG(n:Nat)(rk:List Int)(rw:List (Nat×List Int))(k:Nat):List (Nat×List Int):=(rw.take k).map (fun r=>(r.1,fm n rk r.2))++rw.drop k
theorem acT(n:Nat)(rk:List Int)(b bk:Nat)(p:List Int)(σ:Hp)(hr:um n rk)(hp:∀x∈p,0≤x∧x<(n:Int))(h0:0<p.length)(hl:p.length≤1000000):ACalls Tryz.prog 259 [.ae b 0 p.length 1,.fn (.func 260) [] [.ptr bk 0]] ((b,ak p)::(bk,[.ai (.int .i64) rk])::σ) (aE (.tup []) ((b,ak (fm n rk p))::(bk,[.ai (.int .i64) rk])::σ)):=by
 obtain⟨x,hx⟩:∃x,x∈p:=by
  match p,h0 with
  |x::_,_=>exact⟨x,bV ..⟩
 haveI:Inhabited (mZ n):=⟨⟨x,hp x hx⟩⟩
 have e:(zl n p).length=p.length:=by
  have:=congrArg List.length (GA hp)
  rw[Cs]at this
  exact this
 have h:=aaS n rk b bk (zl n p) p.length σ hr e h0 hl
 rw[GA hp]at h
 exact h
theorem afg{n:Nat}{rk:List Int}{rw:List (Nat×List Int)}{k b:Nat}{p:List Int}(h:rw[k]?=some (b,p)):(qG n rk rw k)[k]?=some (b,p)∧(qG n rk rw (k+1))[k]?=some (b,fm n rk p):=by
 have hk:=(bQ.1 h).1
 have hg:rw[k]=(b,p):=(bQ.1 h).2
 have hl:((rw.take k).map (fun r=>(r.1,fm n rk r.2))).length=k:=by rw[cb,sb];omega
 refine⟨?_,?_⟩
 ·unfold qG
  rw[ij (by omega),hl,qT,wV,uN]
  exact h
 ·unfold qG
  rw[fQ hk,cM,hg,dN,ij (by omega),hl,qT]
  rfl
theorem ZH{n:Nat}{rk:List Int}{rw:List (Nat×List Int)}{k b:Nat}{p:List Int}(h:rw[k]?=some (b,p)):qG n rk rw k=(rw.take k).map (fun r=>(r.1,fm n rk r.2))++(b,p)::rw.drop (k+1)∧qG n rk rw (k+1)=(rw.take k).map (fun r=>(r.1,fm n rk r.2))++(b,fm n rk p)::rw.drop (k+1):=by
 have hk:=(bQ.1 h).1
 have hg:rw[k]=(b,p):=(bQ.1 h).2
 refine⟨?_,?_⟩
 ·unfold qG
  rw[Kb hk,hg]
 ·unfold qG
  rw[fQ hk,cM,hg,dN]
  rfl
theorem SA(A B:List (Nat×List Int))(b:Nat)(p:List Int)(x:Nat×List AV)(X σ:Hp):((b,ak p)::x::(X++(eM A++(eM B++σ)))).Perm (x::(X++(eM (A++(b,p)::B)++σ))):=by
 have e:eM (A++(b,p)::B)++σ=eM A++((b,ak p)::(eM B++σ)):=by
  unfold eM
  rw[cM,dN];rfl
 rw[e]
 refine (List.Perm.swap _ _ _).trans (List.Perm.cons _ ?_)
 exact (nU.symm).trans (List.Perm.append_left X nU.symm)
theorem ka.perm{n:Nat}{p q:List Int}(h:ka n p)(hp:q.Perm p):ka n q:=⟨hp.nodup_iff.2 h.nd,fun x hx=>h.rg x (hp.mem_iff.1 hx),fun x hx=>hp.mem_iff.2 (h.all x hx)⟩
theorem RV{n:Nat}{rk:List Int}:∀{Q:List (List Int)},(∀p∈Q,∀x∈p,0≤x∧x<(n:Int))→(Q.flatMap (fm n rk)).Perm Q.flatten
 | [],_=>List.Perm.nil
 |p::Q,h=>by
  rw[yA,Cf]
  exact (Rn (h p (bV ..))).append (RV fun q hq=>h q (cE _ hq))
theorem oL.flat{n:Nat}{l:List bg}{P Q:List (List Int)}(h:oL n l P)(hp:Q.Perm P):(∀p∈Q,p≠[])∧(∀p∈Q,∀x∈p,0≤x∧x<(n:Int))∧ka n Q.flatten:=by
 have hn:∀p∈Q,∀x∈p,0≤x∧x<(n:Int):=fun p hq=>h.ok.node p (hp.mem_iff.1 hq)
 refine⟨fun p hq=>h.ok.ne p (hp.mem_iff.1 hq),hn,(hp.flatten).nodup_iff.2 h.ok.nd,fun x hx=>?_,fun x hx=>?_⟩
 ·obtain⟨p,hq,rO⟩:=oX.1 hx
  exact hn p hq x rO
 ·obtain⟨p,hq,rO⟩:=h.all x hx.1 hx.2
  exact oX.2 ⟨p,hp.mem_iff.2 hq,rO⟩
theorem QL:∀{Q:List (List Int)},(∀p∈Q,p≠[])→Q.length≤Q.flatten.length
 | [],_=>aM _
 |p::Q,h=>by
  have ih:=QL (Q:=Q) fun q hq=>h q (cE _ hq)
  have:=mm.2 (h p (bV ..))
  rw[Cf,bG,fO]
  omega
theorem aeS(n:Nat)(l:List bg)(fr:List Int)(σ:Hp)(hl:l.length≤100000)(hf:fr.length≤100000)(dW:fu n l=true)(uF:∀x∈fr,0≤x∧x<(n:Int)):ACalls Tryz.prog 215 [.int .i64 n,.ai dG l,.ai (.int .i64) fr] σ (fun r σ'=>∃bo,r=.tup [.ae bo 0 (nD n l fr).length 1,.int .i64 0]∧σ'=(bo,ak (nD n l fr))::σ∧ka n (nD n l fr)∧(∀p∈kd n l,p≠[])∧ka n (kd n l).flatten∧ka n (qm n l fr)):=by
 have hn:1≤n∧n≤256:=by
  unfold fu at dW
  simp only[bL,decide_eq_true_eq]at dW
  omega
 refine aA Tryz.func215 ?_
 refine .mk [] _ (ag9 n l fr _ hl hf dW uF) ?_
 rintro _ τ ⟨rfl,Og,hA⟩
 subst τ
 have hR:=hA.rk (by omega)
 intro b8
 refine an 0 ?_
 refine .mk [] _ (aeN n l _ hl dW) ?_
 rintro _ _ ⟨bo,eL,rfl,mN,rfl,P,cf,E6⟩
 obtain⟨aO,qp,gG⟩:=cf.flat E6
 have Fz:ka n (nD n l fr):=gG.perm (RV qp)
 unfold nD at Fz ⊢
 generalize zL n (qm n l fr)=rk at hR Fz
 generalize kd n l=Q at mN aO qp Fz gG
 have hQl:eL.length=Q.length:=by rw[← mN,cb]
 have hlen:=Fz.len
 have ahH:∀p∈Q,p.length≤n:=fun p hp=>by
  have h1:p.Sublist Q.flatten:=List.sublist_flatten_of_mem hp
  have:=h1.length_le
  have:=gG.len
  omega
 have V1:eL.length≤n:=by
  have:=QL aO
  have:=gG.len
  omega
 have h0:qG n rk eL 0=eL:=by simp[qG]
 have hH:((b8,[AV.ai (.int .i64) rk])::(bo,fg eL)::(eM eL++([]++σ))).Perm ((bo,fg eL)::(eM eL++((b8,[AV.ai (.int .i64) rk])::σ))):=
  (List.Perm.swap _ _ _).trans (List.Perm.cons _ nU.symm)
 refine .wrap 11 .aj rfl rfl ?_
 refine .dM (.perm hH (.refl _)) ?_
 refine cj (S:=Nat×AV×Hp) (fun x=>[(8,.ptr b8 0),(9,.int .i64 0),(11,.via x.2.1),(30,.ae bo 0 eL.length 1),(31,.int .i64 eL.length),(32,.int .i64 x.1)]) (fun x=>(b8,[.ai (.int .i64) rk])::(bo,fg eL)::(eM (qG n rk eL x.1)++(x.2.2++σ))) (fun x=>x.1≤eL.length∧Acc 1 ((Q.take x.1).flatMap (fm n rk)).length x.2.1 x.2.2 (ak ((Q.take x.1).flatMap (fm n rk)))) (fun x=>eL.length-x.1) (0,.aj,[]) ⟨⟨bK _,.nil⟩,⟨rfl,rfl,rfl,rfl,rfl,rfl,trivial⟩,by rw[h0]⟩ ?_
 rintro⟨k,v,acc⟩ g ⟨hk,cC⟩
 have hk:k≤eL.length:=hk
 have cC:Acc 1 ((Q.take k).flatMap (fm n rk)).length v acc (ak ((Q.take k).flatMap (fm n rk))):=cC
 refine aq (p:=(k:Int)<eL.length) (fun ab=>?_) (fun ay=>?_)
 ·have ab:k<eL.length:=by omega
  obtain⟨p,hp⟩:∃p,Q[k]?=some p:=⟨Q[k]'(by omega),bc (by omega)⟩
  obtain⟨bk,ym⟩:=DO mN hp
  have fw:=bH hp
  have Jq:=qp p fw
  have uA:=mm.2 (aO p fw)
  have sW:=ahH p fw
  have cH:=XO (rk:=rk) Jq
  obtain⟨s1,s2⟩:=ZH (n:=n) (rk:=rk) ym
  have iz:Q.take (k+1)=Q.take k++[p]:=by
   rw[fQ (by omega)]
   rw[bc (by omega)]at hp
   rw[Option.some.inj hp]
  have nP:((Q.take k).flatMap (fm n rk)).length+p.length≤n:=by
   have e:Q.flatMap (fm n rk)=(Q.take (k+1)).flatMap (fm n rk)++(Q.drop (k+1)).flatMap (fm n rk):=by rw[← tc,yB]
   have:=congrArg List.length e
   rw[iz,List.flatMap_append,List.length_append,List.length_append,show [p].flatMap (fm n rk)=fm n rk p by simp]at this
   omega
  refine aK ?_
  refine aT 1 rfl (DF rfl (by omega) (by rw[bU];exact ym)) ?_
  rw[s1]
  refine .perm _ (SA _ _ bk p (b8,[.ai (.int .i64) rk]) [(bo,fg eL)] (acc++σ)) (acT n rk bk b8 p _ hR Jq uA (by omega)) ?_
  rintro _ _ ⟨rfl,rfl⟩
  refine⟨_,(SA _ _ bk (fm n rk p) (b8,[.ai (.int .i64) rk]) [(bo,fg eL)] (acc++σ)).symm,?_⟩
  rw[← s2]
  have dX:=(afg (n:=n) (rk:=rk) ym).2
  refine my (_::_::eM (qG n rk eL (k+1))) cC (.ae (k+2) bk 0 p.length (ak (fm n rk p)) (HH dX) (by rw[mw,cH];show 0+p.length*1≤_;omega)) ?_ (by omega) (by decide) (by decide) (fun v' bN h'=>?_)
  ·show (List.take (p.length*1) (List.drop 0 (ak (fm n rk p)))).length=p.length*1
   rw[sb,JW,mw,cH];omega
  ·refine aZ (k+1,v',bN) (by show eL.length-(k+1)<eL.length-k;omega) ⟨ab,?_⟩ ⟨rfl,rfl,rfl,rfl,rfl,bu (by omega),trivial⟩ (.refl _)
   have e:List.take (p.length*1) (List.drop 0 (ak (fm n rk p)))=ak (fm n rk p):=by rw[iB,eZ (by rw[mw,cH];omega)]
   have h2:Acc 1 (((Q.take k).flatMap (fm n rk)).length+p.length) v' bN (ak ((Q.take k).flatMap (fm n rk))++List.take (p.length*1) (List.drop 0 (ak (fm n rk p)))):=h'
   rw[e,← cH,← bG,show ak ((Q.take k).flatMap (fm n rk))++ak (fm n rk p)=ak ((Q.take k).flatMap (fm n rk)++fm n rk p) by unfold ak;rw[cM]]at h2
   show Acc 1 ((Q.take (k+1)).flatMap (fm n rk)).length v' bN (ak ((Q.take (k+1)).flatMap (fm n rk)))
   rw[iz,List.flatMap_append,show [p].flatMap (fm n rk)=fm n rk p by simp]
   exact h2
 ·have ay:¬(k:Int)<eL.length:=ay
  rw[eZ (by omega)]at cC
  obtain⟨b,rfl,rfl⟩:=tz (by omega) cC
  exact .drop 0 2 (Y3 (eM (qG n rk eL k)) (.done ⟨b,rfl,rfl,Fz,aO,gG,hA⟩))
end Go.Proofs.YtnikdflhefijbaaGreat
