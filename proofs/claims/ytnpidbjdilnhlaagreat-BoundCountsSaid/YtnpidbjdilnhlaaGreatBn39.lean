import Derived.Test.YtnpidbjdilnhlaaGreatBn38
namespace Go.Proofs.YtnpidbjdilnhlaaGreat
open Go.RowKit
set_option maxRecDepth 100000
set_option maxHeartbeats 4000000
theorem Ar{P:List (List Int)}{rw:List (Nat×List Int)}{i:Nat}{p:List Int}(h:rw.map Prod.snd=P)(hp:P[i]?=some p):∃b,rw[i]?=some (b,p):=by
 rw[← h,List.getElem?_map]at hp
 cases hr:rw[i]? with
 | none=>rw[hr]at hp;cases hp
 | some r=>rw[hr]at hp;cases hp;exact⟨r.1,rfl⟩
theorem Aj{i:TI}(hw:i.wide=false){rw:List (Nat×List Int)}{z:Int}{b:Nat}{p:List Int}(_hz:0≤z)(h:rw[z.toNat]?=some (b,p)):cY i (dW rw) (0+z.toNat*1)=some (.ae b 0 p.length 1):=
 gN hw (by rw[Nat.zero_add,Nat.mul_one];unfold dW;rw[List.getElem?_map,h];rfl)
theorem Dz{rw:List (Nat×List Int)}{i b:Nat}{p:List Int}{σ:Hp}(h:rw[i]?=some (b,p)):(dH rw++σ)[i]?=some (b,aj p):=by
 have hi:i<(dH rw).length:=by unfold dH;rw[List.length_map];exact (List.getElem?_eq_some_iff.1 h).1
 rw[List.getElem?_append_left hi]
 unfold dH
 rw[List.getElem?_map,h];rfl
theorem Mt{p:List Int}{x:Int}(h:p[((0:Int)).toNat]?=some x):p.getD ((0:Int)).toNat 0=x:=by rw[List.getD_eq_getElem?_getD,h];rfl
theorem Lq:∀{ro:List (Nat×List Int)},(ro.map Prod.snd).flatten.Nodup→(∀r∈ro,r.2≠[])→ro.Nodup
 | [],_,_=>List.nodup_nil
 | r::ro,h,aI=>by
  have h:(r.2++(ro.map Prod.snd).flatten).Nodup:=h
  have h:=List.nodup_append.1 h
  refine List.nodup_cons.2 ⟨fun hm =>?_,Lq h.2.1 fun q hq=>aI q (List.mem_cons_of_mem _ hq)⟩
  obtain⟨x,hx⟩:=List.exists_mem_of_ne_nil _ (aI r (List.mem_cons_self ..))
  exact h.2.2 x hx x (List.mem_flatten.2 ⟨r.2,List.mem_map.2 ⟨r,hm,rfl⟩,hx⟩) rfl
theorem K1{α:Type}[DecidableEq α]:∀{A B:List α},A.Nodup→(∀x∈A,x∈B)→B.length≤A.length→A.Perm B
 | [],B,_,_,h=>by rw[List.length_eq_zero_iff.1 (Nat.le_zero.1 h)]
 | a::A,B,hn,hs,hl=>by
  have hn:=List.nodup_cons.1 hn
  have ha:=hs a (List.mem_cons_self ..)
  have hp:=List.perm_cons_erase ha
  have hle:=hp.length_eq
  refine (List.Perm.cons a (K1 hn.2 (fun x hx =>?_) ?_)).trans hp.symm
  ·exact (List.mem_erase_of_ne (fun e:x=a=>hn.1 (e▸hx))).2 (hs x (List.mem_cons_of_mem _ hx))
  ·rw[List.length_cons]at hle hl;omega
theorem Vw(n:Nat)(l:List aV)(P:List (List Int))(rw:List (Nat×List Int))(bq:Nat)(σ:Hp)(h:mi n l P)(kM:rw.map Prod.snd=P)(rJ:0<P.length)(hl:l.length≤100000)(hn:n≤1000)(hr:∀e∈l,(0≤e.1∧e.1<(n:Int))∧0≤e.2.1∧e.2.1<(n:Int)):
  ACalls Tryz.prog 206 [.int .i64 n,.ah cI l,.ae bq 0 P.length 1] ((bq,dW rw)::(dH rw++σ)) (fun r σ'=>∃bo dG,r=.ae bo 0 dG.length 1∧dG.map Prod.snd=iI n l∧σ'=(bo,dW dG)::(dH dG++σ)∧(iI n l).Perm P):=by
 have sT:rw.length=P.length:=by rw[← kM,List.length_map]
 obtain⟨ql,hpf⟩:=zk h.ok
 have hNt:((n:Nat):Int).toNat=n:=Int.toNat_natCast n
 refine okF Tryz.func206 (by kernel_rfl) ?_
 intro bl
 refine ag.mk ⟨by omega,by omega,by omega,by decide⟩ ?_
 intro bw
 intro bW
 refine ai 0 ?_
 refine bO (S:=Nat) (fun k=>[(2,.ae bq 0 P.length 1),(4,.ptr bl 0),(7,.ptr bW 0),(20,.ae bq 0 P.length 1),(21,.int .i64 P.length),(22,.int .i64 k)]) (fun k=>(bW,[.ae bw 0 n 1])::(bw,aj (kH P k (List.replicate n 0)))::(bl,[.ah cI l])::(bq,dW rw)::(dH rw++σ)) (fun k=>k≤P.length) (fun k=>P.length-k) 0 ⟨Nat.zero_le _,⟨rfl,rfl,rfl,rfl,rfl,rfl,trivial⟩,by rw[show aj (kH P 0 (List.replicate n 0))=bU [.int .i64 0] n from (vm n).symm];rfl⟩ ?_
 intro k g aZ
 have hk:k≤P.length:=aZ
 clear aZ
 refine ao (p:=(k:Int)<P.length) (fun ab =>?_) (fun au =>?_)
 ·have ab:k<P.length:=by omega
  obtain⟨p,hp⟩:∃p,P[k]=p:=⟨_,rfl⟩
  have dN:P[k]?=some p:=(List.getElem?_eq_getElem ab).trans (congrArg some hp)
  have qk:=h.ok.node p (List.mem_of_getElem? dN)
  have ac3:p.length≤n:=zm n p ((h.ok.yu p (List.mem_of_getElem? dN)).imp fun h=>by omega) qk
  have py:=y4 P k (List.replicate n 0)
  rw[List.length_replicate]at py
  have qg:kH P (k+1) (List.replicate n 0)=jD k p (kH P k (List.replicate n 0)):=by show jD k (P.getD k []) _=_;rw[r9 dN]
  generalize kH P k (List.replicate n 0)=W at py qg
  obtain⟨bk,uH⟩:=Ar kM dN
  refine ag.mk ⟨rfl,by omega,by omega⟩ ?_
  refine aL 3 rfl (Aj rfl (by omega) (by rw[Int.toNat_natCast];exact uH)) ?_
  refine bO (S:=Nat) (fun j=>[(2,.ae bq 0 P.length 1),(4,.ptr bl 0),(7,.ptr bW 0),(8,.int .i64 k),(20,.ae bq 0 P.length 1),(21,.int .i64 P.length),(22,.int .i64 k),(27,.ae bk 0 p.length 1),(28,.int .i64 p.length),(29,.int .i64 j)]) (fun j=>(bW,[.ae bw 0 n 1])::(bw,aj (jD k (p.take j) W))::(bl,[.ah cI l])::(bq,dW rw)::(dH rw++σ)) (fun j=>j≤p.length) (fun j=>p.length-j) 0 ⟨Nat.zero_le _,⟨rfl,rfl,rfl,rfl,rfl,rfl,rfl,rfl,rfl,rfl,trivial⟩,rfl⟩ ?_
  intro j g2 qo
  have hj:j≤p.length:=qo
  clear qo
  refine ao (p:=(j:Int)<p.length) (fun ey =>?_) (fun nh =>?_)
  ·have ey:j<p.length:=by omega
   obtain⟨a,ha⟩:∃a,p[j]=a:=⟨_,rfl⟩
   have qt:=qk a (ha▸List.getElem_mem ey)
   have ak:(jD k (p.take j) W).set a.toNat k=jD k (p.take (j+1)) W:=by unfold jD;rw[List.take_succ_eq_append_getElem ey,ha,List.foldl_append];rfl
   have uA:=Cm k (p.take j) W
   refine ag.mk ⟨rfl,by omega,by omega⟩ ?_
   refine dJ.mk (k+4) _ _ (Dz uH) (dT rfl (by omega) (by omega)) ?_
   rw[Int.toNat_natCast,show p.getD j 0=a by rw[List.getD_eq_getElem?_getD,List.getElem?_eq_getElem ey,ha];rfl]
   refine aa 0 ?_
   refine ag.mk ⟨rfl,by omega,by omega⟩ ?_
   refine cd 1 rfl (kZ rfl _ qt.1 (by omega)) ?_
   exact bg (j+1) (by show p.length-(j+1)<p.length-j;omega) ey ⟨rfl,rfl,rfl,rfl,rfl,rfl,rfl,rfl,rfl,a8 (by omega),trivial⟩ (aF (by rw[← ak];rfl))
  ·have nh:j=p.length:=by omega
   subst nh
   exact bg (k+1) (by show P.length-(k+1)<P.length-k;omega) ab ⟨rfl,rfl,rfl,rfl,rfl,a8 (by omega),trivial⟩ (aF (by rw[List.take_length,qg]))
 ·have au:k=P.length:=by omega
  subst au
  have J5:∀j:Nat,j<n→0≤(aO n P).getD j 0∧(aO n P).getD j 0<(P.length:Int):=fun j hj=>by
   obtain⟨i,p,hi,_,hw⟩:=h.idx (x:=(j:Int)) (by omega)
   rw[Int.toNat_natCast]at hw
   have:=ve hi
   rw[hw];omega
  have py:=Lh n P
  have A8:=fun k hk=>(Df h hr k hk)
  have ui:=HW h hr
  have aI:∀(i:Nat) (p:List Int),P[i]?=some p→p[((0:Int)).toNat]?=some (fW P i):=fun i p hi=>by
   unfold fW
   rw[r9 hi]
   exact OJ (List.length_pos_iff.2 (h.ok.ne p (List.mem_of_getElem? hi)))
  rw[show kH P P.length (List.replicate n 0)=aO n P from rfl]
  refine ag.mk ⟨by omega,by omega,by show ((P.length:Nat):Int)≤1048576;omega,by decide⟩ ?_
  intro bt
  intro bT
  refine ai 0 ?_
  obtain⟨m,hm⟩:∃m,P.length=m:=⟨_,rfl⟩
  refine .wrap 14 _ rfl rfl ?_
  refine .cO (.pull [0,2,3,3] (.refl _)) ?_
  refine bO (S:=Nat×(AV×Hp)×List (Nat×List Int)) (fun x=>[(2,.ae bq 0 P.length 1),(12,.ptr bT 0),(13,.fn (.func 248) [] [.ptr bT 0,.ptr bl 0,.ptr bW 0]),(14,.via x.2.1.1),(44,.int .i64 P.length),(45,.int .i64 x.1)]) (fun x=>(bT,[.ae bt 0 P.length 1])::(bW,[.ae bw 0 n 1])::(bw,aj (aO n P))::(bt,aY (cD P l (aO n P) x.1).1)::(bl,[.ah cI l])::(bq,dW rw)::(dH rw++(x.2.1.2++σ))) (fun x=>x.1≤P.length∧Acc 1 x.1 x.2.1.1 x.2.1.2 (dW x.2.2)∧x.2.2.map Prod.snd=(cD P l (aO n P) x.1).2∧∀r∈x.2.2,r∈rw) (fun x=>P.length-x.1) (0,(.af,[]),[]) ⟨⟨Nat.zero_le _,.nil,rfl,fun r hr=>absurd hr (by simp)⟩,⟨rfl,rfl,rfl,rfl,rfl,rfl,trivial⟩,by rw[show aY (cD P l (aO n P) 0).1=bU [.bool false] P.length from (zT P.length).symm];rfl⟩ ?_
  rintro⟨k,⟨v,acc⟩,ro⟩ g2 ⟨aZ,kB,QO,Qh⟩
  have hk:k≤P.length:=aZ
  have bP:Acc 1 k v acc (dW ro):=kB
  have kL:ro.map Prod.snd=(cD P l (aO n P) k).2:=QO
  have kf:∀r∈ro,r∈rw:=Qh
  clear aZ kB QO Qh
  refine ao (p:=(k:Int)<P.length) (fun ab =>?_) (fun au =>?_)
  ·have ab:k<P.length:=by omega
   obtain⟨hO,AE,_⟩:=A8 k hk
   obtain⟨b,hb,my⟩:=AE ab
   have BV:=hO.tl
   have dX:(cD P l (aO n P) (k+1)).1=(cD P l (aO n P) k).1.set b true:=by
    show (cD P l (aO n P) k).1.set (ec P l (aO n P) (cD P l (aO n P) k).1 P.length).toNat true=_
    rw[hb,Int.toNat_natCast]
   have fq:(cD P l (aO n P) (k+1)).2=(cD P l (aO n P) k).2++[P.getD b []]:=by
    show (cD P l (aO n P) k).2++[P.getD (ec P l (aO n P) (cD P l (aO n P) k).1 P.length).toNat []]=_
    rw[hb,Int.toNat_natCast]
   generalize (cD P l (aO n P) k).1=T at hb BV dX
   rw[← kL]at fq
   clear hO AE
   have I5:=Cv P l (aO n P) T
   refine bO (S:=Nat) (fun i=>[(2,.ae bq 0 P.length 1),(12,.ptr bT 0),(13,.fn (.func 248) [] [.ptr bT 0,.ptr bl 0,.ptr bW 0]),(14,.via v),(15,.int .i64 (ec P l (aO n P) T i)),(44,.int .i64 P.length),(45,.int .i64 k),(47,.ae bq 0 P.length 1),(48,.int .i64 P.length),(49,.int .i64 i)]) (fun _=>(bT,[.ae bt 0 P.length 1])::(bW,[.ae bw 0 n 1])::(bw,aj (aO n P))::(bt,aY T)::(bl,[.ah cI l])::(bq,dW rw)::(dH rw++(acc++σ))) (fun i=>i≤P.length) (fun i=>P.length-i) 0 ⟨Nat.zero_le _,⟨rfl,rfl,rfl,rfl,rfl,rfl,rfl,rfl,rfl,rfl,trivial⟩,rfl⟩ ?_
   intro i g3 dY
   have hi:i≤P.length:=dY
   clear dY
   refine ao (p:=(i:Int)<P.length) (fun ey =>?_) (fun nh =>?_)
   ·have ey:i<P.length:=by omega
    obtain⟨p,hp⟩:∃p,P[i]=p:=⟨_,rfl⟩
    have dN:P[i]?=some p:=(List.getElem?_eq_getElem ey).trans (congrArg some hp)
    have s5:=fun ρ=>QA bW bw bl bT bt n P.length l (aO n P) T i ρ hl (by omega) hr py BV J5
    have dB:ec P l (aO n P) T (i+1)=if lh l (aO n P) T i=true∧(ec P l (aO n P) T i<0∨fW P i<fW P (ec P l (aO n P) T i).toNat) then (i:Int) else ec P l (aO n P) T i:=rfl
    have BT:=I5 i
    obtain⟨bi,hbi⟩:=Ar kM dN
    have rC:0<p.length:=List.length_pos_iff.2 (h.ok.ne p (List.mem_of_getElem? dN))
    refine ag.mk ⟨rfl,by omega,by omega⟩ ?_
    refine aL 5 rfl (Aj rfl (by omega) (by rw[Int.toNat_natCast];exact hbi)) ?_
    cases hf:lh l (aO n P) T i with
    | false =>
     rw[hf]at s5 dB
     rw[if_neg (fun h=>by cases h.1)]at dB
     refine .quiet (by kernel_rfl) ?_
     refine aD [] (s5 _) ?_
     exact bg (i+1) (by show P.length-(i+1)<P.length-i;omega) ey ⟨rfl,rfl,rfl,rfl,by rw[dB];rfl,rfl,rfl,rfl,rfl,a8 (by omega),trivial⟩ (.refl _)
    | true =>
     rw[hf]at s5 dB
     refine .quiet (by kernel_rfl) ?_
     refine aD [] (s5 _) ?_
     refine ao (p:=ec P l (aO n P) T i<0) (fun c1 =>?_) (fun c1 =>?_)
     ·rw[if_pos ⟨rfl,.inl c1⟩]at dB
      exact bg (i+1) (by show P.length-(i+1)<P.length-i;omega) ey ⟨rfl,rfl,rfl,rfl,by rw[dB];rfl,rfl,rfl,rfl,rfl,a8 (by omega),trivial⟩ (.refl _)
     ·obtain⟨b2,e2,l2,_⟩:=BT.resolve_left fun h=>c1 (by rw[h.1];decide)
      obtain⟨p2,cx⟩:∃p,P[b2]?=some p:=⟨P[b2],List.getElem?_eq_getElem (by omega)⟩
      have QS:P[(ec P l (aO n P) T i).toNat]?=some p2:=by rw[e2,Int.toNat_natCast];exact cx
      have Fw:0≤ec P l (aO n P) T i:=by omega
      rw[e2,Int.toNat_natCast,← e2]at dB
      obtain⟨bb,qs⟩:=Ar kM cx
      have hp20:0<p2.length:=List.length_pos_iff.2 (h.ok.ne p2 (List.mem_of_getElem? cx))
      refine ag.mk ⟨rfl,by decide,by omega⟩ ?_
      refine dJ.mk (i+6) _ _ (Dz hbi) (dT rfl (by decide) (by omega)) ?_
      refine ag.mk ⟨rfl,by omega,by omega⟩ ?_
      refine aL 5 rfl (Aj rfl (by omega) (by rw[e2,Int.toNat_natCast];exact qs)) ?_
      refine ag.mk ⟨rfl,by decide,by omega⟩ ?_
      refine dJ.mk (b2+6) _ _ (Dz qs) (dT rfl (by decide) (by omega)) ?_
      rw[show p.getD (0:Int).toNat 0=fW P i from Mt (aI i p dN),show p2.getD (0:Int).toNat 0=fW P b2 from Mt (aI b2 p2 cx)]
      refine ao (p:=fW P i<fW P b2) (fun c2 =>?_) (fun c2 =>?_)
      ·rw[if_pos ⟨rfl,.inr c2⟩]at dB
       exact bg (i+1) (by show P.length-(i+1)<P.length-i;omega) ey ⟨rfl,rfl,rfl,rfl,by rw[dB];rfl,rfl,rfl,rfl,rfl,a8 (by omega),trivial⟩ (.refl _)
      ·rw[if_neg (fun h=>h.2.elim c1 c2)]at dB
       exact bg (i+1) (by show P.length-(i+1)<P.length-i;omega) ey ⟨rfl,rfl,rfl,rfl,by rw[dB];rfl,rfl,rfl,rfl,rfl,a8 (by omega),trivial⟩ (.refl _)
   ·have nh:i=P.length:=by omega
    subst nh
    refine aa 0 ?_
    refine ag.mk ⟨rfl,by omega,by omega⟩ ?_
    refine cd 3 rfl (vk rfl true (by omega) (by omega)) ?_
    obtain⟨pb,ot⟩:∃p,P[b]?=some p:=⟨P[b],List.getElem?_eq_getElem my⟩
    obtain⟨bb,qs⟩:=Ar kM ot
    rw[r9 ot]at fq
    refine ag.mk ⟨rfl,by omega,by omega⟩ ?_
    refine aL 5 rfl (Aj rfl (by omega) (by rw[hb,Int.toNat_natCast];exact qs)) ?_
    intro bs
    refine kr (_::_::_::_::_::_::_::dH rw) bP (.ae 0 bs 0 1 _ rfl (Nat.le_of_ble_eq_true rfl)) rfl (by omega) (by decide) (by decide) (fun v' bh h' =>?_)
    refine bg (k+1,(v',bh),ro++[(bb,pb)]) (by show P.length-(k+1)<P.length-k;omega) ⟨ab,?_,?_,fun r hr =>?_⟩ ⟨rfl,rfl,rfl,rfl,rfl,a8 (by omega),trivial⟩ (.drop 0 1 (aF (by rw[dX,hb,Int.toNat_natCast];rfl)))
    ·show Acc 1 (k+1) v' bh (dW (ro++[(bb,pb)]))
     rw[show dW (ro++[(bb,pb)])=dW ro++[.ae bb 0 pb.length 1] from List.map_append];exact h'
    ·show (ro++[(bb,pb)]).map Prod.snd=(cD P l (aO n P) (k+1)).2
     rw[fq,List.map_append];rfl
    ·rcases List.mem_append.1 hr with hr | hr
     ·exact kf r hr
     ·rw[List.mem_singleton.1 hr];exact List.mem_of_getElem? qs
  ·have au:k=P.length:=by omega
   subst au
   have hOI:=(A8 P.length (Nat.le_refl _)).1
   have lM:=hOI.ol
   have bB:=hOI.nd
   rw[← kL]at lM bB
   rw[ui]at kL
   rw[List.length_map]at lM
   have ac6:∀r∈ro,r.2≠[]:=fun r hr=>h.ok.ne r.2 (by rw[← kM];exact List.mem_map.2 ⟨r,kf r hr,rfl⟩)
   have ab4:ro.Nodup:=Lq bB ac6
   have l4:ro.Perm rw:=K1 ab4 kf (by omega)
   obtain⟨bo,rfl,rfl⟩:=qF (by omega) bP
   have hH:((bo,dW ro)::(dH ro++σ)).Perm (dH rw++([(bo,dW ro)]++σ)):=by
    refine (List.Perm.cons _ (List.Perm.append_right σ (List.Perm.map _ l4))).trans List.perm_middle.symm
   exact .drop 0 6 (.perm hH (.done ⟨bo,ro,by rw[lM];rfl,kL,rfl,by rw[← kL,← kM];exact List.Perm.map _ l4⟩))
set_option maxRecDepth 100000
set_option maxHeartbeats 4000000
theorem Zj(n:Nat)(l:List aV)(σ:Hp)(hl:l.length≤100000)(cU:ej n l=true):ACalls Tryz.prog 152 [.int .i64 n,.ah cI l] σ (fun r σ'=>∃bo dG,r=.tup [.ae bo 0 dG.length 1,.int .i64 0]∧dG.map Prod.snd=iI n l∧σ'=(bo,dW dG)::(dH dG++σ)∧∃P,mi n l P∧(iI n l).Perm P):=by
 have hn:1≤n∧n≤256:=by
  unfold ej at cU
  simp only[Bool.and_eq_true,decide_eq_true_eq]at cU
  omega
 have yO:∀e∈l,(0≤e.1∧e.1<(n:Int))∧0≤e.2.1∧e.2.1<(n:Int):=fun e he=>by
  unfold ej at cU
  simp only[Bool.and_eq_true,List.all_eq_true]at cU
  have:=cU.2 e he
  exact⟨jm.1 this.1,jm.1 this.2⟩
 refine okF Tryz.func152 (by kernel_rfl) ?_
 refine eH [] (An n l _ (by omega)) (fun _ =>?_) (fun c=>absurd c (by rw[cU];decide))
 refine fy.D4 (S:=Nat×Nat×Nat×Nat) [] (.one 0 false (.one 2 false (.one 4 false (.alt 1 (.alt 3 (.alt 5 (.one 6 false (.one 7 false (.one 8 false .stop))) (.one 7 false (.one 5 false (.one 6 false (.one 8 false .stop))))) (.alt 5 (.alt 3 (.one 6 false (.one 7 false (.one 8 false .stop))) (.one 7 false (.one 3 false (.one 6 false (.one 8 false .stop))))) (.one 7 false (.alt 3 (.one 5 false (.one 6 false (.one 8 false .stop))) (.one 5 false (.one 3 false (.one 6 false (.one 8 false .stop)))))))) (.alt 3 (.alt 1 (.alt 5 (.one 6 false (.one 7 false (.one 8 false .stop))) (.one 7 false (.one 5 false (.one 6 false (.one 8 false .stop))))) (.alt 5 (.alt 1 (.one 6 false (.one 7 false (.one 8 false .stop))) (.one 7 false (.one 1 false (.one 6 false (.one 8 false .stop))))) (.one 7 false (.alt 1 (.one 5 false (.one 6 false (.one 8 false .stop))) (.one 5 false (.one 1 false (.one 6 false (.one 8 false .stop)))))))) (.alt 5 (.alt 1 (.alt 3 (.one 6 false (.one 7 false (.one 8 false .stop))) (.one 7 false (.one 3 false (.one 6 false (.one 8 false .stop))))) (.alt 3 (.alt 1 (.one 6 false (.one 7 false (.one 8 false .stop))) (.one 7 false (.one 1 false (.one 6 false (.one 8 false .stop))))) (.one 7 false (.alt 1 (.one 3 false (.one 6 false (.one 8 false .stop))) (.one 3 false (.one 1 false (.one 6 false (.one 8 false .stop)))))))) (.one 7 false (.alt 1 (.alt 3 (.one 5 false (.one 6 false (.one 8 false .stop))) (.one 5 false (.one 3 false (.one 6 false (.one 8 false .stop))))) (.alt 3 (.alt 1 (.one 5 false (.one 6 false (.one 8 false .stop))) (.one 5 false (.one 1 false (.one 6 false (.one 8 false .stop))))) (.one 5 false (.alt 1 (.one 3 false (.one 6 false (.one 8 false .stop))) (.one 3 false (.one 1 false (.one 6 false (.one 8 false .stop))))))))))))))) (fun x=>[(0,.int .i64 n),(1,.ah cI l),(6,.ptr x.1 0)]) (fun x=>(x.1,[.af,.ae x.2.1 0 n 1,.ae x.2.2.1 0 n 1,.ae x.2.2.2 0 n 1,.af,.int .i64 0,.af])::(x.2.1,bU [.int .i64 0] n)::(x.2.2.1,bU [.int .i64 0] n)::(x.2.2.2,bU [.bool false] n)::σ) (by kernel_rfl) ?_ ?_
 ·refine And.intro ?_ ?_
  ·refine ag.mk ⟨by omega,by omega,by omega,by decide⟩ ?_
   intro bi
   refine And.intro ?_ ?_
   ·refine ag.mk ⟨by omega,by omega,by omega,by decide⟩ ?_
    intro bl
    refine And.intro ?_ ?_
    ·refine ag.mk ⟨by omega,by omega,by omega,by decide⟩ ?_
     intro bo
     intro w
     refine ai 0 ?_
     exact ca.mk (w,bi,bl,bo) ⟨rfl,rfl,rfl,trivial⟩ (.pull [3,3,2,1] (aF rfl))
    ·intro w
     refine ag.mk ⟨by omega,by omega,by omega,by decide⟩ ?_
     intro bo
     refine ai 1 ?_
     exact ca.mk (w,bi,bl,bo) ⟨rfl,rfl,rfl,trivial⟩ (.pull [3,3,2,0] (aF rfl))
   ·refine And.intro ?_ ?_
    ·refine ag.mk ⟨by omega,by omega,by omega,by decide⟩ ?_
     intro bo
     refine And.intro ?_ ?_
     ·refine ag.mk ⟨by omega,by omega,by omega,by decide⟩ ?_
      intro bl
      intro w
      refine ai 0 ?_
      exact ca.mk (w,bi,bl,bo) ⟨rfl,rfl,rfl,trivial⟩ (.pull [3,3,2,2] (aF rfl))
     ·intro w
      refine ag.mk ⟨by omega,by omega,by omega,by decide⟩ ?_
      intro bl
      refine ai 1 ?_
      exact ca.mk (w,bi,bl,bo) ⟨rfl,rfl,rfl,trivial⟩ (.pull [3,3,1,2] (aF rfl))
    ·intro w
     refine And.intro ?_ ?_
     ·refine ag.mk ⟨by omega,by omega,by omega,by decide⟩ ?_
      intro bl
      refine ag.mk ⟨by omega,by omega,by omega,by decide⟩ ?_
      intro bo
      refine ai 2 ?_
      exact ca.mk (w,bi,bl,bo) ⟨rfl,rfl,rfl,trivial⟩ (.pull [3,3,1,0] (aF rfl))
     ·refine ag.mk ⟨by omega,by omega,by omega,by decide⟩ ?_
      intro bo
      refine ag.mk ⟨by omega,by omega,by omega,by decide⟩ ?_
      intro bl
      refine ai 2 ?_
      exact ca.mk (w,bi,bl,bo) ⟨rfl,rfl,rfl,trivial⟩ (.pull [3,3,1,1] (aF rfl))
  ·refine And.intro ?_ ?_
   ·refine ag.mk ⟨by omega,by omega,by omega,by decide⟩ ?_
    intro bl
    refine And.intro ?_ ?_
    ·refine ag.mk ⟨by omega,by omega,by omega,by decide⟩ ?_
     intro bi
     refine And.intro ?_ ?_
     ·refine ag.mk ⟨by omega,by omega,by omega,by decide⟩ ?_
      intro bo
      intro w
      refine ai 0 ?_
      exact ca.mk (w,bi,bl,bo) ⟨rfl,rfl,rfl,trivial⟩ (.pull [3,3,3,1] (aF rfl))
     ·intro w
      refine ag.mk ⟨by omega,by omega,by omega,by decide⟩ ?_
      intro bo
      refine ai 1 ?_
      exact ca.mk (w,bi,bl,bo) ⟨rfl,rfl,rfl,trivial⟩ (.pull [3,3,3,0] (aF rfl))
    ·refine And.intro ?_ ?_
     ·refine ag.mk ⟨by omega,by omega,by omega,by decide⟩ ?_
      intro bo
      refine And.intro ?_ ?_
      ·refine ag.mk ⟨by omega,by omega,by omega,by decide⟩ ?_
       intro bi
       intro w
       refine ai 0 ?_
       exact ca.mk (w,bi,bl,bo) ⟨rfl,rfl,rfl,trivial⟩ (.pull [3,3,3,2] (aF rfl))
      ·intro w
       refine ag.mk ⟨by omega,by omega,by omega,by decide⟩ ?_
       intro bi
       refine ai 1 ?_
       exact ca.mk (w,bi,bl,bo) ⟨rfl,rfl,rfl,trivial⟩ (.pull [3,2,3,2] (aF rfl))
     ·intro w
      refine And.intro ?_ ?_
      ·refine ag.mk ⟨by omega,by omega,by omega,by decide⟩ ?_
       intro bi
       refine ag.mk ⟨by omega,by omega,by omega,by decide⟩ ?_
       intro bo
       refine ai 2 ?_
       exact ca.mk (w,bi,bl,bo) ⟨rfl,rfl,rfl,trivial⟩ (.pull [3,2,3,0] (aF rfl))
      ·refine ag.mk ⟨by omega,by omega,by omega,by decide⟩ ?_
       intro bo
       refine ag.mk ⟨by omega,by omega,by omega,by decide⟩ ?_
       intro bi
       refine ai 2 ?_
       exact ca.mk (w,bi,bl,bo) ⟨rfl,rfl,rfl,trivial⟩ (.pull [3,2,3,1] (aF rfl))
   ·refine And.intro ?_ ?_
    ·refine ag.mk ⟨by omega,by omega,by omega,by decide⟩ ?_
     intro bo
     refine And.intro ?_ ?_
     ·refine ag.mk ⟨by omega,by omega,by omega,by decide⟩ ?_
      intro bi
      refine And.intro ?_ ?_
      ·refine ag.mk ⟨by omega,by omega,by omega,by decide⟩ ?_
       intro bl
       intro w
       refine ai 0 ?_
       exact ca.mk (w,bi,bl,bo) ⟨rfl,rfl,rfl,trivial⟩ (.pull [3,3,2,3] (aF rfl))
      ·intro w
       refine ag.mk ⟨by omega,by omega,by omega,by decide⟩ ?_
       intro bl
       refine ai 1 ?_
       exact ca.mk (w,bi,bl,bo) ⟨rfl,rfl,rfl,trivial⟩ (.pull [3,3,1,3] (aF rfl))
     ·refine And.intro ?_ ?_
      ·refine ag.mk ⟨by omega,by omega,by omega,by decide⟩ ?_
       intro bl
       refine And.intro ?_ ?_
       ·refine ag.mk ⟨by omega,by omega,by omega,by decide⟩ ?_
        intro bi
        intro w
        refine ai 0 ?_
        exact ca.mk (w,bi,bl,bo) ⟨rfl,rfl,rfl,trivial⟩ (.pull [3,3,3,3] (aF rfl))
       ·intro w
        refine ag.mk ⟨by omega,by omega,by omega,by decide⟩ ?_
        intro bi
        refine ai 1 ?_
        exact ca.mk (w,bi,bl,bo) ⟨rfl,rfl,rfl,trivial⟩ (.pull [3,2,3,3] (aF rfl))
      ·intro w
       refine And.intro ?_ ?_
       ·refine ag.mk ⟨by omega,by omega,by omega,by decide⟩ ?_
        intro bi
        refine ag.mk ⟨by omega,by omega,by omega,by decide⟩ ?_
        intro bl
        refine ai 2 ?_
        exact ca.mk (w,bi,bl,bo) ⟨rfl,rfl,rfl,trivial⟩ (.pull [3,2,1,3] (aF rfl))
       ·refine ag.mk ⟨by omega,by omega,by omega,by decide⟩ ?_
        intro bl
        refine ag.mk ⟨by omega,by omega,by omega,by decide⟩ ?_
        intro bi
        refine ai 2 ?_
        exact ca.mk (w,bi,bl,bo) ⟨rfl,rfl,rfl,trivial⟩ (.pull [3,2,2,3] (aF rfl))
    ·intro w
     refine And.intro ?_ ?_
     ·refine ag.mk ⟨by omega,by omega,by omega,by decide⟩ ?_
      intro bi
      refine And.intro ?_ ?_
      ·refine ag.mk ⟨by omega,by omega,by omega,by decide⟩ ?_
       intro bl
       refine ag.mk ⟨by omega,by omega,by omega,by decide⟩ ?_
       intro bo
       refine ai 3 ?_
       exact ca.mk (w,bi,bl,bo) ⟨rfl,rfl,rfl,trivial⟩ (.pull [3,2,1,0] (aF rfl))
      ·refine ag.mk ⟨by omega,by omega,by omega,by decide⟩ ?_
       intro bo
       refine ag.mk ⟨by omega,by omega,by omega,by decide⟩ ?_
       intro bl
       refine ai 3 ?_
       exact ca.mk (w,bi,bl,bo) ⟨rfl,rfl,rfl,trivial⟩ (.pull [3,2,1,1] (aF rfl))
     ·refine And.intro ?_ ?_
      ·refine ag.mk ⟨by omega,by omega,by omega,by decide⟩ ?_
       intro bl
       refine And.intro ?_ ?_
       ·refine ag.mk ⟨by omega,by omega,by omega,by decide⟩ ?_
        intro bi
        refine ag.mk ⟨by omega,by omega,by omega,by decide⟩ ?_
        intro bo
        refine ai 3 ?_
        exact ca.mk (w,bi,bl,bo) ⟨rfl,rfl,rfl,trivial⟩ (.pull [3,2,2,0] (aF rfl))
       ·refine ag.mk ⟨by omega,by omega,by omega,by decide⟩ ?_
        intro bo
        refine ag.mk ⟨by omega,by omega,by omega,by decide⟩ ?_
        intro bi
        refine ai 3 ?_
        exact ca.mk (w,bi,bl,bo) ⟨rfl,rfl,rfl,trivial⟩ (.pull [3,2,2,1] (aF rfl))
      ·refine ag.mk ⟨by omega,by omega,by omega,by decide⟩ ?_
       intro bo
       refine And.intro ?_ ?_
       ·refine ag.mk ⟨by omega,by omega,by omega,by decide⟩ ?_
        intro bi
        refine ag.mk ⟨by omega,by omega,by omega,by decide⟩ ?_
        intro bl
        refine ai 3 ?_
        exact ca.mk (w,bi,bl,bo) ⟨rfl,rfl,rfl,trivial⟩ (.pull [3,2,1,2] (aF rfl))
       ·refine ag.mk ⟨by omega,by omega,by omega,by decide⟩ ?_
        intro bl
        refine ag.mk ⟨by omega,by omega,by omega,by decide⟩ ?_
        intro bi
        refine ai 3 ?_
        exact ca.mk (w,bi,bl,bo) ⟨rfl,rfl,rfl,trivial⟩ (.pull [3,2,2,2] (aF rfl))
 rintro⟨w,bi,bl,bo⟩ g
 have bY:∀(a:Nat) (σ:Hp),ACalls Tryz.prog 204 [.int .i64 n,.ah cI l,.int .i64 a] σ (az (.ah (.int .i64) (an n l a)) σ):=fun a σ=>x8 n l a σ hl
 have kj:∀k,bK ((List.range (k+1)).map fun a:Nat=>an n l a)=bK ((List.range k).map fun a:Nat=>an n l a)++[.ah (.int .i64) (an n l k)]:=fun k=>by rw[List.range_succ,List.map_append];exact List.map_append
 have eK:∀k,(bK ((List.range k).map fun a:Nat=>an n l a)).length=k:=fun k=>by rw[rQ,List.length_map,List.length_range]
 refine bO (S:=Nat×AV×Hp) (fun x=>[(0,.int .i64 n),(1,.ah cI l),(6,.ptr w 0),(20,.int .i64 n),(21,.int .i64 x.1)]) (fun x=>(w,[x.2.1,.ae bi 0 n 1,.ae bl 0 n 1,.ae bo 0 n 1,.af,.int .i64 0,.af])::(bi,bU [.int .i64 0] n)::(bl,bU [.int .i64 0] n)::(bo,bU [.bool false] n)::(x.2.2++σ)) (fun x=>x.1≤n∧(x.1<n→Acc 1 x.1 x.2.1 x.2.2 (bK ((List.range x.1).map fun a:Nat=>an n l a)))∧(x.1=n→x.2.1=.ah (.slice (.int .i64)) (bA n l)∧x.2.2=[])) (fun x=>n-x.1) (0,.af,[]) ⟨⟨Nat.zero_le _,fun _=>.nil,fun h=>by have h:0=n:=h;omega⟩,⟨rfl,rfl,rfl,rfl,rfl,trivial⟩,rfl⟩ ?_
 rintro⟨k,v,acc⟩ g ⟨aZ,kB,AB⟩
 have hk:k≤n:=aZ
 have bP:k<n→Acc 1 k v acc (bK ((List.range k).map fun a:Nat=>an n l a)):=kB
 have jB:k=n→v=.ah (.slice (.int .i64)) (bA n l)∧acc=[]:=AB
 clear aZ kB AB
 refine ao (p:=(k:Int)<n) (fun ab =>?_) (fun au =>?_)
 ·have ab:k<n:=by omega
  have bP:=bP ab
  clear jB
  have kl:(bA n l).length=n:=by unfold bA;rw[List.length_map,List.length_range]
  have yL:∀k,k+1=n→((bK ((List.range k).map fun a:Nat=>an n l a)++[AV.ah (.int .i64) (an n l k)]).drop 0).take ((k+1)*1)=(bA n l).flatMap (Sh.cells (.slice (.int .i64))):=fun k hk=>by
   rw[← kj,List.drop_zero,List.take_of_length_le (by rw[eK,Nat.mul_one];exact Nat.le_refl _),hk]
   exact tz _
  refine .sched [5] (.one 0 false (.one 2 false (.one 3 false (.one 4 false (.one 5 true (.alt 1 (.one 6 false (.one 7 false (.one 8 false (.one 9 false .stop)))) (.one 6 false (.one 1 false (.one 7 false (.one 8 false (.one 9 false .stop))))))))))) (by kernel_rfl) ?_
  refine aD [] (x8 n l _ _ hl) ?_
  refine And.intro ?_ ?_
  ·refine aa 0 ?_
   intro aC
   refine w8 [_,_,_,_,_] bP.uw (.ae 0 aC 0 1 _ rfl (Nat.le_of_ble_eq_true rfl)) rfl (by omega) (by decide) (by decide) (fun v' bh h' =>?_)
   obtain⟨b5,rfl,rfl⟩:=qF (by omega) h'
   refine ai 1 ?_
   by_cases jd:k+1=n
   ·refine .iU 5 b5 0 (k+1) 1 _ (.slice (.int .i64)) (bA n l) rfl (yL k jd) ⟨(kl.trans jd.symm),rfl,by decide⟩ 1 0 w _ rfl rfl ?_
    exact bg (k+1,.ah (.slice (.int .i64)) (bA n l),[]) (by show n-(k+1)<n-k;omega) ⟨ab,fun h=>absurd jd (by have h:k+1<n:=h;omega),fun _=>⟨rfl,rfl⟩⟩ ⟨rfl,rfl,rfl,rfl,a8 (by omega),trivial⟩ (.drop 0 1 (aF rfl))
   ·exact bg (k+1,.ae b5 0 (k+1) 1,[(b5,bK ((List.range k).map fun a:Nat=>an n l a)++[.ah (.int .i64) (an n l k)])]) (by show n-(k+1)<n-k;omega) ⟨ab,fun _=>by show Acc 1 (k+1) _ _ (bK ((List.range (k+1)).map fun a:Nat=>an n l a));rw[kj];exact h',fun h=>absurd h jd⟩ ⟨rfl,rfl,rfl,rfl,a8 (by omega),trivial⟩ (.drop 0 1 (aF rfl))
  ·intro dI
   refine aa 1 ?_
   refine w8 [_,_,_,_,_] bP.uw (.ae 0 dI 0 1 _ rfl (Nat.le_of_ble_eq_true rfl)) rfl (by omega) (by decide) (by decide) (fun v' bh h' =>?_)
   obtain⟨b5,rfl,rfl⟩:=qF (by omega) h'
   refine ai 1 ?_
   by_cases jd:k+1=n
   ·refine .iU 5 b5 0 (k+1) 1 _ (.slice (.int .i64)) (bA n l) rfl (yL k jd) ⟨(kl.trans jd.symm),rfl,by decide⟩ 1 0 w _ rfl rfl ?_
    exact bg (k+1,.ah (.slice (.int .i64)) (bA n l),[]) (by show n-(k+1)<n-k;omega) ⟨ab,fun h=>absurd jd (by have h:k+1<n:=h;omega),fun _=>⟨rfl,rfl⟩⟩ ⟨rfl,rfl,rfl,rfl,a8 (by omega),trivial⟩ (.drop 0 1 (aF rfl))
   ·exact bg (k+1,.ae b5 0 (k+1) 1,[(b5,bK ((List.range k).map fun a:Nat=>an n l a)++[.ah (.int .i64) (an n l k)])]) (by show n-(k+1)<n-k;omega) ⟨ab,fun _=>by show Acc 1 (k+1) _ _ (bK ((List.range (k+1)).map fun a:Nat=>an n l a));rw[kj];exact h',fun h=>absurd h jd⟩ ⟨rfl,rfl,rfl,rfl,a8 (by omega),trivial⟩ (.drop 0 1 (aF rfl))
 ·have au:k=n:=by omega
  obtain⟨rfl,rfl⟩:=jB au
  clear bP jB
  refine bO (S:=Nat×(List Int×List Int×List Bool×Nat×List (List Int))×(AV×Hp×AV×Hp)) (fun x=>[(0,.int .i64 n),(1,.ah cI l),(6,.ptr w 0),(34,.int .i64 n),(35,.int .i64 x.1)]) (fun x=>(w,cc (bA n l) bi bl bo n x.2.2.1 x.2.1.2.2.2.1 x.2.2.2.2.1)::(bi,aj x.2.1.1)::(bl,aj x.2.1.2.1)::(bo,aY x.2.1.2.2.1)::(x.2.2.2.1++(x.2.2.2.2.2++σ))) (fun x=>x.1≤n∧FI n (an n l) x.2.1.1 x.2.1.2.1 x.2.1.2.2.1 [] x.2.1.2.2.2.1 x.2.1.2.2.2.2 []∧fZ 1 0 x.2.2.1 x.2.2.2.1 []∧PO x.2.1.2.2.2.2 x.2.2.2.2.1 x.2.2.2.2.2∧∀b:Nat,b<x.1→x.2.1.1.getD b 0≠0) (fun x=>n-x.1) (0,(List.replicate n 0,List.replicate n 0,List.replicate n false,0,[]),(.af,[],.af,[])) ⟨⟨Nat.zero_le _,.start n (an n l),.nil,⟨[],[],rfl,.nil,rfl⟩,fun _ h=>absurd h (Nat.not_lt_zero _)⟩,⟨rfl,rfl,rfl,rfl,rfl,trivial⟩,by rw[vm,zT];rfl⟩ ?_
  clear au
  rintro⟨k,⟨ix,lo,on,aB,P⟩,⟨vs,jS,vp,dE⟩⟩ g2 ⟨aZ,nA,rz,rC,pr⟩
  have hk:k≤n:=aZ
  have hF:FI n (an n l) ix lo on [] aB P []:=nA
  have hs:fZ 1 0 vs jS []:=rz
  have hp:PO P vp dE:=rC
  have hv:∀b:Nat,b<k→ix.getD b 0≠0:=pr
  clear aZ nA rz rC pr
  have BN:((k:Nat):Int).toNat=k:=Int.toNat_natCast k
  refine ao (p:=(k:Int)<n) (fun ab =>?_) (fun au =>?_)
  ·have ab:k<n:=by omega
   refine aa 0 ?_
   refine ag.mk ⟨rfl,by omega,by omega⟩ ?_
   refine aL 1 rfl (dT rfl (by omega) (by rw[hF.li];omega)) ?_
   refine ao (p:=ix.getD ((k:Nat):Int).toNat 0=0) (fun c1 =>?_) (fun c1 =>?_)
   ·refine .mk [] _ (aaA n w bi bl bo l ix lo on aB P vs vp jS dE k σ (by omega) hF (by omega) c1 hs hp) ?_
    rintro _ _ ⟨rfl,Jt,Jr,Jo,Jd,P2,E2,IF,Jj,IG,Kg,fq,cx,qv,rD,rfl⟩
    rw[BN]at qv
    refine bg (k+1,(Jt,Jr,Jo,Jd,P2),(E2,IF,Jj,IG)) (by show n-(k+1)<n-k;omega) ⟨ab,Kg,fq,cx,fun b hb =>?_⟩ ⟨rfl,rfl,rfl,rfl,a8 (by omega),trivial⟩ (.refl _)
    have hb:b<k+1:=hb
    by_cases e:b=k
    ·subst e;exact qv
    ·exact rD b (hv b (by omega))
   ·rw[BN]at c1
    refine bg (k+1,(ix,lo,on,aB,P),(vs,jS,vp,dE)) (by show n-(k+1)<n-k;omega) ⟨ab,hF,hs,hp,fun b hb =>?_⟩ ⟨rfl,rfl,rfl,rfl,a8 (by omega),trivial⟩ (.refl _)
    have hb:b<k+1:=hb
    by_cases e:b=k
    ·subst e;exact c1
    ·exact hv b (by omega)
  ·have au:k=n:=by omega
   subst au
   have bM:mi k l P:=⟨hF.tj.prt,fun x h0 h1=>by
    have h2:=hv x.toNat (by omega)
    have h3:=(hF.tj.uv x h0 h1).1 (by rw[kb h0];exact h2)
    exact h3.resolve_left (by simp)⟩
   have B0:=zk hF.tj.prt
   refine aa 0 ?_
   obtain⟨x,hx,_⟩:=bM.all 0 (by omega) (by omega)
   have rJ:=List.length_pos_of_mem hx
   obtain⟨ac,rw,rfl,hac,kM⟩:=hp
   have sT:rw.length=P.length:=by rw[← kM,List.length_map]
   obtain⟨b5,rfl,rfl⟩:=qF (by omega) hac
   have hO:=fun τ=>Vw k l P rw b5 τ bM kM rJ hl (by omega) yO
   rw[← sT]at hO
   rcases hs.zero with ⟨rfl,rfl⟩ | ⟨bs,J,rfl,rfl⟩
   ·refine .perm _ (xm [_,_,_,_] ((b5,dW rw)::dH rw) σ) (hO _) ?_
    rintro _ _ ⟨B7,dG,rfl,kL,rfl,BI⟩
    exact⟨_,(xm [_,_,_,_] ((B7,dW dG)::dH dG) σ).symm,.drop 0 4 (.done ⟨B7,dG,rfl,kL,rfl,P,bM,BI⟩)⟩
   ·refine .perm _ (xm [_,_,_,_,_] ((b5,dW rw)::dH rw) σ) (hO _) ?_
    rintro _ _ ⟨B7,dG,rfl,kL,rfl,BI⟩
    exact⟨_,(xm [_,_,_,_,_] ((B7,dW dG)::dH dG) σ).symm,.drop 0 5 (.done ⟨B7,dG,rfl,kL,rfl,P,bM,BI⟩)⟩
end Go.Proofs.YtnpidbjdilnhlaaGreat
