import Derived.Test.YtnpidbjdilnhlaaGreatBn41
namespace Go.Proofs.YtnpidbjdilnhlaaGreat
open Go.RowKit
set_option maxRecDepth 100000
set_option maxHeartbeats 4000000
theorem xr{P:List (List Int)}{rw:List (Nat×List Int)}{i:Nat}{p:List Int}(h:rw.map Prod.snd=P)(hp:P[i]?=some p):∃b,rw[i]?=some (b,p):=by
 rw[← h,List.getElem?_map]at hp
 cases hr:rw[i]? with
 | none=>rw[hr]at hp;cases hp
 | some r=>rw[hr]at hp;cases hp;exact⟨r.1,rfl⟩
theorem xl{i:TI}(hw:i.wide=false){rw:List (Nat×List Int)}{z:Int}{b:Nat}{p:List Int}(_hz:0≤z)(h:rw[z.toNat]?=some (b,p)):dy i (dG rw) (0+z.toNat*1)=some (.ae b 0 p.length 1):=
 eO hw (by rw[Nat.zero_add,Nat.mul_one];unfold dG;rw[List.getElem?_map,h];rfl)
theorem AI{rw:List (Nat×List Int)}{i b:Nat}{p:List Int}{σ:Hp}(h:rw[i]?=some (b,p)):(dw rw++σ)[i]?=some (b,ak p):=by
 have hi:i<(dw rw).length:=by unfold dw;rw[List.length_map];exact (List.getElem?_eq_some_iff.1 h).1
 rw[List.getElem?_append_left hi]
 unfold dw
 rw[List.getElem?_map,h];rfl
theorem Ix{p:List Int}{x:Int}(h:p[((0:Int)).toNat]?=some x):p.getD ((0:Int)).toNat 0=x:=by rw[List.getD_eq_getElem?_getD,h];rfl
theorem Hs:∀{ro:List (Nat×List Int)},(ro.map Prod.snd).flatten.Nodup→(∀r∈ro,r.2≠[])→ro.Nodup
 | [],_,_=>List.nodup_nil
 | r::ro,h,aS=>by
  have h:(r.2++(ro.map Prod.snd).flatten).Nodup:=h
  have h:=List.nodup_append.1 h
  refine List.nodup_cons.2 ⟨fun hm =>?_,Hs h.2.1 fun q hq=>aS q (List.mem_cons_of_mem _ hq)⟩
  obtain⟨x,hx⟩:=List.exists_mem_of_ne_nil _ (aS r (List.mem_cons_self ..))
  exact h.2.2 x hx x (List.mem_flatten.2 ⟨r.2,List.mem_map.2 ⟨r,hm,rfl⟩,hx⟩) rfl
theorem G4{α:Type}[DecidableEq α]:∀{A B:List α},A.Nodup→(∀x∈A,x∈B)→B.length≤A.length→A.Perm B
 | [],B,_,_,h=>by rw[List.length_eq_zero_iff.1 (Nat.le_zero.1 h)]
 | a::A,B,hn,hs,hl=>by
  have hn:=List.nodup_cons.1 hn
  have ha:=hs a (List.mem_cons_self ..)
  have hp:=List.perm_cons_erase ha
  have hle:=hp.length_eq
  refine (List.Perm.cons a (G4 hn.2 (fun x hx =>?_) ?_)).trans hp.symm
  ·exact (List.mem_erase_of_ne (fun e:x=a=>hn.1 (e▸hx))).2 (hs x (List.mem_cons_of_mem _ hx))
  ·rw[List.length_cons]at hle hl;omega
theorem QM(n:Nat)(l:List aK)(P:List (List Int))(rw:List (Nat×List Int))(bq:Nat)(σ:Hp)(h:kX n l P)(j4:rw.map Prod.snd=P)(pQ:0<P.length)(hl:l.length≤100000)(hn:n≤1000)(hr:∀e∈l,(0≤e.1∧e.1<(n:Int))∧0≤e.2.1∧e.2.1<(n:Int)):
  ACalls Tryz.prog 206 [.int .i64 n,.af bA l,.ae bq 0 P.length 1] ((bq,dG rw)::(dw rw++σ)) (fun r σ'=>∃bo dv,r=.ae bo 0 dv.length 1∧dv.map Prod.snd=eI n l∧σ'=(bo,dG dv)::(dw dv++σ)∧(eI n l).Perm P):=by
 have mG:rw.length=P.length:=by rw[← j4,List.length_map]
 obtain⟨jd,hpf⟩:=wI h.ok
 have hNt:((n:Nat):Int).toNat=n:=Int.toNat_natCast n
 refine okF Tryz.func206 (by kernel_rfl) ?_
 intro bl
 refine ah.mk ⟨by omega,by omega,by omega,by decide⟩ ?_
 intro bw
 intro bW
 refine ai.mk 0 _ _ rfl rfl ?_
 refine aU (S:=Nat) (fun k=>[(2,.ae bq 0 P.length 1),(4,.ptr bl 0),(7,.ptr bW 0),(20,.ae bq 0 P.length 1),(21,.int .i64 P.length),(22,.int .i64 k)]) (fun k=>(bW,[.ae bw 0 n 1])::(bw,ak (jY P k (List.replicate n 0)))::(bl,[.af bA l])::(bq,dG rw)::(dw rw++σ)) (fun k=>k≤P.length) (fun k=>P.length-k) 0 ⟨Nat.zero_le _,⟨rfl,rfl,rfl,rfl,rfl,rfl,trivial⟩,by rw[show ak (jY P 0 (List.replicate n 0))=bN [.int .i64 0] n from (p8 n).symm];rfl⟩ ?_
 intro k g aG
 have hk:k≤P.length:=aG
 clear aG
 refine an (p:=(k:Int)<P.length) (fun ab =>?_) (fun aq =>?_)
 ·have ab:k<P.length:=by omega
  obtain⟨p,hp⟩:∃p,P[k]=p:=⟨_,rfl⟩
  have dA:P[k]?=some p:=(List.getElem?_eq_getElem ab).trans (congrArg some hp)
  have nu:=h.ok.node p (List.mem_of_getElem? dA)
  have Bv:p.length≤n:=wK n p ((h.ok.vG p (List.mem_of_getElem? dA)).imp fun h=>by omega) nu
  have nF:=wo P k (List.replicate n 0)
  rw[List.length_replicate]at nF
  have pJ:jY P (k+1) (List.replicate n 0)=iH k p (jY P k (List.replicate n 0)):=by show iH k (P.getD k []) _=_;rw[qh dA]
  generalize jY P k (List.replicate n 0)=W at nF pJ
  obtain⟨bk,sy⟩:=xr j4 dA
  refine ah.mk ⟨rfl,by omega,by omega⟩ ?_
  refine aa.mk 3 _ _ rfl (xl rfl (by omega) (by rw[Int.toNat_natCast];exact sy)) ?_
  refine aU (S:=Nat) (fun j=>[(2,.ae bq 0 P.length 1),(4,.ptr bl 0),(7,.ptr bW 0),(8,.int .i64 k),(20,.ae bq 0 P.length 1),(21,.int .i64 P.length),(22,.int .i64 k),(27,.ae bk 0 p.length 1),(28,.int .i64 p.length),(29,.int .i64 j)]) (fun j=>(bW,[.ae bw 0 n 1])::(bw,ak (iH k (p.take j) W))::(bl,[.af bA l])::(bq,dG rw)::(dw rw++σ)) (fun j=>j≤p.length) (fun j=>p.length-j) 0 ⟨Nat.zero_le _,⟨rfl,rfl,rfl,rfl,rfl,rfl,rfl,rfl,rfl,rfl,trivial⟩,rfl⟩ ?_
  intro j g2 fW
  have hj:j≤p.length:=fW
  clear fW
  refine an (p:=(j:Int)<p.length) (fun bY =>?_) (fun gh =>?_)
  ·have bY:j<p.length:=by omega
   obtain⟨a,ha⟩:∃a,p[j]=a:=⟨_,rfl⟩
   have oJ:=nu a (ha▸List.getElem_mem bY)
   have ar:(iH k (p.take j) W).set a.toNat k=iH k (p.take (j+1)) W:=by unfold iH;rw[List.take_succ_eq_append_getElem bY,ha,List.foldl_append];rfl
   have oy:=zG k (p.take j) W
   refine ah.mk ⟨rfl,by omega,by omega⟩ ?_
   refine aa.mk (k+4) _ _ (AI sy) (dD rfl (by omega) (by omega)) ?_
   rw[Int.toNat_natCast,show p.getD j 0=a by rw[List.getD_eq_getElem?_getD,List.getElem?_eq_getElem bY,ha];rfl]
   refine aa.mk 0 _ _ rfl rfl ?_
   refine ah.mk ⟨rfl,by omega,by omega⟩ ?_
   refine ai.mk 1 _ _ rfl (jw rfl _ oJ.1 (by omega)) ?_
   exact aH (j+1) (by show p.length-(j+1)<p.length-j;omega) bY ⟨rfl,rfl,rfl,rfl,rfl,rfl,rfl,rfl,rfl,aI (by omega),trivial⟩ (aF (by rw[← ar];rfl))
  ·have gh:j=p.length:=by omega
   subst gh
   exact aH (k+1) (by show P.length-(k+1)<P.length-k;omega) ab ⟨rfl,rfl,rfl,rfl,rfl,aI (by omega),trivial⟩ (aF (by rw[List.take_length,pJ]))
 ·have aq:k=P.length:=by omega
  subst aq
  have Gj:∀j:Nat,j<n→0≤(aW n P).getD j 0∧(aW n P).getD j 0<(P.length:Int):=fun j hj=>by
   obtain⟨i,p,hi,_,hw⟩:=h.idx (x:=(j:Int)) (by omega)
   rw[Int.toNat_natCast]at hw
   have:=sU hi
   rw[hw];omega
  have nF:=Hj n P
  have xZ:=fun k hk=>(As h hr k hk)
  have mj:=D4 h hr
  have aS:∀(i:Nat) (p:List Int),P[i]?=some p→p[((0:Int)).toNat]?=some (fm P i):=fun i p hi=>by
   unfold fm
   rw[qh hi]
   exact DN (List.length_pos_iff.2 (h.ok.ne p (List.mem_of_getElem? hi)))
  rw[show jY P P.length (List.replicate n 0)=aW n P from rfl]
  refine ah.mk ⟨by omega,by omega,by show ((P.length:Nat):Int)≤1048576;omega,by decide⟩ ?_
  intro bt
  intro bT
  refine ai.mk 0 _ _ rfl rfl ?_
  obtain⟨m,hm⟩:∃m,P.length=m:=⟨_,rfl⟩
  refine .wrap 14 _ rfl rfl ?_
  refine .cz (.pull [0,2,3,3] (.refl _)) ?_
  refine aU (S:=Nat×(AV×Hp)×List (Nat×List Int)) (fun x=>[(2,.ae bq 0 P.length 1),(12,.ptr bT 0),(13,.fn (.func 248) [] [.ptr bT 0,.ptr bl 0,.ptr bW 0]),(14,.via x.2.1.1),(44,.int .i64 P.length),(45,.int .i64 x.1)]) (fun x=>(bT,[.ae bt 0 P.length 1])::(bW,[.ae bw 0 n 1])::(bw,ak (aW n P))::(bt,aZ (cj P l (aW n P) x.1).1)::(bl,[.af bA l])::(bq,dG rw)::(dw rw++(x.2.1.2++σ))) (fun x=>x.1≤P.length∧Acc 1 x.1 x.2.1.1 x.2.1.2 (dG x.2.2)∧x.2.2.map Prod.snd=(cj P l (aW n P) x.1).2∧∀r∈x.2.2,r∈rw) (fun x=>P.length-x.1) (0,(.aj,[]),[]) ⟨⟨Nat.zero_le _,.nil,rfl,fun r hr=>absurd hr (by simp)⟩,⟨rfl,rfl,rfl,rfl,rfl,rfl,trivial⟩,by rw[show aZ (cj P l (aW n P) 0).1=bN [.bool false] P.length from (uL P.length).symm];rfl⟩ ?_
  rintro⟨k,⟨v,acc⟩,ro⟩ g2 ⟨aG,eR,Mo,LK⟩
  have hk:k≤P.length:=aG
  have bc:Acc 1 k v acc (dG ro):=eR
  have j0:ro.map Prod.snd=(cj P l (aW n P) k).2:=Mo
  have jE:∀r∈ro,r∈rw:=LK
  clear aG eR Mo LK
  refine an (p:=(k:Int)<P.length) (fun ab =>?_) (fun aq =>?_)
  ·have ab:k<P.length:=by omega
   obtain⟨hO,xB,_⟩:=xZ k hk
   obtain⟨b,hb,nE⟩:=xB ab
   have yQ:=hO.tl
   have dR:(cj P l (aW n P) (k+1)).1=(cj P l (aW n P) k).1.set b true:=by
    show (cj P l (aW n P) k).1.set (dM P l (aW n P) (cj P l (aW n P) k).1 P.length).toNat true=_
    rw[hb,Int.toNat_natCast]
   have eW:(cj P l (aW n P) (k+1)).2=(cj P l (aW n P) k).2++[P.getD b []]:=by
    show (cj P l (aW n P) k).2++[P.getD (dM P l (aW n P) (cj P l (aW n P) k).1 P.length).toNat []]=_
    rw[hb,Int.toNat_natCast]
   generalize (cj P l (aW n P) k).1=T at hb yQ dR
   rw[← j0]at eW
   clear hO xB
   have x6:=zO P l (aW n P) T
   refine aU (S:=Nat) (fun i=>[(2,.ae bq 0 P.length 1),(12,.ptr bT 0),(13,.fn (.func 248) [] [.ptr bT 0,.ptr bl 0,.ptr bW 0]),(14,.via v),(15,.int .i64 (dM P l (aW n P) T i)),(44,.int .i64 P.length),(45,.int .i64 k),(47,.ae bq 0 P.length 1),(48,.int .i64 P.length),(49,.int .i64 i)]) (fun _=>(bT,[.ae bt 0 P.length 1])::(bW,[.ae bw 0 n 1])::(bw,ak (aW n P))::(bt,aZ T)::(bl,[.af bA l])::(bq,dG rw)::(dw rw++(acc++σ))) (fun i=>i≤P.length) (fun i=>P.length-i) 0 ⟨Nat.zero_le _,⟨rfl,rfl,rfl,rfl,rfl,rfl,rfl,rfl,rfl,rfl,trivial⟩,rfl⟩ ?_
   intro i g3 cY
   have hi:i≤P.length:=cY
   clear cY
   refine an (p:=(i:Int)<P.length) (fun bY =>?_) (fun gh =>?_)
   ·have bY:i<P.length:=by omega
    obtain⟨p,hp⟩:∃p,P[i]=p:=⟨_,rfl⟩
    have dA:P[i]?=some p:=(List.getElem?_eq_getElem bY).trans (congrArg some hp)
    have rn:=fun ρ=>L5 bW bw bl bT bt n P.length l (aW n P) T i ρ hl (by omega) hr nF yQ Gj
    have fg:dM P l (aW n P) T (i+1)=if kf l (aW n P) T i=true∧(dM P l (aW n P) T i<0∨fm P i<fm P (dM P l (aW n P) T i).toNat) then (i:Int) else dM P l (aW n P) T i:=rfl
    have yP:=x6 i
    obtain⟨bi,hbi⟩:=xr j4 dA
    have nw:0<p.length:=List.length_pos_iff.2 (h.ok.ne p (List.mem_of_getElem? dA))
    refine ah.mk ⟨rfl,by omega,by omega⟩ ?_
    refine aa.mk 5 _ _ rfl (xl rfl (by omega) (by rw[Int.toNat_natCast];exact hbi)) ?_
    cases hf:kf l (aW n P) T i with
    | false =>
     rw[hf]at rn fg
     rw[if_neg (fun h=>by cases h.1)]at fg
     refine .quiet (by kernel_rfl) ?_
     refine aJ [] (rn _) ?_
     exact aH (i+1) (by show P.length-(i+1)<P.length-i;omega) bY ⟨rfl,rfl,rfl,rfl,by rw[fg];rfl,rfl,rfl,rfl,rfl,aI (by omega),trivial⟩ (.refl _)
    | true =>
     rw[hf]at rn fg
     refine .quiet (by kernel_rfl) ?_
     refine aJ [] (rn _) ?_
     refine an (p:=dM P l (aW n P) T i<0) (fun c1 =>?_) (fun c1 =>?_)
     ·rw[if_pos ⟨rfl,.inl c1⟩]at fg
      exact aH (i+1) (by show P.length-(i+1)<P.length-i;omega) bY ⟨rfl,rfl,rfl,rfl,by rw[fg];rfl,rfl,rfl,rfl,rfl,aI (by omega),trivial⟩ (.refl _)
     ·obtain⟨b2,e2,l2,_⟩:=yP.resolve_left fun h=>c1 (by rw[h.1];decide)
      obtain⟨p2,cg⟩:∃p,P[b2]?=some p:=⟨P[b2],List.getElem?_eq_getElem (by omega)⟩
      have Mr:P[(dM P l (aW n P) T i).toNat]?=some p2:=by rw[e2,Int.toNat_natCast];exact cg
      have pO:0≤dM P l (aW n P) T i:=by omega
      rw[e2,Int.toNat_natCast,← e2]at fg
      obtain⟨bb,oI⟩:=xr j4 cg
      have hp20:0<p2.length:=List.length_pos_iff.2 (h.ok.ne p2 (List.mem_of_getElem? cg))
      refine ah.mk ⟨rfl,by decide,by omega⟩ ?_
      refine aa.mk (i+6) _ _ (AI hbi) (dD rfl (by decide) (by omega)) ?_
      refine ah.mk ⟨rfl,by omega,by omega⟩ ?_
      refine aa.mk 5 _ _ rfl (xl rfl (by omega) (by rw[e2,Int.toNat_natCast];exact oI)) ?_
      refine ah.mk ⟨rfl,by decide,by omega⟩ ?_
      refine aa.mk (b2+6) _ _ (AI oI) (dD rfl (by decide) (by omega)) ?_
      rw[show p.getD (0:Int).toNat 0=fm P i from Ix (aS i p dA),show p2.getD (0:Int).toNat 0=fm P b2 from Ix (aS b2 p2 cg)]
      refine an (p:=fm P i<fm P b2) (fun c2 =>?_) (fun c2 =>?_)
      ·rw[if_pos ⟨rfl,.inr c2⟩]at fg
       exact aH (i+1) (by show P.length-(i+1)<P.length-i;omega) bY ⟨rfl,rfl,rfl,rfl,by rw[fg];rfl,rfl,rfl,rfl,rfl,aI (by omega),trivial⟩ (.refl _)
      ·rw[if_neg (fun h=>h.2.elim c1 c2)]at fg
       exact aH (i+1) (by show P.length-(i+1)<P.length-i;omega) bY ⟨rfl,rfl,rfl,rfl,by rw[fg];rfl,rfl,rfl,rfl,rfl,aI (by omega),trivial⟩ (.refl _)
   ·have gh:i=P.length:=by omega
    subst gh
    refine aa.mk 0 _ _ rfl rfl ?_
    refine ah.mk ⟨rfl,by omega,by omega⟩ ?_
    refine ai.mk 3 _ _ rfl (p7 rfl true (by omega) (by omega)) ?_
    obtain⟨pb,mI⟩:∃p,P[b]?=some p:=⟨P[b],List.getElem?_eq_getElem nE⟩
    obtain⟨bb,oI⟩:=xr j4 mI
    rw[qh mI]at eW
    refine ah.mk ⟨rfl,by omega,by omega⟩ ?_
    refine aa.mk 5 _ _ rfl (xl rfl (by omega) (by rw[hb,Int.toNat_natCast];exact oI)) ?_
    intro bs
    refine dX (_::_::_::_::_::_::_::dw rw) bc (.ae 0 bs 0 1 _ rfl (Nat.le_of_ble_eq_true rfl)) rfl (by omega) (by decide) (by decide) (fun v' aP h' =>?_)
    refine aH (k+1,(v',aP),ro++[(bb,pb)]) (by show P.length-(k+1)<P.length-k;omega) ⟨ab,?_,?_,fun r hr =>?_⟩ ⟨rfl,rfl,rfl,rfl,rfl,aI (by omega),trivial⟩ (.drop 0 1 (aF (by rw[dR,hb,Int.toNat_natCast];rfl)))
    ·show Acc 1 (k+1) v' aP (dG (ro++[(bb,pb)]))
     rw[show dG (ro++[(bb,pb)])=dG ro++[.ae bb 0 pb.length 1] from List.map_append];exact h'
    ·show (ro++[(bb,pb)]).map Prod.snd=(cj P l (aW n P) (k+1)).2
     rw[eW,List.map_append];rfl
    ·rcases List.mem_append.1 hr with hr | hr
     ·exact jE r hr
     ·rw[List.mem_singleton.1 hr];exact List.mem_of_getElem? oI
  ·have aq:k=P.length:=by omega
   subst aq
   have hOI:=(xZ P.length (Nat.le_refl _)).1
   have gj:=hOI.ol
   have bC:=hOI.nd
   rw[← j0]at gj bC
   rw[mj]at j0
   rw[List.length_map]at gj
   have Xl:∀r∈ro,r.2≠[]:=fun r hr=>h.ok.ne r.2 (by rw[← j4];exact List.mem_map.2 ⟨r,jE r hr,rfl⟩)
   have Wc:ro.Nodup:=Hs bC Xl
   have kL:ro.Perm rw:=G4 Wc jE (by omega)
   obtain⟨bo,rfl,rfl⟩:=oY (by omega) bc
   have hH:((bo,dG ro)::(dw ro++σ)).Perm (dw rw++([(bo,dG ro)]++σ)):=by
    refine (List.Perm.cons _ (List.Perm.append_right σ (List.Perm.map _ kL))).trans List.perm_middle.symm
   exact .drop 0 6 (.perm hH (.done ⟨bo,ro,by rw[gj];rfl,j0,rfl,by rw[← j0,← j4];exact List.Perm.map _ kL⟩))
end Go.Proofs.YtnpidbjdilnhlaaGreat
