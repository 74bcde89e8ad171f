import Derived.Test.YtnpidbjdilnhlaaGreatBn39
import Derived.Test.YtnpidbjdilnhlaaGreatBn36
namespace Go.Proofs.YtnpidbjdilnhlaaGreat
open Go.RowKit
set_option maxRecDepth 100000
theorem fu.zero{e:Nat}{v:AV}{acc:Hp}{cs:List AV}(h:fu e 0 v acc cs):(v=.aj∧acc=[])∨∃b J,v=.ae b 0 0 e∧acc=[(b,J)]:=by
 generalize hz:(0:Nat)=z at h
 cases h with
 | nil=>exact .inl ⟨rfl,rfl⟩
 | ae b k cs J h=>subst hz;exact .inr ⟨b,_,rfl,rfl⟩
def rX(W:List Int)(T:List Bool)(i:Int)(x:aK):Bool:=decide (W.getD x.2.1.toNat 0=i) && decide (W.getD x.1.toNat 0≠i) && !T.getD (W.getD x.1.toNat 0).toNat false
theorem VH(bW bw bI bT bt n m:Nat)(W:List Int)(T:List Bool)(i:Int)(x:aK)(σ:Hp)(h1:0≤x.1∧x.1<n)(h2:0≤x.2.1∧x.2.1<n)(hW:W.length=n)(hT:T.length=m)(hr:0≤W.getD x.1.toNat 0∧W.getD x.1.toNat 0<m):
  ACalls Tryz.prog 249 (vu x::[.ptr bW 0,.ptr bI 0,.ptr bT 0]) ((bI,[.int .i64 i])::(bT,[.ae bt 0 m 1])::(bW,[.ae bw 0 n 1])::(bw,ak W)::(bt,aZ T)::σ) (aB (.bool (rX W T i x)) ((bI,[.int .i64 i])::(bT,[.ae bt 0 m 1])::(bW,[.ae bw 0 n 1])::(bw,ak W)::(bt,aZ T)::σ)):=by
 obtain⟨x1,x2,xu⟩:=x
 have h1:0≤x1∧x1<n:=h1
 have h2:0≤x2∧x2<n:=h2
 have hr:0≤W.getD x1.toNat 0∧W.getD x1.toNat 0<m:=hr
 refine okF Tryz.func249 (by kernel_rfl) ?_
 intro bx
 refine .quiet (by kernel_rfl) ?_
 refine aa.mk 3 _ _ rfl rfl ?_
 refine aa.mk 0 _ _ rfl rfl ?_
 refine ah.mk ⟨rfl,by omega,by omega⟩ ?_
 refine aa.mk 4 _ _ rfl (dD rfl h2.1 (by omega)) ?_
 refine aa.mk 1 _ _ rfl rfl ?_
 refine an (fun c1 =>?_) (fun c1 =>?_)
 ·have c1:W.getD x2.toNat 0=i:=c1
  refine aa.mk 3 _ _ rfl rfl ?_
  refine aa.mk 0 _ _ rfl rfl ?_
  refine ah.mk ⟨rfl,by omega,by omega⟩ ?_
  refine aa.mk 4 _ _ rfl (dD rfl h1.1 (by omega)) ?_
  refine aa.mk 1 _ _ rfl rfl ?_
  refine bS (fun c2 =>?_) (fun c2 =>?_)
  ·have c2:¬(W.getD x1.toNat 0=i):=by simpa using c2
   refine aa.mk 2 _ _ rfl rfl ?_
   refine aa.mk 3 _ _ rfl rfl ?_
   refine aa.mk 0 _ _ rfl rfl ?_
   refine ah.mk ⟨rfl,by omega,by omega⟩ ?_
   have hL:∀b,T.getD (W.getD x1.toNat 0).toNat false=b→rX W T i (x1,x2,xu) = !b:=fun b hb=>by
    unfold rX
    rw[decide_eq_true (show W.getD x2.toNat 0=i from c1),decide_eq_true (show W.getD x1.toNat 0≠i from c2)]
    show (true && true && !T.getD (W.getD x1.toNat 0).toNat false)=_
    rw[hb];rfl
   refine aa.mk 4 _ _ rfl (dD rfl h1.1 (by omega)) ?_
   refine ah.mk ⟨rfl,by omega,by omega⟩ ?_
   refine aa.gy 5 _ _ rfl (mV rfl hr.1 (by omega)) (fun c3 =>?_) (fun c3 =>?_)
   ·exact .drop 0 1 (.done ⟨bz (hL true c3).symm,rfl⟩)
   ·exact .drop 0 1 (.done ⟨bz (hL false c3).symm,rfl⟩)
  ·have c2:W.getD x1.toNat 0=i:=by simpa using c2
   refine .drop 0 1 (.done ⟨bz ?_,rfl⟩)
   unfold rX
   rw[decide_eq_false (show ¬(W.getD x1.toNat 0≠i) from fun h=>h c2),Bool.and_false];rfl
 ·have c1:¬(W.getD x2.toNat 0=i):=c1
  refine .drop 0 1 (.done ⟨bz ?_,rfl⟩)
  unfold rX
  rw[decide_eq_false (show ¬(W.getD x2.toNat 0=i) from c1)];rfl
theorem L5(bW bw bl bT bt n m:Nat)(l:List aK)(W:List Int)(T:List Bool)(i:Int)(σ:Hp)(hl:l.length≤100000)(hi:0≤i∧i<m)(hr:∀e∈l,(0≤e.1∧e.1<(n:Int))∧0≤e.2.1∧e.2.1<(n:Int))(hW:W.length=n)(hT:T.length=m)(hw:∀k:Nat,k<n→0≤W.getD k 0∧W.getD k 0<m):
  ACalls Tryz.prog 248 [.int .i64 i,.ptr bT 0,.ptr bl 0,.ptr bW 0] ((bT,[.ae bt 0 m 1])::(bW,[.ae bw 0 n 1])::(bw,ak W)::(bt,aZ T)::(bl,[.af bA l])::σ) (aB (.bool (kf l W T i)) ((bT,[.ae bt 0 m 1])::(bW,[.ae bw 0 n 1])::(bw,ak W)::(bt,aZ T)::(bl,[.af bA l])::σ)):=by
 have hF:∀b,T.getD i.toNat false=b→kf l W T i=(!b && !l.any (rX W T i)):=fun b hb=>by unfold kf;rw[hb];rfl
 refine okF Tryz.func248 (by kernel_rfl) ?_
 intro bI
 refine aa.mk 1 _ _ rfl rfl ?_
 refine aa.mk 0 _ _ rfl rfl ?_
 refine ah.mk ⟨rfl,by omega,by omega⟩ ?_
 refine aa.gy 4 _ _ rfl (mV rfl hi.1 (by omega)) (fun c1 =>?_) (fun c1 =>?_)
 ·exact .drop 0 1 (.done ⟨bz (hF true c1).symm,rfl⟩)
 ·refine aa.mk 5 _ _ rfl rfl ?_
  have hg:∀(k:Nat) (hk:k<l.length),ACalls Tryz.prog 249 (vu l[k]::[.ptr bW 0,.ptr bI 0,.ptr bT 0]) ((bI,[.int .i64 i])::(bT,[.ae bt 0 m 1])::(bW,[.ae bw 0 n 1])::(bw,ak W)::(bt,aZ T)::(bl,[.af bA l])::σ) (aB (.bool (rX W T i l[k])) ((bI,[.int .i64 i])::(bT,[.ae bt 0 m 1])::(bW,[.ae bw 0 n 1])::(bw,ak W)::(bt,aZ T)::(bl,[.af bA l])::σ)):=fun k hk=>by
   obtain⟨h1,h2⟩:=hr _ (List.getElem_mem hk)
   exact VH bW bw bI bT bt n m W T i l[k] _ h1 h2 hW hT (hw _ (by omega))
  refine az [] (Hf 249 _ l (rX W T i) _ (Nat.le_trans hl (by decide)) hg) ?_
  exact .drop 0 1 (.done ⟨bz (hF false c1).symm,rfl⟩)
theorem p8:∀n:Nat,bN [.int .i64 0] n=ak (List.replicate n 0)
 | 0=>rfl
 | n+1=>by
  show [AV.int .i64 0]++bN [.int .i64 0] n=_
  rw[p8 n];rfl
theorem JQ(n:Nat)(l:List aK)(P:List (List Int))(σ:Hp)(h:kX n l P)(hl:l.length≤100000)(hn:n≤1000)(hr:∀e∈l,(0≤e.1∧e.1<(n:Int))∧0≤e.2.1∧e.2.1<(n:Int)):
  ACalls Tryz.prog 206 [.int .i64 n,.af bA l,.af (.slice (.int .i64)) P] σ (aB (.af (.slice (.int .i64)) (eI n l)) σ):=by
 obtain⟨jd,hpf⟩:=wI h.ok
 have hNt:((n:Nat):Int).toNat=n:=Int.toNat_natCast n
 refine okF Tryz.func206 (by kernel_rfl) ?_
 intro bl
 refine ah.mk ⟨by omega,by omega,by omega,by decide⟩ ?_
 intro bw
 intro bW
 refine ai.mk 0 _ _ rfl rfl ?_
 refine aU (S:=Nat) (fun k=>[(2,.af (.slice (.int .i64)) P),(4,.ptr bl 0),(7,.ptr bW 0),(20,.af (.slice (.int .i64)) P),(21,.int .i64 P.length),(22,.int .i64 k)]) (fun k=>(bW,[.ae bw 0 n 1])::(bw,ak (jY P k (List.replicate n 0)))::(bl,[.af bA l])::σ) (fun k=>k≤P.length) (fun k=>P.length-k) 0 ⟨Nat.zero_le _,⟨rfl,rfl,rfl,rfl,rfl,rfl,trivial⟩,by rw[show ak (jY P 0 (List.replicate n 0))=bN [.int .i64 0] n from (p8 n).symm];rfl⟩ ?_
 intro k g aG
 have hk:k≤P.length:=aG
 clear aG
 refine an (p:=(k:Int)<P.length) (fun ab =>?_) (fun aq =>?_)
 ·have ab:k<P.length:=by omega
  obtain⟨p,hp⟩:∃p,P[k]=p:=⟨_,rfl⟩
  have dA:P[k]?=some p:=(List.getElem?_eq_getElem ab).trans (congrArg some hp)
  have nu:=h.ok.node p (List.mem_of_getElem? dA)
  have Bv:p.length≤n:=wK n p ((h.ok.vG p (List.mem_of_getElem? dA)).imp fun h=>by omega) nu
  have nF:=wo P k (List.replicate n 0)
  rw[List.length_replicate]at nF
  have pJ:jY P (k+1) (List.replicate n 0)=iH k p (jY P k (List.replicate n 0)):=by show iH k (P.getD k []) _=_;rw[qh dA]
  generalize jY P k (List.replicate n 0)=W at nF pJ
  refine ah.mk rfl (aT.mk p (by omega) (show P[((k:Nat):Int).toNat]?=some p by rw[Int.toNat_natCast];exact dA) ?_)
  refine aU (S:=Nat) (fun j=>[(2,.af (.slice (.int .i64)) P),(4,.ptr bl 0),(7,.ptr bW 0),(8,.int .i64 k),(20,.af (.slice (.int .i64)) P),(21,.int .i64 P.length),(22,.int .i64 k),(27,.af (.int .i64) p),(28,.int .i64 p.length),(29,.int .i64 j)]) (fun j=>(bW,[.ae bw 0 n 1])::(bw,ak (iH k (p.take j) W))::(bl,[.af bA l])::σ) (fun j=>j≤p.length) (fun j=>p.length-j) 0 ⟨Nat.zero_le _,⟨rfl,rfl,rfl,rfl,rfl,rfl,rfl,rfl,rfl,rfl,trivial⟩,rfl⟩ ?_
  intro j g2 fW
  have hj:j≤p.length:=fW
  clear fW
  refine an (p:=(j:Int)<p.length) (fun bY =>?_) (fun gh =>?_)
  ·have bY:j<p.length:=by omega
   obtain⟨a,ha⟩:∃a,p[j]=a:=⟨_,rfl⟩
   have oJ:=nu a (ha▸List.getElem_mem bY)
   have ar:(iH k (p.take j) W).set a.toNat k=iH k (p.take (j+1)) W:=by unfold iH;rw[List.take_succ_eq_append_getElem bY,ha,List.foldl_append];rfl
   have oy:=zG k (p.take j) W
   refine ah.mk rfl (aT.mk a (by omega) ((get_some bY).trans (congrArg some ha)) ?_)
   refine aa.mk 0 _ _ rfl rfl ?_
   refine ah.mk ⟨rfl,by omega,by omega⟩ ?_
   refine ai.mk 1 _ _ rfl (jw rfl _ oJ.1 (by omega)) ?_
   exact aH (j+1) (by show p.length-(j+1)<p.length-j;omega) bY ⟨rfl,rfl,rfl,rfl,rfl,rfl,rfl,rfl,rfl,aI (by omega),trivial⟩ (aF (by rw[← ar];rfl))
  ·have gh:j=p.length:=by omega
   subst gh
   exact aH (k+1) (by show P.length-(k+1)<P.length-k;omega) ab ⟨rfl,rfl,rfl,rfl,rfl,aI (by omega),trivial⟩ (aF (by rw[List.take_length,pJ]))
 ·have aq:k=P.length:=by omega
  subst aq
  have Gj:∀j:Nat,j<n→0≤(aW n P).getD j 0∧(aW n P).getD j 0<(P.length:Int):=fun j hj=>by
   obtain⟨i,p,hi,_,hw⟩:=h.idx (x:=(j:Int)) (by omega)
   rw[Int.toNat_natCast]at hw
   have:=sU hi
   rw[hw];omega
  have nF:=Hj n P
  have xZ:=fun k hk=>(As h hr k hk)
  have mj:=D4 h hr
  have aS:∀(i:Nat) (p:List Int),P[i]?=some p→p[((0:Int)).toNat]?=some (fm P i):=fun i p hi=>by
   unfold fm
   rw[qh hi]
   exact DN (List.length_pos_iff.2 (h.ok.ne p (List.mem_of_getElem? hi)))
  rw[show jY P P.length (List.replicate n 0)=aW n P from rfl]
  refine ah.mk ⟨by omega,by omega,by show ((P.length:Nat):Int)≤1048576;omega,by decide⟩ ?_
  intro bt
  intro bT
  refine ai.mk 0 _ _ rfl rfl ?_
  obtain⟨m,hm⟩:∃m,P.length=m:=⟨_,rfl⟩
  refine .wrap 14 _ rfl rfl ?_
  refine .cz (.pull [0,2,3,3] (.refl _)) ?_
  refine aU (S:=Nat×AV×Hp) (fun x=>[(2,.af (.slice (.int .i64)) P),(12,.ptr bT 0),(13,.fn (.func 248) [] [.ptr bT 0,.ptr bl 0,.ptr bW 0]),(14,.via x.2.1),(44,.int .i64 P.length),(45,.int .i64 x.1)]) (fun x=>(bT,[.ae bt 0 P.length 1])::(bW,[.ae bw 0 n 1])::(bw,ak (aW n P))::(bt,aZ (cj P l (aW n P) x.1).1)::(bl,[.af bA l])::(x.2.2++σ)) (fun x=>x.1≤P.length∧Acc 1 x.1 x.2.1 x.2.2 (bE (cj P l (aW n P) x.1).2)) (fun x=>P.length-x.1) (0,.aj,[]) ⟨⟨Nat.zero_le _,.nil⟩,⟨rfl,rfl,rfl,rfl,rfl,rfl,trivial⟩,by rw[show aZ (cj P l (aW n P) 0).1=bN [.bool false] P.length from (uL P.length).symm];rfl⟩ ?_
  rintro⟨k,v,acc⟩ g2 ⟨aG,eR⟩
  have hk:k≤P.length:=aG
  have bc:Acc 1 k v acc (bE (cj P l (aW n P) k).2):=eR
  clear aG eR
  refine an (p:=(k:Int)<P.length) (fun ab =>?_) (fun aq =>?_)
  ·have ab:k<P.length:=by omega
   obtain⟨hO,xB,_⟩:=xZ k hk
   obtain⟨b,hb,nE⟩:=xB ab
   have yQ:=hO.tl
   have dR:(cj P l (aW n P) (k+1)).1=(cj P l (aW n P) k).1.set b true:=by
    show (cj P l (aW n P) k).1.set (dM P l (aW n P) (cj P l (aW n P) k).1 P.length).toNat true=_
    rw[hb,Int.toNat_natCast]
   have eW:(cj P l (aW n P) (k+1)).2=(cj P l (aW n P) k).2++[P.getD b []]:=by
    show (cj P l (aW n P) k).2++[P.getD (dM P l (aW n P) (cj P l (aW n P) k).1 P.length).toNat []]=_
    rw[hb,Int.toNat_natCast]
   generalize (cj P l (aW n P) k).1=T at hb yQ dR
   generalize (cj P l (aW n P) k).2=out at bc eW
   clear hO xB
   have x6:=zO P l (aW n P) T
   refine aU (S:=Nat) (fun i=>[(2,.af (.slice (.int .i64)) P),(12,.ptr bT 0),(13,.fn (.func 248) [] [.ptr bT 0,.ptr bl 0,.ptr bW 0]),(14,.via v),(15,.int .i64 (dM P l (aW n P) T i)),(44,.int .i64 P.length),(45,.int .i64 k),(47,.af (.slice (.int .i64)) P),(48,.int .i64 P.length),(49,.int .i64 i)]) (fun _=>(bT,[.ae bt 0 P.length 1])::(bW,[.ae bw 0 n 1])::(bw,ak (aW n P))::(bt,aZ T)::(bl,[.af bA l])::(acc++σ)) (fun i=>i≤P.length) (fun i=>P.length-i) 0 ⟨Nat.zero_le _,⟨rfl,rfl,rfl,rfl,rfl,rfl,rfl,rfl,rfl,rfl,trivial⟩,rfl⟩ ?_
   intro i g3 cY
   have hi:i≤P.length:=cY
   clear cY
   refine an (p:=(i:Int)<P.length) (fun bY =>?_) (fun gh =>?_)
   ·have bY:i<P.length:=by omega
    obtain⟨p,hp⟩:∃p,P[i]=p:=⟨_,rfl⟩
    have dA:P[i]?=some p:=(List.getElem?_eq_getElem bY).trans (congrArg some hp)
    have rn:=fun ρ=>L5 bW bw bl bT bt n P.length l (aW n P) T i ρ hl (by omega) hr nF yQ Gj
    have fg:dM P l (aW n P) T (i+1)=if kf l (aW n P) T i=true∧(dM P l (aW n P) T i<0∨fm P i<fm P (dM P l (aW n P) T i).toNat) then (i:Int) else dM P l (aW n P) T i:=rfl
    have yP:=x6 i
    refine ah.mk rfl (aT.mk p (by omega) (show P[((i:Nat):Int).toNat]?=some p by rw[Int.toNat_natCast];exact dA) ?_)
    cases hf:kf l (aW n P) T i with
    | false =>
     rw[hf]at rn fg
     rw[if_neg (fun h=>by cases h.1)]at fg
     refine .quiet (by kernel_rfl) ?_
     refine aJ [] (rn _) ?_
     exact aH (i+1) (by show P.length-(i+1)<P.length-i;omega) bY ⟨rfl,rfl,rfl,rfl,by rw[fg];rfl,rfl,rfl,rfl,rfl,aI (by omega),trivial⟩ (.refl _)
    | true =>
     rw[hf]at rn fg
     refine .quiet (by kernel_rfl) ?_
     refine aJ [] (rn _) ?_
     refine an (p:=dM P l (aW n P) T i<0) (fun c1 =>?_) (fun c1 =>?_)
     ·rw[if_pos ⟨rfl,.inl c1⟩]at fg
      exact aH (i+1) (by show P.length-(i+1)<P.length-i;omega) bY ⟨rfl,rfl,rfl,rfl,by rw[fg];rfl,rfl,rfl,rfl,rfl,aI (by omega),trivial⟩ (.refl _)
     ·obtain⟨b2,e2,l2,_⟩:=yP.resolve_left fun h=>c1 (by rw[h.1];decide)
      obtain⟨p2,cg⟩:∃p,P[b2]?=some p:=⟨P[b2],List.getElem?_eq_getElem (by omega)⟩
      have Mr:P[(dM P l (aW n P) T i).toNat]?=some p2:=by rw[e2,Int.toNat_natCast];exact cg
      have pO:0≤dM P l (aW n P) T i:=by omega
      rw[e2,Int.toNat_natCast,← e2]at fg
      refine ah.mk rfl ?_
      refine aT.mk (fm P i) (by decide) (aS i p dA) ?_
      refine ah.mk rfl ?_
      refine aT.mk p2 pO Mr ?_
      refine ah.mk rfl ?_
      refine aT.mk (fm P b2) (by decide) (aS b2 p2 cg) ?_
      refine an (p:=fm P i<fm P b2) (fun c2 =>?_) (fun c2 =>?_)
      ·rw[if_pos ⟨rfl,.inr c2⟩]at fg
       exact aH (i+1) (by show P.length-(i+1)<P.length-i;omega) bY ⟨rfl,rfl,rfl,rfl,by rw[fg];rfl,rfl,rfl,rfl,rfl,aI (by omega),trivial⟩ (.refl _)
      ·rw[if_neg (fun h=>h.2.elim c1 c2)]at fg
       exact aH (i+1) (by show P.length-(i+1)<P.length-i;omega) bY ⟨rfl,rfl,rfl,rfl,by rw[fg];rfl,rfl,rfl,rfl,rfl,aI (by omega),trivial⟩ (.refl _)
   ·have gh:i=P.length:=by omega
    subst gh
    refine aa.mk 0 _ _ rfl rfl ?_
    refine ah.mk ⟨rfl,by omega,by omega⟩ ?_
    refine ai.mk 3 _ _ rfl (p7 rfl true (by omega) (by omega)) ?_
    refine ah.mk rfl ?_
    obtain⟨pb,mI⟩:∃p,P[b]?=some p:=⟨P[b],List.getElem?_eq_getElem nE⟩
    have Xk:P[(dM P l (aW n P) T P.length).toNat]?=some pb:=by rw[hb,Int.toNat_natCast];exact mI
    rw[qh mI]at eW
    refine aT.mk pb (by omega) Xk ?_
    intro bs
    refine dX [_,_,_,_,_,_] bc (.ae 0 bs 0 1 _ rfl (Nat.le_of_ble_eq_true rfl)) rfl (by omega) (by decide) (by decide) (fun v' aP h' =>?_)
    refine aH (k+1,v',aP) (by show P.length-(k+1)<P.length-k;omega) ⟨ab,?_⟩ ⟨rfl,rfl,rfl,rfl,rfl,aI (by omega),trivial⟩ (.drop 0 1 (aF (by rw[dR,hb,Int.toNat_natCast];rfl)))
    show Acc 1 (k+1) v' aP (bE (cj P l (aW n P) (k+1)).2)
    rw[eW,show bE (out++[pb])=bE out++[.af (.int .i64) pb] from List.map_append];exact h'
  ·have aq:k=P.length:=by omega
   subst aq
   rw[mj]at bc
   have gj:=(xZ P.length (Nat.le_refl _)).1.ol
   rw[mj]at gj
   exact jR (s:=.slice (.int .i64)) [_,_,_,_,_] bc gj.symm (p9 _) (by decide) (.drop 0 5 (.done ⟨rfl,rfl⟩))
theorem Ui(n:Nat)(l:List aK)(σ:Hp)(hl:l.length≤100000)(cJ:cU n l=true):ACalls Tryz.prog 152 [.int .i64 n,.af bA l] σ (fun r σ'=>r=.tup [.af (.slice (.int .i64)) (eI n l),.int .i64 0]∧σ'=σ∧∃P,kX n l P):=by
 have hn:1≤n∧n≤256:=by
  unfold cU at cJ
  simp only[Bool.and_eq_true,decide_eq_true_eq]at cJ
  omega
 have vX:∀e∈l,(0≤e.1∧e.1<(n:Int))∧0≤e.2.1∧e.2.1<(n:Int):=fun e he=>by
  unfold cU at cJ
  simp only[Bool.and_eq_true,List.all_eq_true]at cJ
  have:=cJ.2 e he
  exact⟨iu.1 this.1,iu.1 this.2⟩
 refine okF Tryz.func152 (by kernel_rfl) ?_
 refine cm [] (xo n l _ (by omega)) (fun _ =>?_) (fun c=>absurd c (by rw[cJ];decide))
 refine eK.Ev (S:=Nat×Nat×Nat×Nat) [] (.one 0 false (.one 2 false (.one 4 false (.alt 1 (.alt 3 (.alt 5 (.one 6 false (.one 7 false (.one 8 false .stop))) (.one 7 false (.one 5 false (.one 6 false (.one 8 false .stop))))) (.alt 5 (.alt 3 (.one 6 false (.one 7 false (.one 8 false .stop))) (.one 7 false (.one 3 false (.one 6 false (.one 8 false .stop))))) (.one 7 false (.alt 3 (.one 5 false (.one 6 false (.one 8 false .stop))) (.one 5 false (.one 3 false (.one 6 false (.one 8 false .stop)))))))) (.alt 3 (.alt 1 (.alt 5 (.one 6 false (.one 7 false (.one 8 false .stop))) (.one 7 false (.one 5 false (.one 6 false (.one 8 false .stop))))) (.alt 5 (.alt 1 (.one 6 false (.one 7 false (.one 8 false .stop))) (.one 7 false (.one 1 false (.one 6 false (.one 8 false .stop))))) (.one 7 false (.alt 1 (.one 5 false (.one 6 false (.one 8 false .stop))) (.one 5 false (.one 1 false (.one 6 false (.one 8 false .stop)))))))) (.alt 5 (.alt 1 (.alt 3 (.one 6 false (.one 7 false (.one 8 false .stop))) (.one 7 false (.one 3 false (.one 6 false (.one 8 false .stop))))) (.alt 3 (.alt 1 (.one 6 false (.one 7 false (.one 8 false .stop))) (.one 7 false (.one 1 false (.one 6 false (.one 8 false .stop))))) (.one 7 false (.alt 1 (.one 3 false (.one 6 false (.one 8 false .stop))) (.one 3 false (.one 1 false (.one 6 false (.one 8 false .stop)))))))) (.one 7 false (.alt 1 (.alt 3 (.one 5 false (.one 6 false (.one 8 false .stop))) (.one 5 false (.one 3 false (.one 6 false (.one 8 false .stop))))) (.alt 3 (.alt 1 (.one 5 false (.one 6 false (.one 8 false .stop))) (.one 5 false (.one 1 false (.one 6 false (.one 8 false .stop))))) (.one 5 false (.alt 1 (.one 3 false (.one 6 false (.one 8 false .stop))) (.one 3 false (.one 1 false (.one 6 false (.one 8 false .stop))))))))))))))) (fun x=>[(0,.int .i64 n),(1,.af bA l),(6,.ptr x.1 0)]) (fun x=>(x.1,[.aj,.ae x.2.1 0 n 1,.ae x.2.2.1 0 n 1,.ae x.2.2.2 0 n 1,.aj,.int .i64 0,.aj])::(x.2.1,bN [.int .i64 0] n)::(x.2.2.1,bN [.int .i64 0] n)::(x.2.2.2,bN [.bool false] n)::σ) (by kernel_rfl) ?_ ?_
 ·refine And.intro ?_ ?_
  ·refine ah.mk ⟨by omega,by omega,by omega,by decide⟩ ?_
   intro bi
   refine And.intro ?_ ?_
   ·refine ah.mk ⟨by omega,by omega,by omega,by decide⟩ ?_
    intro bl
    refine And.intro ?_ ?_
    ·refine ah.mk ⟨by omega,by omega,by omega,by decide⟩ ?_
     intro bo
     intro w
     refine ai.mk 0 _ _ rfl rfl ?_
     exact bV.mk (w,bi,bl,bo) ⟨rfl,rfl,rfl,trivial⟩ (.pull [3,3,2,1] (aF rfl))
    ·intro w
     refine ah.mk ⟨by omega,by omega,by omega,by decide⟩ ?_
     intro bo
     refine ai.mk 1 _ _ rfl rfl ?_
     exact bV.mk (w,bi,bl,bo) ⟨rfl,rfl,rfl,trivial⟩ (.pull [3,3,2,0] (aF rfl))
   ·refine And.intro ?_ ?_
    ·refine ah.mk ⟨by omega,by omega,by omega,by decide⟩ ?_
     intro bo
     refine And.intro ?_ ?_
     ·refine ah.mk ⟨by omega,by omega,by omega,by decide⟩ ?_
      intro bl
      intro w
      refine ai.mk 0 _ _ rfl rfl ?_
      exact bV.mk (w,bi,bl,bo) ⟨rfl,rfl,rfl,trivial⟩ (.pull [3,3,2,2] (aF rfl))
     ·intro w
      refine ah.mk ⟨by omega,by omega,by omega,by decide⟩ ?_
      intro bl
      refine ai.mk 1 _ _ rfl rfl ?_
      exact bV.mk (w,bi,bl,bo) ⟨rfl,rfl,rfl,trivial⟩ (.pull [3,3,1,2] (aF rfl))
    ·intro w
     refine And.intro ?_ ?_
     ·refine ah.mk ⟨by omega,by omega,by omega,by decide⟩ ?_
      intro bl
      refine ah.mk ⟨by omega,by omega,by omega,by decide⟩ ?_
      intro bo
      refine ai.mk 2 _ _ rfl rfl ?_
      exact bV.mk (w,bi,bl,bo) ⟨rfl,rfl,rfl,trivial⟩ (.pull [3,3,1,0] (aF rfl))
     ·refine ah.mk ⟨by omega,by omega,by omega,by decide⟩ ?_
      intro bo
      refine ah.mk ⟨by omega,by omega,by omega,by decide⟩ ?_
      intro bl
      refine ai.mk 2 _ _ rfl rfl ?_
      exact bV.mk (w,bi,bl,bo) ⟨rfl,rfl,rfl,trivial⟩ (.pull [3,3,1,1] (aF rfl))
  ·refine And.intro ?_ ?_
   ·refine ah.mk ⟨by omega,by omega,by omega,by decide⟩ ?_
    intro bl
    refine And.intro ?_ ?_
    ·refine ah.mk ⟨by omega,by omega,by omega,by decide⟩ ?_
     intro bi
     refine And.intro ?_ ?_
     ·refine ah.mk ⟨by omega,by omega,by omega,by decide⟩ ?_
      intro bo
      intro w
      refine ai.mk 0 _ _ rfl rfl ?_
      exact bV.mk (w,bi,bl,bo) ⟨rfl,rfl,rfl,trivial⟩ (.pull [3,3,3,1] (aF rfl))
     ·intro w
      refine ah.mk ⟨by omega,by omega,by omega,by decide⟩ ?_
      intro bo
      refine ai.mk 1 _ _ rfl rfl ?_
      exact bV.mk (w,bi,bl,bo) ⟨rfl,rfl,rfl,trivial⟩ (.pull [3,3,3,0] (aF rfl))
    ·refine And.intro ?_ ?_
     ·refine ah.mk ⟨by omega,by omega,by omega,by decide⟩ ?_
      intro bo
      refine And.intro ?_ ?_
      ·refine ah.mk ⟨by omega,by omega,by omega,by decide⟩ ?_
       intro bi
       intro w
       refine ai.mk 0 _ _ rfl rfl ?_
       exact bV.mk (w,bi,bl,bo) ⟨rfl,rfl,rfl,trivial⟩ (.pull [3,3,3,2] (aF rfl))
      ·intro w
       refine ah.mk ⟨by omega,by omega,by omega,by decide⟩ ?_
       intro bi
       refine ai.mk 1 _ _ rfl rfl ?_
       exact bV.mk (w,bi,bl,bo) ⟨rfl,rfl,rfl,trivial⟩ (.pull [3,2,3,2] (aF rfl))
     ·intro w
      refine And.intro ?_ ?_
      ·refine ah.mk ⟨by omega,by omega,by omega,by decide⟩ ?_
       intro bi
       refine ah.mk ⟨by omega,by omega,by omega,by decide⟩ ?_
       intro bo
       refine ai.mk 2 _ _ rfl rfl ?_
       exact bV.mk (w,bi,bl,bo) ⟨rfl,rfl,rfl,trivial⟩ (.pull [3,2,3,0] (aF rfl))
      ·refine ah.mk ⟨by omega,by omega,by omega,by decide⟩ ?_
       intro bo
       refine ah.mk ⟨by omega,by omega,by omega,by decide⟩ ?_
       intro bi
       refine ai.mk 2 _ _ rfl rfl ?_
       exact bV.mk (w,bi,bl,bo) ⟨rfl,rfl,rfl,trivial⟩ (.pull [3,2,3,1] (aF rfl))
   ·refine And.intro ?_ ?_
    ·refine ah.mk ⟨by omega,by omega,by omega,by decide⟩ ?_
     intro bo
     refine And.intro ?_ ?_
     ·refine ah.mk ⟨by omega,by omega,by omega,by decide⟩ ?_
      intro bi
      refine And.intro ?_ ?_
      ·refine ah.mk ⟨by omega,by omega,by omega,by decide⟩ ?_
       intro bl
       intro w
       refine ai.mk 0 _ _ rfl rfl ?_
       exact bV.mk (w,bi,bl,bo) ⟨rfl,rfl,rfl,trivial⟩ (.pull [3,3,2,3] (aF rfl))
      ·intro w
       refine ah.mk ⟨by omega,by omega,by omega,by decide⟩ ?_
       intro bl
       refine ai.mk 1 _ _ rfl rfl ?_
       exact bV.mk (w,bi,bl,bo) ⟨rfl,rfl,rfl,trivial⟩ (.pull [3,3,1,3] (aF rfl))
     ·refine And.intro ?_ ?_
      ·refine ah.mk ⟨by omega,by omega,by omega,by decide⟩ ?_
       intro bl
       refine And.intro ?_ ?_
       ·refine ah.mk ⟨by omega,by omega,by omega,by decide⟩ ?_
        intro bi
        intro w
        refine ai.mk 0 _ _ rfl rfl ?_
        exact bV.mk (w,bi,bl,bo) ⟨rfl,rfl,rfl,trivial⟩ (.pull [3,3,3,3] (aF rfl))
       ·intro w
        refine ah.mk ⟨by omega,by omega,by omega,by decide⟩ ?_
        intro bi
        refine ai.mk 1 _ _ rfl rfl ?_
        exact bV.mk (w,bi,bl,bo) ⟨rfl,rfl,rfl,trivial⟩ (.pull [3,2,3,3] (aF rfl))
      ·intro w
       refine And.intro ?_ ?_
       ·refine ah.mk ⟨by omega,by omega,by omega,by decide⟩ ?_
        intro bi
        refine ah.mk ⟨by omega,by omega,by omega,by decide⟩ ?_
        intro bl
        refine ai.mk 2 _ _ rfl rfl ?_
        exact bV.mk (w,bi,bl,bo) ⟨rfl,rfl,rfl,trivial⟩ (.pull [3,2,1,3] (aF rfl))
       ·refine ah.mk ⟨by omega,by omega,by omega,by decide⟩ ?_
        intro bl
        refine ah.mk ⟨by omega,by omega,by omega,by decide⟩ ?_
        intro bi
        refine ai.mk 2 _ _ rfl rfl ?_
        exact bV.mk (w,bi,bl,bo) ⟨rfl,rfl,rfl,trivial⟩ (.pull [3,2,2,3] (aF rfl))
    ·intro w
     refine And.intro ?_ ?_
     ·refine ah.mk ⟨by omega,by omega,by omega,by decide⟩ ?_
      intro bi
      refine And.intro ?_ ?_
      ·refine ah.mk ⟨by omega,by omega,by omega,by decide⟩ ?_
       intro bl
       refine ah.mk ⟨by omega,by omega,by omega,by decide⟩ ?_
       intro bo
       refine ai.mk 3 _ _ rfl rfl ?_
       exact bV.mk (w,bi,bl,bo) ⟨rfl,rfl,rfl,trivial⟩ (.pull [3,2,1,0] (aF rfl))
      ·refine ah.mk ⟨by omega,by omega,by omega,by decide⟩ ?_
       intro bo
       refine ah.mk ⟨by omega,by omega,by omega,by decide⟩ ?_
       intro bl
       refine ai.mk 3 _ _ rfl rfl ?_
       exact bV.mk (w,bi,bl,bo) ⟨rfl,rfl,rfl,trivial⟩ (.pull [3,2,1,1] (aF rfl))
     ·refine And.intro ?_ ?_
      ·refine ah.mk ⟨by omega,by omega,by omega,by decide⟩ ?_
       intro bl
       refine And.intro ?_ ?_
       ·refine ah.mk ⟨by omega,by omega,by omega,by decide⟩ ?_
        intro bi
        refine ah.mk ⟨by omega,by omega,by omega,by decide⟩ ?_
        intro bo
        refine ai.mk 3 _ _ rfl rfl ?_
        exact bV.mk (w,bi,bl,bo) ⟨rfl,rfl,rfl,trivial⟩ (.pull [3,2,2,0] (aF rfl))
       ·refine ah.mk ⟨by omega,by omega,by omega,by decide⟩ ?_
        intro bo
        refine ah.mk ⟨by omega,by omega,by omega,by decide⟩ ?_
        intro bi
        refine ai.mk 3 _ _ rfl rfl ?_
        exact bV.mk (w,bi,bl,bo) ⟨rfl,rfl,rfl,trivial⟩ (.pull [3,2,2,1] (aF rfl))
      ·refine ah.mk ⟨by omega,by omega,by omega,by decide⟩ ?_
       intro bo
       refine And.intro ?_ ?_
       ·refine ah.mk ⟨by omega,by omega,by omega,by decide⟩ ?_
        intro bi
        refine ah.mk ⟨by omega,by omega,by omega,by decide⟩ ?_
        intro bl
        refine ai.mk 3 _ _ rfl rfl ?_
        exact bV.mk (w,bi,bl,bo) ⟨rfl,rfl,rfl,trivial⟩ (.pull [3,2,1,2] (aF rfl))
       ·refine ah.mk ⟨by omega,by omega,by omega,by decide⟩ ?_
        intro bl
        refine ah.mk ⟨by omega,by omega,by omega,by decide⟩ ?_
        intro bi
        refine ai.mk 3 _ _ rfl rfl ?_
        exact bV.mk (w,bi,bl,bo) ⟨rfl,rfl,rfl,trivial⟩ (.pull [3,2,2,2] (aF rfl))
 rintro⟨w,bi,bl,bo⟩ g
 have bF:∀(a:Nat) (σ:Hp),ACalls Tryz.prog 204 [.int .i64 n,.af bA l,.int .i64 a] σ (aB (.af (.int .i64) (au n l a)) σ):=fun a σ=>vw n l a σ hl
 have tZ:∀k,bE ((List.range (k+1)).map fun a:Nat=>au n l a)=bE ((List.range k).map fun a:Nat=>au n l a)++[.af (.int .i64) (au n l k)]:=fun k=>by rw[List.range_succ,List.map_append];exact List.map_append
 have cO:∀k,(bE ((List.range k).map fun a:Nat=>au n l a)).length=k:=fun k=>by rw[pZ,List.length_map,List.length_range]
 refine aU (S:=Nat×AV×Hp) (fun x=>[(0,.int .i64 n),(1,.af bA l),(6,.ptr w 0),(20,.int .i64 n),(21,.int .i64 x.1)]) (fun x=>(w,[x.2.1,.ae bi 0 n 1,.ae bl 0 n 1,.ae bo 0 n 1,.aj,.int .i64 0,.aj])::(bi,bN [.int .i64 0] n)::(bl,bN [.int .i64 0] n)::(bo,bN [.bool false] n)::(x.2.2++σ)) (fun x=>x.1≤n∧(x.1<n→Acc 1 x.1 x.2.1 x.2.2 (bE ((List.range x.1).map fun a:Nat=>au n l a)))∧(x.1=n→x.2.1=.af (.slice (.int .i64)) (bB n l)∧x.2.2=[])) (fun x=>n-x.1) (0,.aj,[]) ⟨⟨Nat.zero_le _,fun _=>.nil,fun h=>by have h:0=n:=h;omega⟩,⟨rfl,rfl,rfl,rfl,rfl,trivial⟩,rfl⟩ ?_
 rintro⟨k,v,acc⟩ g ⟨aG,eR,xA⟩
 have hk:k≤n:=aG
 have bc:k<n→Acc 1 k v acc (bE ((List.range k).map fun a:Nat=>au n l a)):=eR
 have kp:k=n→v=.af (.slice (.int .i64)) (bB n l)∧acc=[]:=xA
 clear aG eR xA
 refine an (p:=(k:Int)<n) (fun ab =>?_) (fun aq =>?_)
 ·have ab:k<n:=by omega
  have bc:=bc ab
  clear kp
  have iJ:(bB n l).length=n:=by unfold bB;rw[List.length_map,List.length_range]
  have vU:∀k,k+1=n→((bE ((List.range k).map fun a:Nat=>au n l a)++[AV.af (.int .i64) (au n l k)]).drop 0).take ((k+1)*1)=(bB n l).flatMap (Sh.cells (.slice (.int .i64))):=fun k hk=>by
   rw[← tZ,List.drop_zero,List.take_of_length_le (by rw[cO,Nat.mul_one];exact Nat.le_refl _),hk]
   exact p9 _
  refine .sched [5] (.one 0 false (.one 2 false (.one 3 false (.one 4 false (.one 5 true (.alt 1 (.one 6 false (.one 7 false (.one 8 false (.one 9 false .stop)))) (.one 6 false (.one 1 false (.one 7 false (.one 8 false (.one 9 false .stop))))))))))) (by kernel_rfl) ?_
  refine aJ [] (vw n l _ _ hl) ?_
  refine And.intro ?_ ?_
  ·refine aa.mk 0 _ _ rfl rfl ?_
   intro aC
   refine uw [_,_,_,_,_] bc.sl (.ae 0 aC 0 1 _ rfl (Nat.le_of_ble_eq_true rfl)) rfl (by omega) (by decide) (by decide) (fun v' aP h' =>?_)
   obtain⟨b5,rfl,rfl⟩:=oY (by omega) h'
   refine ai.mk 1 _ _ rfl rfl ?_
   by_cases eM:k+1=n
   ·refine .hY 5 b5 0 (k+1) 1 _ (.slice (.int .i64)) (bB n l) rfl (vU k eM) ⟨(iJ.trans eM.symm),rfl,by decide⟩ 1 0 w _ rfl rfl ?_
    exact aH (k+1,.af (.slice (.int .i64)) (bB n l),[]) (by show n-(k+1)<n-k;omega) ⟨ab,fun h=>absurd eM (by have h:k+1<n:=h;omega),fun _=>⟨rfl,rfl⟩⟩ ⟨rfl,rfl,rfl,rfl,aI (by omega),trivial⟩ (.drop 0 1 (aF rfl))
   ·exact aH (k+1,.ae b5 0 (k+1) 1,[(b5,bE ((List.range k).map fun a:Nat=>au n l a)++[.af (.int .i64) (au n l k)])]) (by show n-(k+1)<n-k;omega) ⟨ab,fun _=>by show Acc 1 (k+1) _ _ (bE ((List.range (k+1)).map fun a:Nat=>au n l a));rw[tZ];exact h',fun h=>absurd h eM⟩ ⟨rfl,rfl,rfl,rfl,aI (by omega),trivial⟩ (.drop 0 1 (aF rfl))
  ·intro bM
   refine aa.mk 1 _ _ rfl rfl ?_
   refine uw [_,_,_,_,_] bc.sl (.ae 0 bM 0 1 _ rfl (Nat.le_of_ble_eq_true rfl)) rfl (by omega) (by decide) (by decide) (fun v' aP h' =>?_)
   obtain⟨b5,rfl,rfl⟩:=oY (by omega) h'
   refine ai.mk 1 _ _ rfl rfl ?_
   by_cases eM:k+1=n
   ·refine .hY 5 b5 0 (k+1) 1 _ (.slice (.int .i64)) (bB n l) rfl (vU k eM) ⟨(iJ.trans eM.symm),rfl,by decide⟩ 1 0 w _ rfl rfl ?_
    exact aH (k+1,.af (.slice (.int .i64)) (bB n l),[]) (by show n-(k+1)<n-k;omega) ⟨ab,fun h=>absurd eM (by have h:k+1<n:=h;omega),fun _=>⟨rfl,rfl⟩⟩ ⟨rfl,rfl,rfl,rfl,aI (by omega),trivial⟩ (.drop 0 1 (aF rfl))
   ·exact aH (k+1,.ae b5 0 (k+1) 1,[(b5,bE ((List.range k).map fun a:Nat=>au n l a)++[.af (.int .i64) (au n l k)])]) (by show n-(k+1)<n-k;omega) ⟨ab,fun _=>by show Acc 1 (k+1) _ _ (bE ((List.range (k+1)).map fun a:Nat=>au n l a));rw[tZ];exact h',fun h=>absurd h eM⟩ ⟨rfl,rfl,rfl,rfl,aI (by omega),trivial⟩ (.drop 0 1 (aF rfl))
 ·have aq:k=n:=by omega
  obtain⟨rfl,rfl⟩:=kp aq
  clear bc kp
  refine aU (S:=Nat×(List Int×List Int×List Bool×Nat×List (List Int))×(AV×Hp×AV×Hp)) (fun x=>[(0,.int .i64 n),(1,.af bA l),(6,.ptr w 0),(34,.int .i64 n),(35,.int .i64 x.1)]) (fun x=>(w,bZ (bB n l) bi bl bo n x.2.2.1 x.2.1.2.2.2.1 x.2.2.2.2.1)::(bi,ak x.2.1.1)::(bl,ak x.2.1.2.1)::(bo,aZ x.2.1.2.2.1)::(x.2.2.2.1++(x.2.2.2.2.2++σ))) (fun x=>x.1≤n∧FI n (au n l) x.2.1.1 x.2.1.2.1 x.2.1.2.2.1 [] x.2.1.2.2.2.1 x.2.1.2.2.2.2 []∧fu 1 0 x.2.2.1 x.2.2.2.1 []∧Acc 1 x.2.1.2.2.2.2.length x.2.2.2.2.1 x.2.2.2.2.2 (bE x.2.1.2.2.2.2)∧∀b:Nat,b<x.1→x.2.1.1.getD b 0≠0) (fun x=>n-x.1) (0,(List.replicate n 0,List.replicate n 0,List.replicate n false,0,[]),(.aj,[],.aj,[])) ⟨⟨Nat.zero_le _,.start n (au n l),.nil,.nil,fun _ h=>absurd h (Nat.not_lt_zero _)⟩,⟨rfl,rfl,rfl,rfl,rfl,trivial⟩,by rw[p8,uL];rfl⟩ ?_
  clear aq
  rintro⟨k,⟨ix,lo,on,aM,P⟩,⟨vs,iX,vp,du⟩⟩ g2 ⟨aG,oK,mF,nw,k8⟩
  have hk:k≤n:=aG
  have hF:FI n (au n l) ix lo on [] aM P []:=oK
  have hs:fu 1 0 vs iX []:=mF
  have hp:Acc 1 P.length vp du (bE P):=nw
  have hv:∀b:Nat,b<k→ix.getD b 0≠0:=k8
  clear aG oK mF nw k8
  have yI:((k:Nat):Int).toNat=k:=Int.toNat_natCast k
  refine an (p:=(k:Int)<n) (fun ab =>?_) (fun aq =>?_)
  ·have ab:k<n:=by omega
   refine aa.mk 0 _ _ rfl rfl ?_
   refine ah.mk ⟨rfl,by omega,by omega⟩ ?_
   refine aa.mk 1 _ _ rfl (dD rfl (by omega) (by rw[hF.li];omega)) ?_
   refine an (p:=ix.getD ((k:Nat):Int).toNat 0=0) (fun c1 =>?_) (fun c1 =>?_)
   ·refine .mk [] _ (WK n w bi bl bo l ix lo on aM P vs vp iX du k σ (by omega) hF (by omega) c1 hs hp) ?_
    rintro _ _ ⟨rfl,FA,Fz,Fx,Fi,P2,BN,EL,Fp,EM,Gt,eW,cg,kA,ny,rfl⟩
    rw[yI]at kA
    refine aH (k+1,(FA,Fz,Fx,Fi,P2),(BN,EL,Fp,EM)) (by show n-(k+1)<n-k;omega) ⟨ab,Gt,eW,cg,fun b hb =>?_⟩ ⟨rfl,rfl,rfl,rfl,aI (by omega),trivial⟩ (.refl _)
    have hb:b<k+1:=hb
    by_cases e:b=k
    ·subst e;exact kA
    ·exact ny b (hv b (by omega))
   ·rw[yI]at c1
    refine aH (k+1,(ix,lo,on,aM,P),(vs,iX,vp,du)) (by show n-(k+1)<n-k;omega) ⟨ab,hF,hs,hp,fun b hb =>?_⟩ ⟨rfl,rfl,rfl,rfl,aI (by omega),trivial⟩ (.refl _)
    have hb:b<k+1:=hb
    by_cases e:b=k
    ·subst e;exact c1
    ·exact hv b (by omega)
  ·have aq:k=n:=by omega
   subst aq
   have bH:kX k l P:=⟨hF.tj.prt,fun x h0 h1=>by
    have h2:=hv x.toNat (by omega)
    have h3:=(hF.tj.sj x h0 h1).1 (by rw[jA h0];exact h2)
    exact h3.resolve_left (by simp)⟩
   have yV:=wI hF.tj.prt
   refine aa.mk 0 _ _ rfl rfl ?_
   obtain⟨x,hx,_⟩:=bH.all 0 (by omega) (by omega)
   have pQ:=List.length_pos_of_mem hx
   obtain⟨b5,rfl,rfl⟩:=oY pQ hp
   rcases hs.zero with ⟨rfl,rfl⟩ | ⟨bs,J,rfl,rfl⟩
   ·skip
    refine .bO (args':=[.int .i64 k,.af bA l,.af (.slice (.int .i64)) P]) 4 b5 0 P.length 1 _ (.slice (.int .i64)) P rfl (by rw[List.drop_zero,List.take_of_length_le (by rw[pZ,Nat.mul_one];exact Nat.le_refl _)];exact p9 _) ⟨rfl,rfl,by decide⟩ (bL (.refl _) (bL (.refl _) (bL .here (.refl _)))) ?_
    refine az [] (JQ k l P _ bH hl (by omega) vX) ?_
    exact .drop 0 4 (.done ⟨rfl,rfl,P,bH⟩)
   ·skip
    refine .bO (args':=[.int .i64 k,.af bA l,.af (.slice (.int .i64)) P]) 5 b5 0 P.length 1 _ (.slice (.int .i64)) P rfl (by rw[List.drop_zero,List.take_of_length_le (by rw[pZ,Nat.mul_one];exact Nat.le_refl _)];exact p9 _) ⟨rfl,rfl,by decide⟩ (bL (.refl _) (bL (.refl _) (bL .here (.refl _)))) ?_
    refine az [] (JQ k l P _ bH hl (by omega) vX) ?_
    exact .drop 0 5 (.done ⟨rfl,rfl,P,bH⟩)
end Go.Proofs.YtnpidbjdilnhlaaGreat
