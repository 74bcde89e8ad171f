import Derived.Test.YtnpidbjdilnhlaaGreatBn36
import Derived.Test.YtnpidbjdilnhlaaGreatBn33
namespace Go.Proofs.YtnpidbjdilnhlaaGreat
open Go.RowKit
set_option maxRecDepth 100000
theorem fZ.zero{e:Nat}{v:AV}{acc:Hp}{cs:List AV}(h:fZ e 0 v acc cs):(v=.af∧acc=[])∨∃b J,v=.ae b 0 0 e∧acc=[(b,J)]:=by
 generalize hz:(0:Nat)=z at h
 cases h with
 | nil=>exact .inl ⟨rfl,rfl⟩
 | ae b k cs J h=>subst hz;exact .inr ⟨b,_,rfl,rfl⟩
def tR(W:List Int)(T:List Bool)(i:Int)(x:aV):Bool:=decide (W.getD x.2.1.toNat 0=i) && decide (W.getD x.1.toNat 0≠i) && !T.getD (W.getD x.1.toNat 0).toNat false
theorem aav(bW bw bI bT bt n m:Nat)(W:List Int)(T:List Bool)(i:Int)(x:aV)(σ:Hp)(h1:0≤x.1∧x.1<n)(h2:0≤x.2.1∧x.2.1<n)(hW:W.length=n)(hT:T.length=m)(hr:0≤W.getD x.1.toNat 0∧W.getD x.1.toNat 0<m):
  ACalls Tryz.prog 249 (x4 x::[.ptr bW 0,.ptr bI 0,.ptr bT 0]) ((bI,[.int .i64 i])::(bT,[.ae bt 0 m 1])::(bW,[.ae bw 0 n 1])::(bw,aj W)::(bt,aY T)::σ) (az (.bool (tR W T i x)) ((bI,[.int .i64 i])::(bT,[.ae bt 0 m 1])::(bW,[.ae bw 0 n 1])::(bw,aj W)::(bt,aY T)::σ)):=by
 obtain⟨x1,x2,xu⟩:=x
 have h1:0≤x1∧x1<n:=h1
 have h2:0≤x2∧x2<n:=h2
 have hr:0≤W.getD x1.toNat 0∧W.getD x1.toNat 0<m:=hr
 refine okF Tryz.func249 (by kernel_rfl) ?_
 intro bx
 refine .quiet (by kernel_rfl) ?_
 refine aa 3 ?_
 refine aa 0 ?_
 refine ag.mk ⟨rfl,by omega,by omega⟩ ?_
 refine aL 4 rfl (dT rfl h2.1 (by omega)) ?_
 refine aa 1 ?_
 refine ao (fun c1 =>?_) (fun c1 =>?_)
 ·have c1:W.getD x2.toNat 0=i:=c1
  refine aa 3 ?_
  refine aa 0 ?_
  refine ag.mk ⟨rfl,by omega,by omega⟩ ?_
  refine aL 4 rfl (dT rfl h1.1 (by omega)) ?_
  refine aa 1 ?_
  refine dx (fun c2 =>?_) (fun c2 =>?_)
  ·have c2:¬(W.getD x1.toNat 0=i):=by simpa using c2
   refine aa 2 ?_
   refine aa 3 ?_
   refine aa 0 ?_
   refine ag.mk ⟨rfl,by omega,by omega⟩ ?_
   have hL:∀b,T.getD (W.getD x1.toNat 0).toNat false=b→tR W T i (x1,x2,xu) = !b:=fun b hb=>by
    unfold tR
    rw[decide_eq_true (show W.getD x2.toNat 0=i from c1),decide_eq_true (show W.getD x1.toNat 0≠i from c2)]
    show (true && true && !T.getD (W.getD x1.toNat 0).toNat false)=_
    rw[hb];rfl
   refine aL 4 rfl (dT rfl h1.1 (by omega)) ?_
   refine ag.mk ⟨rfl,by omega,by omega⟩ ?_
   refine dJ.iZ 5 _ _ rfl (qE rfl hr.1 (by omega)) (fun c3 =>?_) (fun c3 =>?_)
   ·exact .drop 0 1 (.done ⟨cM (hL true c3).symm,rfl⟩)
   ·exact .drop 0 1 (.done ⟨cM (hL false c3).symm,rfl⟩)
  ·have c2:W.getD x1.toNat 0=i:=by simpa using c2
   refine .drop 0 1 (.done ⟨cM ?_,rfl⟩)
   unfold tR
   rw[decide_eq_false (show ¬(W.getD x1.toNat 0≠i) from fun h=>h c2),Bool.and_false];rfl
 ·have c1:¬(W.getD x2.toNat 0=i):=c1
  refine .drop 0 1 (.done ⟨cM ?_,rfl⟩)
  unfold tR
  rw[decide_eq_false (show ¬(W.getD x2.toNat 0=i) from c1)];rfl
theorem QA(bW bw bl bT bt n m:Nat)(l:List aV)(W:List Int)(T:List Bool)(i:Int)(σ:Hp)(hl:l.length≤100000)(hi:0≤i∧i<m)(hr:∀e∈l,(0≤e.1∧e.1<(n:Int))∧0≤e.2.1∧e.2.1<(n:Int))(hW:W.length=n)(hT:T.length=m)(hw:∀k:Nat,k<n→0≤W.getD k 0∧W.getD k 0<m):
  ACalls Tryz.prog 248 [.int .i64 i,.ptr bT 0,.ptr bl 0,.ptr bW 0] ((bT,[.ae bt 0 m 1])::(bW,[.ae bw 0 n 1])::(bw,aj W)::(bt,aY T)::(bl,[.ah cI l])::σ) (az (.bool (lh l W T i)) ((bT,[.ae bt 0 m 1])::(bW,[.ae bw 0 n 1])::(bw,aj W)::(bt,aY T)::(bl,[.ah cI l])::σ)):=by
 have hF:∀b,T.getD i.toNat false=b→lh l W T i=(!b && !l.any (tR W T i)):=fun b hb=>by unfold lh;rw[hb];rfl
 refine okF Tryz.func248 (by kernel_rfl) ?_
 intro bI
 refine aa 1 ?_
 refine aa 0 ?_
 refine ag.mk ⟨rfl,by omega,by omega⟩ ?_
 refine dJ.iZ 4 _ _ rfl (qE rfl hi.1 (by omega)) (fun c1 =>?_) (fun c1 =>?_)
 ·exact .drop 0 1 (.done ⟨cM (hF true c1).symm,rfl⟩)
 ·refine aa 5 ?_
  have hg:∀(k:Nat) (hk:k<l.length),ACalls Tryz.prog 249 (x4 l[k]::[.ptr bW 0,.ptr bI 0,.ptr bT 0]) ((bI,[.int .i64 i])::(bT,[.ae bt 0 m 1])::(bW,[.ae bw 0 n 1])::(bw,aj W)::(bt,aY T)::(bl,[.ah cI l])::σ) (az (.bool (tR W T i l[k])) ((bI,[.int .i64 i])::(bT,[.ae bt 0 m 1])::(bW,[.ae bw 0 n 1])::(bw,aj W)::(bt,aY T)::(bl,[.ah cI l])::σ)):=fun k hk=>by
   obtain⟨h1,h2⟩:=hr _ (List.getElem_mem hk)
   exact aav bW bw bI bT bt n m W T i l[k] _ h1 h2 hW hT (hw _ (by omega))
  refine ax [] (Ld 249 _ l (tR W T i) _ (Nat.le_trans hl (by decide)) hg) ?_
  exact .drop 0 1 (.done ⟨cM (hF false c1).symm,rfl⟩)
theorem vm:∀n:Nat,bU [.int .i64 0] n=aj (List.replicate n 0)
 | 0=>rfl
 | n+1=>by
  show [AV.int .i64 0]++bU [.int .i64 0] n=_
  rw[vm n];rfl
theorem NY(n:Nat)(l:List aV)(P:List (List Int))(σ:Hp)(h:mi n l P)(hl:l.length≤100000)(hn:n≤1000)(hr:∀e∈l,(0≤e.1∧e.1<(n:Int))∧0≤e.2.1∧e.2.1<(n:Int)):
  ACalls Tryz.prog 206 [.int .i64 n,.ah cI l,.ah (.slice (.int .i64)) P] σ (az (.ah (.slice (.int .i64)) (iI n l)) σ):=by
 obtain⟨ql,hpf⟩:=zk h.ok
 have hNt:((n:Nat):Int).toNat=n:=Int.toNat_natCast n
 refine okF Tryz.func206 (by kernel_rfl) ?_
 intro bl
 refine ag.mk ⟨by omega,by omega,by omega,by decide⟩ ?_
 intro bw
 intro bW
 refine ai 0 ?_
 refine bO (S:=Nat) (fun k=>[(2,.ah (.slice (.int .i64)) P),(4,.ptr bl 0),(7,.ptr bW 0),(20,.ah (.slice (.int .i64)) P),(21,.int .i64 P.length),(22,.int .i64 k)]) (fun k=>(bW,[.ae bw 0 n 1])::(bw,aj (kH P k (List.replicate n 0)))::(bl,[.ah cI l])::σ) (fun k=>k≤P.length) (fun k=>P.length-k) 0 ⟨Nat.zero_le _,⟨rfl,rfl,rfl,rfl,rfl,rfl,trivial⟩,by rw[show aj (kH P 0 (List.replicate n 0))=bU [.int .i64 0] n from (vm n).symm];rfl⟩ ?_
 intro k g aZ
 have hk:k≤P.length:=aZ
 clear aZ
 refine ao (p:=(k:Int)<P.length) (fun ab =>?_) (fun au =>?_)
 ·have ab:k<P.length:=by omega
  obtain⟨p,hp⟩:∃p,P[k]=p:=⟨_,rfl⟩
  have dN:P[k]?=some p:=(List.getElem?_eq_getElem ab).trans (congrArg some hp)
  have qk:=h.ok.node p (List.mem_of_getElem? dN)
  have ac3:p.length≤n:=zm n p ((h.ok.yu p (List.mem_of_getElem? dN)).imp fun h=>by omega) qk
  have py:=y4 P k (List.replicate n 0)
  rw[List.length_replicate]at py
  have qg:kH P (k+1) (List.replicate n 0)=jD k p (kH P k (List.replicate n 0)):=by show jD k (P.getD k []) _=_;rw[r9 dN]
  generalize kH P k (List.replicate n 0)=W at py qg
  refine ag.mk rfl (bH.mk p (by omega) (show P[((k:Nat):Int).toNat]?=some p by rw[Int.toNat_natCast];exact dN) ?_)
  refine bO (S:=Nat) (fun j=>[(2,.ah (.slice (.int .i64)) P),(4,.ptr bl 0),(7,.ptr bW 0),(8,.int .i64 k),(20,.ah (.slice (.int .i64)) P),(21,.int .i64 P.length),(22,.int .i64 k),(27,.ah (.int .i64) p),(28,.int .i64 p.length),(29,.int .i64 j)]) (fun j=>(bW,[.ae bw 0 n 1])::(bw,aj (jD k (p.take j) W))::(bl,[.ah cI l])::σ) (fun j=>j≤p.length) (fun j=>p.length-j) 0 ⟨Nat.zero_le _,⟨rfl,rfl,rfl,rfl,rfl,rfl,rfl,rfl,rfl,rfl,trivial⟩,rfl⟩ ?_
  intro j g2 qo
  have hj:j≤p.length:=qo
  clear qo
  refine ao (p:=(j:Int)<p.length) (fun ey =>?_) (fun nh =>?_)
  ·have ey:j<p.length:=by omega
   obtain⟨a,ha⟩:∃a,p[j]=a:=⟨_,rfl⟩
   have qt:=qk a (ha▸List.getElem_mem ey)
   have ak:(jD k (p.take j) W).set a.toNat k=jD k (p.take (j+1)) W:=by unfold jD;rw[List.take_succ_eq_append_getElem ey,ha,List.foldl_append];rfl
   have uA:=Cm k (p.take j) W
   refine ag.mk rfl (bH.mk a (by omega) ((get_some ey).trans (congrArg some ha)) ?_)
   refine aa 0 ?_
   refine ag.mk ⟨rfl,by omega,by omega⟩ ?_
   refine cd 1 rfl (kZ rfl _ qt.1 (by omega)) ?_
   exact bg (j+1) (by show p.length-(j+1)<p.length-j;omega) ey ⟨rfl,rfl,rfl,rfl,rfl,rfl,rfl,rfl,rfl,a8 (by omega),trivial⟩ (aF (by rw[← ak];rfl))
  ·have nh:j=p.length:=by omega
   subst nh
   exact bg (k+1) (by show P.length-(k+1)<P.length-k;omega) ab ⟨rfl,rfl,rfl,rfl,rfl,a8 (by omega),trivial⟩ (aF (by rw[List.take_length,qg]))
 ·have au:k=P.length:=by omega
  subst au
  have J5:∀j:Nat,j<n→0≤(aO n P).getD j 0∧(aO n P).getD j 0<(P.length:Int):=fun j hj=>by
   obtain⟨i,p,hi,_,hw⟩:=h.idx (x:=(j:Int)) (by omega)
   rw[Int.toNat_natCast]at hw
   have:=ve hi
   rw[hw];omega
  have py:=Lh n P
  have A8:=fun k hk=>(Df h hr k hk)
  have ui:=HW h hr
  have aI:∀(i:Nat) (p:List Int),P[i]?=some p→p[((0:Int)).toNat]?=some (fW P i):=fun i p hi=>by
   unfold fW
   rw[r9 hi]
   exact OJ (List.length_pos_iff.2 (h.ok.ne p (List.mem_of_getElem? hi)))
  rw[show kH P P.length (List.replicate n 0)=aO n P from rfl]
  refine ag.mk ⟨by omega,by omega,by show ((P.length:Nat):Int)≤1048576;omega,by decide⟩ ?_
  intro bt
  intro bT
  refine ai 0 ?_
  obtain⟨m,hm⟩:∃m,P.length=m:=⟨_,rfl⟩
  refine .wrap 14 _ rfl rfl ?_
  refine .cO (.pull [0,2,3,3] (.refl _)) ?_
  refine bO (S:=Nat×AV×Hp) (fun x=>[(2,.ah (.slice (.int .i64)) P),(12,.ptr bT 0),(13,.fn (.func 248) [] [.ptr bT 0,.ptr bl 0,.ptr bW 0]),(14,.via x.2.1),(44,.int .i64 P.length),(45,.int .i64 x.1)]) (fun x=>(bT,[.ae bt 0 P.length 1])::(bW,[.ae bw 0 n 1])::(bw,aj (aO n P))::(bt,aY (cD P l (aO n P) x.1).1)::(bl,[.ah cI l])::(x.2.2++σ)) (fun x=>x.1≤P.length∧Acc 1 x.1 x.2.1 x.2.2 (bK (cD P l (aO n P) x.1).2)) (fun x=>P.length-x.1) (0,.af,[]) ⟨⟨Nat.zero_le _,.nil⟩,⟨rfl,rfl,rfl,rfl,rfl,rfl,trivial⟩,by rw[show aY (cD P l (aO n P) 0).1=bU [.bool false] P.length from (zT P.length).symm];rfl⟩ ?_
  rintro⟨k,v,acc⟩ g2 ⟨aZ,kB⟩
  have hk:k≤P.length:=aZ
  have bP:Acc 1 k v acc (bK (cD P l (aO n P) k).2):=kB
  clear aZ kB
  refine ao (p:=(k:Int)<P.length) (fun ab =>?_) (fun au =>?_)
  ·have ab:k<P.length:=by omega
   obtain⟨hO,AE,_⟩:=A8 k hk
   obtain⟨b,hb,my⟩:=AE ab
   have BV:=hO.tl
   have dX:(cD P l (aO n P) (k+1)).1=(cD P l (aO n P) k).1.set b true:=by
    show (cD P l (aO n P) k).1.set (ec P l (aO n P) (cD P l (aO n P) k).1 P.length).toNat true=_
    rw[hb,Int.toNat_natCast]
   have fq:(cD P l (aO n P) (k+1)).2=(cD P l (aO n P) k).2++[P.getD b []]:=by
    show (cD P l (aO n P) k).2++[P.getD (ec P l (aO n P) (cD P l (aO n P) k).1 P.length).toNat []]=_
    rw[hb,Int.toNat_natCast]
   generalize (cD P l (aO n P) k).1=T at hb BV dX
   generalize (cD P l (aO n P) k).2=out at bP fq
   clear hO AE
   have I5:=Cv P l (aO n P) T
   refine bO (S:=Nat) (fun i=>[(2,.ah (.slice (.int .i64)) P),(12,.ptr bT 0),(13,.fn (.func 248) [] [.ptr bT 0,.ptr bl 0,.ptr bW 0]),(14,.via v),(15,.int .i64 (ec P l (aO n P) T i)),(44,.int .i64 P.length),(45,.int .i64 k),(47,.ah (.slice (.int .i64)) P),(48,.int .i64 P.length),(49,.int .i64 i)]) (fun _=>(bT,[.ae bt 0 P.length 1])::(bW,[.ae bw 0 n 1])::(bw,aj (aO n P))::(bt,aY T)::(bl,[.ah cI l])::(acc++σ)) (fun i=>i≤P.length) (fun i=>P.length-i) 0 ⟨Nat.zero_le _,⟨rfl,rfl,rfl,rfl,rfl,rfl,rfl,rfl,rfl,rfl,trivial⟩,rfl⟩ ?_
   intro i g3 dY
   have hi:i≤P.length:=dY
   clear dY
   refine ao (p:=(i:Int)<P.length) (fun ey =>?_) (fun nh =>?_)
   ·have ey:i<P.length:=by omega
    obtain⟨p,hp⟩:∃p,P[i]=p:=⟨_,rfl⟩
    have dN:P[i]?=some p:=(List.getElem?_eq_getElem ey).trans (congrArg some hp)
    have s5:=fun ρ=>QA bW bw bl bT bt n P.length l (aO n P) T i ρ hl (by omega) hr py BV J5
    have dB:ec P l (aO n P) T (i+1)=if lh l (aO n P) T i=true∧(ec P l (aO n P) T i<0∨fW P i<fW P (ec P l (aO n P) T i).toNat) then (i:Int) else ec P l (aO n P) T i:=rfl
    have BT:=I5 i
    refine ag.mk rfl (bH.mk p (by omega) (show P[((i:Nat):Int).toNat]?=some p by rw[Int.toNat_natCast];exact dN) ?_)
    cases hf:lh l (aO n P) T i with
    | false =>
     rw[hf]at s5 dB
     rw[if_neg (fun h=>by cases h.1)]at dB
     refine .quiet (by kernel_rfl) ?_
     refine aD [] (s5 _) ?_
     exact bg (i+1) (by show P.length-(i+1)<P.length-i;omega) ey ⟨rfl,rfl,rfl,rfl,by rw[dB];rfl,rfl,rfl,rfl,rfl,a8 (by omega),trivial⟩ (.refl _)
    | true =>
     rw[hf]at s5 dB
     refine .quiet (by kernel_rfl) ?_
     refine aD [] (s5 _) ?_
     refine ao (p:=ec P l (aO n P) T i<0) (fun c1 =>?_) (fun c1 =>?_)
     ·rw[if_pos ⟨rfl,.inl c1⟩]at dB
      exact bg (i+1) (by show P.length-(i+1)<P.length-i;omega) ey ⟨rfl,rfl,rfl,rfl,by rw[dB];rfl,rfl,rfl,rfl,rfl,a8 (by omega),trivial⟩ (.refl _)
     ·obtain⟨b2,e2,l2,_⟩:=BT.resolve_left fun h=>c1 (by rw[h.1];decide)
      obtain⟨p2,cx⟩:∃p,P[b2]?=some p:=⟨P[b2],List.getElem?_eq_getElem (by omega)⟩
      have QS:P[(ec P l (aO n P) T i).toNat]?=some p2:=by rw[e2,Int.toNat_natCast];exact cx
      have Fw:0≤ec P l (aO n P) T i:=by omega
      rw[e2,Int.toNat_natCast,← e2]at dB
      refine ag.mk rfl ?_
      refine bH.mk (fW P i) (by decide) (aI i p dN) ?_
      refine ag.mk rfl ?_
      refine bH.mk p2 Fw QS ?_
      refine ag.mk rfl ?_
      refine bH.mk (fW P b2) (by decide) (aI b2 p2 cx) ?_
      refine ao (p:=fW P i<fW P b2) (fun c2 =>?_) (fun c2 =>?_)
      ·rw[if_pos ⟨rfl,.inr c2⟩]at dB
       exact bg (i+1) (by show P.length-(i+1)<P.length-i;omega) ey ⟨rfl,rfl,rfl,rfl,by rw[dB];rfl,rfl,rfl,rfl,rfl,a8 (by omega),trivial⟩ (.refl _)
      ·rw[if_neg (fun h=>h.2.elim c1 c2)]at dB
       exact bg (i+1) (by show P.length-(i+1)<P.length-i;omega) ey ⟨rfl,rfl,rfl,rfl,by rw[dB];rfl,rfl,rfl,rfl,rfl,a8 (by omega),trivial⟩ (.refl _)
   ·have nh:i=P.length:=by omega
    subst nh
    refine aa 0 ?_
    refine ag.mk ⟨rfl,by omega,by omega⟩ ?_
    refine cd 3 rfl (vk rfl true (by omega) (by omega)) ?_
    refine ag.mk rfl ?_
    obtain⟨pb,ot⟩:∃p,P[b]?=some p:=⟨P[b],List.getElem?_eq_getElem my⟩
    have ac4:P[(ec P l (aO n P) T P.length).toNat]?=some pb:=by rw[hb,Int.toNat_natCast];exact ot
    rw[r9 ot]at fq
    refine bH.mk pb (by omega) ac4 ?_
    intro bs
    refine kr [_,_,_,_,_,_] bP (.ae 0 bs 0 1 _ rfl (Nat.le_of_ble_eq_true rfl)) rfl (by omega) (by decide) (by decide) (fun v' bh h' =>?_)
    refine bg (k+1,v',bh) (by show P.length-(k+1)<P.length-k;omega) ⟨ab,?_⟩ ⟨rfl,rfl,rfl,rfl,rfl,a8 (by omega),trivial⟩ (.drop 0 1 (aF (by rw[dX,hb,Int.toNat_natCast];rfl)))
    show Acc 1 (k+1) v' bh (bK (cD P l (aO n P) (k+1)).2)
    rw[fq,show bK (out++[pb])=bK out++[.ah (.int .i64) pb] from List.map_append];exact h'
  ·have au:k=P.length:=by omega
   subst au
   rw[ui]at bP
   have lM:=(A8 P.length (Nat.le_refl _)).1.ol
   rw[ui]at lM
   exact qG (s:=.slice (.int .i64)) [_,_,_,_,_] bP lM.symm (tz _) (by decide) (.drop 0 5 (.done ⟨rfl,rfl⟩))
theorem Zi(n:Nat)(l:List aV)(σ:Hp)(hl:l.length≤100000)(cU:ej n l=true):ACalls Tryz.prog 152 [.int .i64 n,.ah cI l] σ (fun r σ'=>r=.tup [.ah (.slice (.int .i64)) (iI n l),.int .i64 0]∧σ'=σ∧∃P,mi n l P):=by
 have hn:1≤n∧n≤256:=by
  unfold ej at cU
  simp only[Bool.and_eq_true,decide_eq_true_eq]at cU
  omega
 have yO:∀e∈l,(0≤e.1∧e.1<(n:Int))∧0≤e.2.1∧e.2.1<(n:Int):=fun e he=>by
  unfold ej at cU
  simp only[Bool.and_eq_true,List.all_eq_true]at cU
  have:=cU.2 e he
  exact⟨jm.1 this.1,jm.1 this.2⟩
 refine okF Tryz.func152 (by kernel_rfl) ?_
 refine eH [] (An n l _ (by omega)) (fun _ =>?_) (fun c=>absurd c (by rw[cU];decide))
 refine fy.D4 (S:=Nat×Nat×Nat×Nat) [] (.one 0 false (.one 2 false (.one 4 false (.alt 1 (.alt 3 (.alt 5 (.one 6 false (.one 7 false (.one 8 false .stop))) (.one 7 false (.one 5 false (.one 6 false (.one 8 false .stop))))) (.alt 5 (.alt 3 (.one 6 false (.one 7 false (.one 8 false .stop))) (.one 7 false (.one 3 false (.one 6 false (.one 8 false .stop))))) (.one 7 false (.alt 3 (.one 5 false (.one 6 false (.one 8 false .stop))) (.one 5 false (.one 3 false (.one 6 false (.one 8 false .stop)))))))) (.alt 3 (.alt 1 (.alt 5 (.one 6 false (.one 7 false (.one 8 false .stop))) (.one 7 false (.one 5 false (.one 6 false (.one 8 false .stop))))) (.alt 5 (.alt 1 (.one 6 false (.one 7 false (.one 8 false .stop))) (.one 7 false (.one 1 false (.one 6 false (.one 8 false .stop))))) (.one 7 false (.alt 1 (.one 5 false (.one 6 false (.one 8 false .stop))) (.one 5 false (.one 1 false (.one 6 false (.one 8 false .stop)))))))) (.alt 5 (.alt 1 (.alt 3 (.one 6 false (.one 7 false (.one 8 false .stop))) (.one 7 false (.one 3 false (.one 6 false (.one 8 false .stop))))) (.alt 3 (.alt 1 (.one 6 false (.one 7 false (.one 8 false .stop))) (.one 7 false (.one 1 false (.one 6 false (.one 8 false .stop))))) (.one 7 false (.alt 1 (.one 3 false (.one 6 false (.one 8 false .stop))) (.one 3 false (.one 1 false (.one 6 false (.one 8 false .stop)))))))) (.one 7 false (.alt 1 (.alt 3 (.one 5 false (.one 6 false (.one 8 false .stop))) (.one 5 false (.one 3 false (.one 6 false (.one 8 false .stop))))) (.alt 3 (.alt 1 (.one 5 false (.one 6 false (.one 8 false .stop))) (.one 5 false (.one 1 false (.one 6 false (.one 8 false .stop))))) (.one 5 false (.alt 1 (.one 3 false (.one 6 false (.one 8 false .stop))) (.one 3 false (.one 1 false (.one 6 false (.one 8 false .stop))))))))))))))) (fun x=>[(0,.int .i64 n),(1,.ah cI l),(6,.ptr x.1 0)]) (fun x=>(x.1,[.af,.ae x.2.1 0 n 1,.ae x.2.2.1 0 n 1,.ae x.2.2.2 0 n 1,.af,.int .i64 0,.af])::(x.2.1,bU [.int .i64 0] n)::(x.2.2.1,bU [.int .i64 0] n)::(x.2.2.2,bU [.bool false] n)::σ) (by kernel_rfl) ?_ ?_
 ·refine And.intro ?_ ?_
  ·refine ag.mk ⟨by omega,by omega,by omega,by decide⟩ ?_
   intro bi
   refine And.intro ?_ ?_
   ·refine ag.mk ⟨by omega,by omega,by omega,by decide⟩ ?_
    intro bl
    refine And.intro ?_ ?_
    ·refine ag.mk ⟨by omega,by omega,by omega,by decide⟩ ?_
     intro bo
     intro w
     refine ai 0 ?_
     exact ca.mk (w,bi,bl,bo) ⟨rfl,rfl,rfl,trivial⟩ (.pull [3,3,2,1] (aF rfl))
    ·intro w
     refine ag.mk ⟨by omega,by omega,by omega,by decide⟩ ?_
     intro bo
     refine ai 1 ?_
     exact ca.mk (w,bi,bl,bo) ⟨rfl,rfl,rfl,trivial⟩ (.pull [3,3,2,0] (aF rfl))
   ·refine And.intro ?_ ?_
    ·refine ag.mk ⟨by omega,by omega,by omega,by decide⟩ ?_
     intro bo
     refine And.intro ?_ ?_
     ·refine ag.mk ⟨by omega,by omega,by omega,by decide⟩ ?_
      intro bl
      intro w
      refine ai 0 ?_
      exact ca.mk (w,bi,bl,bo) ⟨rfl,rfl,rfl,trivial⟩ (.pull [3,3,2,2] (aF rfl))
     ·intro w
      refine ag.mk ⟨by omega,by omega,by omega,by decide⟩ ?_
      intro bl
      refine ai 1 ?_
      exact ca.mk (w,bi,bl,bo) ⟨rfl,rfl,rfl,trivial⟩ (.pull [3,3,1,2] (aF rfl))
    ·intro w
     refine And.intro ?_ ?_
     ·refine ag.mk ⟨by omega,by omega,by omega,by decide⟩ ?_
      intro bl
      refine ag.mk ⟨by omega,by omega,by omega,by decide⟩ ?_
      intro bo
      refine ai 2 ?_
      exact ca.mk (w,bi,bl,bo) ⟨rfl,rfl,rfl,trivial⟩ (.pull [3,3,1,0] (aF rfl))
     ·refine ag.mk ⟨by omega,by omega,by omega,by decide⟩ ?_
      intro bo
      refine ag.mk ⟨by omega,by omega,by omega,by decide⟩ ?_
      intro bl
      refine ai 2 ?_
      exact ca.mk (w,bi,bl,bo) ⟨rfl,rfl,rfl,trivial⟩ (.pull [3,3,1,1] (aF rfl))
  ·refine And.intro ?_ ?_
   ·refine ag.mk ⟨by omega,by omega,by omega,by decide⟩ ?_
    intro bl
    refine And.intro ?_ ?_
    ·refine ag.mk ⟨by omega,by omega,by omega,by decide⟩ ?_
     intro bi
     refine And.intro ?_ ?_
     ·refine ag.mk ⟨by omega,by omega,by omega,by decide⟩ ?_
      intro bo
      intro w
      refine ai 0 ?_
      exact ca.mk (w,bi,bl,bo) ⟨rfl,rfl,rfl,trivial⟩ (.pull [3,3,3,1] (aF rfl))
     ·intro w
      refine ag.mk ⟨by omega,by omega,by omega,by decide⟩ ?_
      intro bo
      refine ai 1 ?_
      exact ca.mk (w,bi,bl,bo) ⟨rfl,rfl,rfl,trivial⟩ (.pull [3,3,3,0] (aF rfl))
    ·refine And.intro ?_ ?_
     ·refine ag.mk ⟨by omega,by omega,by omega,by decide⟩ ?_
      intro bo
      refine And.intro ?_ ?_
      ·refine ag.mk ⟨by omega,by omega,by omega,by decide⟩ ?_
       intro bi
       intro w
       refine ai 0 ?_
       exact ca.mk (w,bi,bl,bo) ⟨rfl,rfl,rfl,trivial⟩ (.pull [3,3,3,2] (aF rfl))
      ·intro w
       refine ag.mk ⟨by omega,by omega,by omega,by decide⟩ ?_
       intro bi
       refine ai 1 ?_
       exact ca.mk (w,bi,bl,bo) ⟨rfl,rfl,rfl,trivial⟩ (.pull [3,2,3,2] (aF rfl))
     ·intro w
      refine And.intro ?_ ?_
      ·refine ag.mk ⟨by omega,by omega,by omega,by decide⟩ ?_
       intro bi
       refine ag.mk ⟨by omega,by omega,by omega,by decide⟩ ?_
       intro bo
       refine ai 2 ?_
       exact ca.mk (w,bi,bl,bo) ⟨rfl,rfl,rfl,trivial⟩ (.pull [3,2,3,0] (aF rfl))
      ·refine ag.mk ⟨by omega,by omega,by omega,by decide⟩ ?_
       intro bo
       refine ag.mk ⟨by omega,by omega,by omega,by decide⟩ ?_
       intro bi
       refine ai 2 ?_
       exact ca.mk (w,bi,bl,bo) ⟨rfl,rfl,rfl,trivial⟩ (.pull [3,2,3,1] (aF rfl))
   ·refine And.intro ?_ ?_
    ·refine ag.mk ⟨by omega,by omega,by omega,by decide⟩ ?_
     intro bo
     refine And.intro ?_ ?_
     ·refine ag.mk ⟨by omega,by omega,by omega,by decide⟩ ?_
      intro bi
      refine And.intro ?_ ?_
      ·refine ag.mk ⟨by omega,by omega,by omega,by decide⟩ ?_
       intro bl
       intro w
       refine ai 0 ?_
       exact ca.mk (w,bi,bl,bo) ⟨rfl,rfl,rfl,trivial⟩ (.pull [3,3,2,3] (aF rfl))
      ·intro w
       refine ag.mk ⟨by omega,by omega,by omega,by decide⟩ ?_
       intro bl
       refine ai 1 ?_
       exact ca.mk (w,bi,bl,bo) ⟨rfl,rfl,rfl,trivial⟩ (.pull [3,3,1,3] (aF rfl))
     ·refine And.intro ?_ ?_
      ·refine ag.mk ⟨by omega,by omega,by omega,by decide⟩ ?_
       intro bl
       refine And.intro ?_ ?_
       ·refine ag.mk ⟨by omega,by omega,by omega,by decide⟩ ?_
        intro bi
        intro w
        refine ai 0 ?_
        exact ca.mk (w,bi,bl,bo) ⟨rfl,rfl,rfl,trivial⟩ (.pull [3,3,3,3] (aF rfl))
       ·intro w
        refine ag.mk ⟨by omega,by omega,by omega,by decide⟩ ?_
        intro bi
        refine ai 1 ?_
        exact ca.mk (w,bi,bl,bo) ⟨rfl,rfl,rfl,trivial⟩ (.pull [3,2,3,3] (aF rfl))
      ·intro w
       refine And.intro ?_ ?_
       ·refine ag.mk ⟨by omega,by omega,by omega,by decide⟩ ?_
        intro bi
        refine ag.mk ⟨by omega,by omega,by omega,by decide⟩ ?_
        intro bl
        refine ai 2 ?_
        exact ca.mk (w,bi,bl,bo) ⟨rfl,rfl,rfl,trivial⟩ (.pull [3,2,1,3] (aF rfl))
       ·refine ag.mk ⟨by omega,by omega,by omega,by decide⟩ ?_
        intro bl
        refine ag.mk ⟨by omega,by omega,by omega,by decide⟩ ?_
        intro bi
        refine ai 2 ?_
        exact ca.mk (w,bi,bl,bo) ⟨rfl,rfl,rfl,trivial⟩ (.pull [3,2,2,3] (aF rfl))
    ·intro w
     refine And.intro ?_ ?_
     ·refine ag.mk ⟨by omega,by omega,by omega,by decide⟩ ?_
      intro bi
      refine And.intro ?_ ?_
      ·refine ag.mk ⟨by omega,by omega,by omega,by decide⟩ ?_
       intro bl
       refine ag.mk ⟨by omega,by omega,by omega,by decide⟩ ?_
       intro bo
       refine ai 3 ?_
       exact ca.mk (w,bi,bl,bo) ⟨rfl,rfl,rfl,trivial⟩ (.pull [3,2,1,0] (aF rfl))
      ·refine ag.mk ⟨by omega,by omega,by omega,by decide⟩ ?_
       intro bo
       refine ag.mk ⟨by omega,by omega,by omega,by decide⟩ ?_
       intro bl
       refine ai 3 ?_
       exact ca.mk (w,bi,bl,bo) ⟨rfl,rfl,rfl,trivial⟩ (.pull [3,2,1,1] (aF rfl))
     ·refine And.intro ?_ ?_
      ·refine ag.mk ⟨by omega,by omega,by omega,by decide⟩ ?_
       intro bl
       refine And.intro ?_ ?_
       ·refine ag.mk ⟨by omega,by omega,by omega,by decide⟩ ?_
        intro bi
        refine ag.mk ⟨by omega,by omega,by omega,by decide⟩ ?_
        intro bo
        refine ai 3 ?_
        exact ca.mk (w,bi,bl,bo) ⟨rfl,rfl,rfl,trivial⟩ (.pull [3,2,2,0] (aF rfl))
       ·refine ag.mk ⟨by omega,by omega,by omega,by decide⟩ ?_
        intro bo
        refine ag.mk ⟨by omega,by omega,by omega,by decide⟩ ?_
        intro bi
        refine ai 3 ?_
        exact ca.mk (w,bi,bl,bo) ⟨rfl,rfl,rfl,trivial⟩ (.pull [3,2,2,1] (aF rfl))
      ·refine ag.mk ⟨by omega,by omega,by omega,by decide⟩ ?_
       intro bo
       refine And.intro ?_ ?_
       ·refine ag.mk ⟨by omega,by omega,by omega,by decide⟩ ?_
        intro bi
        refine ag.mk ⟨by omega,by omega,by omega,by decide⟩ ?_
        intro bl
        refine ai 3 ?_
        exact ca.mk (w,bi,bl,bo) ⟨rfl,rfl,rfl,trivial⟩ (.pull [3,2,1,2] (aF rfl))
       ·refine ag.mk ⟨by omega,by omega,by omega,by decide⟩ ?_
        intro bl
        refine ag.mk ⟨by omega,by omega,by omega,by decide⟩ ?_
        intro bi
        refine ai 3 ?_
        exact ca.mk (w,bi,bl,bo) ⟨rfl,rfl,rfl,trivial⟩ (.pull [3,2,2,2] (aF rfl))
 rintro⟨w,bi,bl,bo⟩ g
 have bY:∀(a:Nat) (σ:Hp),ACalls Tryz.prog 204 [.int .i64 n,.ah cI l,.int .i64 a] σ (az (.ah (.int .i64) (an n l a)) σ):=fun a σ=>x8 n l a σ hl
 have kj:∀k,bK ((List.range (k+1)).map fun a:Nat=>an n l a)=bK ((List.range k).map fun a:Nat=>an n l a)++[.ah (.int .i64) (an n l k)]:=fun k=>by rw[List.range_succ,List.map_append];exact List.map_append
 have eK:∀k,(bK ((List.range k).map fun a:Nat=>an n l a)).length=k:=fun k=>by rw[rQ,List.length_map,List.length_range]
 refine bO (S:=Nat×AV×Hp) (fun x=>[(0,.int .i64 n),(1,.ah cI l),(6,.ptr w 0),(20,.int .i64 n),(21,.int .i64 x.1)]) (fun x=>(w,[x.2.1,.ae bi 0 n 1,.ae bl 0 n 1,.ae bo 0 n 1,.af,.int .i64 0,.af])::(bi,bU [.int .i64 0] n)::(bl,bU [.int .i64 0] n)::(bo,bU [.bool false] n)::(x.2.2++σ)) (fun x=>x.1≤n∧(x.1<n→Acc 1 x.1 x.2.1 x.2.2 (bK ((List.range x.1).map fun a:Nat=>an n l a)))∧(x.1=n→x.2.1=.ah (.slice (.int .i64)) (bA n l)∧x.2.2=[])) (fun x=>n-x.1) (0,.af,[]) ⟨⟨Nat.zero_le _,fun _=>.nil,fun h=>by have h:0=n:=h;omega⟩,⟨rfl,rfl,rfl,rfl,rfl,trivial⟩,rfl⟩ ?_
 rintro⟨k,v,acc⟩ g ⟨aZ,kB,AB⟩
 have hk:k≤n:=aZ
 have bP:k<n→Acc 1 k v acc (bK ((List.range k).map fun a:Nat=>an n l a)):=kB
 have jB:k=n→v=.ah (.slice (.int .i64)) (bA n l)∧acc=[]:=AB
 clear aZ kB AB
 refine ao (p:=(k:Int)<n) (fun ab =>?_) (fun au =>?_)
 ·have ab:k<n:=by omega
  have bP:=bP ab
  clear jB
  have kl:(bA n l).length=n:=by unfold bA;rw[List.length_map,List.length_range]
  have yL:∀k,k+1=n→((bK ((List.range k).map fun a:Nat=>an n l a)++[AV.ah (.int .i64) (an n l k)]).drop 0).take ((k+1)*1)=(bA n l).flatMap (Sh.cells (.slice (.int .i64))):=fun k hk=>by
   rw[← kj,List.drop_zero,List.take_of_length_le (by rw[eK,Nat.mul_one];exact Nat.le_refl _),hk]
   exact tz _
  refine .sched [5] (.one 0 false (.one 2 false (.one 3 false (.one 4 false (.one 5 true (.alt 1 (.one 6 false (.one 7 false (.one 8 false (.one 9 false .stop)))) (.one 6 false (.one 1 false (.one 7 false (.one 8 false (.one 9 false .stop))))))))))) (by kernel_rfl) ?_
  refine aD [] (x8 n l _ _ hl) ?_
  refine And.intro ?_ ?_
  ·refine aa 0 ?_
   intro aC
   refine w8 [_,_,_,_,_] bP.uw (.ae 0 aC 0 1 _ rfl (Nat.le_of_ble_eq_true rfl)) rfl (by omega) (by decide) (by decide) (fun v' bh h' =>?_)
   obtain⟨b5,rfl,rfl⟩:=qF (by omega) h'
   refine ai 1 ?_
   by_cases jd:k+1=n
   ·refine .iU 5 b5 0 (k+1) 1 _ (.slice (.int .i64)) (bA n l) rfl (yL k jd) ⟨(kl.trans jd.symm),rfl,by decide⟩ 1 0 w _ rfl rfl ?_
    exact bg (k+1,.ah (.slice (.int .i64)) (bA n l),[]) (by show n-(k+1)<n-k;omega) ⟨ab,fun h=>absurd jd (by have h:k+1<n:=h;omega),fun _=>⟨rfl,rfl⟩⟩ ⟨rfl,rfl,rfl,rfl,a8 (by omega),trivial⟩ (.drop 0 1 (aF rfl))
   ·exact bg (k+1,.ae b5 0 (k+1) 1,[(b5,bK ((List.range k).map fun a:Nat=>an n l a)++[.ah (.int .i64) (an n l k)])]) (by show n-(k+1)<n-k;omega) ⟨ab,fun _=>by show Acc 1 (k+1) _ _ (bK ((List.range (k+1)).map fun a:Nat=>an n l a));rw[kj];exact h',fun h=>absurd h jd⟩ ⟨rfl,rfl,rfl,rfl,a8 (by omega),trivial⟩ (.drop 0 1 (aF rfl))
  ·intro dI
   refine aa 1 ?_
   refine w8 [_,_,_,_,_] bP.uw (.ae 0 dI 0 1 _ rfl (Nat.le_of_ble_eq_true rfl)) rfl (by omega) (by decide) (by decide) (fun v' bh h' =>?_)
   obtain⟨b5,rfl,rfl⟩:=qF (by omega) h'
   refine ai 1 ?_
   by_cases jd:k+1=n
   ·refine .iU 5 b5 0 (k+1) 1 _ (.slice (.int .i64)) (bA n l) rfl (yL k jd) ⟨(kl.trans jd.symm),rfl,by decide⟩ 1 0 w _ rfl rfl ?_
    exact bg (k+1,.ah (.slice (.int .i64)) (bA n l),[]) (by show n-(k+1)<n-k;omega) ⟨ab,fun h=>absurd jd (by have h:k+1<n:=h;omega),fun _=>⟨rfl,rfl⟩⟩ ⟨rfl,rfl,rfl,rfl,a8 (by omega),trivial⟩ (.drop 0 1 (aF rfl))
   ·exact bg (k+1,.ae b5 0 (k+1) 1,[(b5,bK ((List.range k).map fun a:Nat=>an n l a)++[.ah (.int .i64) (an n l k)])]) (by show n-(k+1)<n-k;omega) ⟨ab,fun _=>by show Acc 1 (k+1) _ _ (bK ((List.range (k+1)).map fun a:Nat=>an n l a));rw[kj];exact h',fun h=>absurd h jd⟩ ⟨rfl,rfl,rfl,rfl,a8 (by omega),trivial⟩ (.drop 0 1 (aF rfl))
 ·have au:k=n:=by omega
  obtain⟨rfl,rfl⟩:=jB au
  clear bP jB
  refine bO (S:=Nat×(List Int×List Int×List Bool×Nat×List (List Int))×(AV×Hp×AV×Hp)) (fun x=>[(0,.int .i64 n),(1,.ah cI l),(6,.ptr w 0),(34,.int .i64 n),(35,.int .i64 x.1)]) (fun x=>(w,cc (bA n l) bi bl bo n x.2.2.1 x.2.1.2.2.2.1 x.2.2.2.2.1)::(bi,aj x.2.1.1)::(bl,aj x.2.1.2.1)::(bo,aY x.2.1.2.2.1)::(x.2.2.2.1++(x.2.2.2.2.2++σ))) (fun x=>x.1≤n∧FI n (an n l) x.2.1.1 x.2.1.2.1 x.2.1.2.2.1 [] x.2.1.2.2.2.1 x.2.1.2.2.2.2 []∧fZ 1 0 x.2.2.1 x.2.2.2.1 []∧Acc 1 x.2.1.2.2.2.2.length x.2.2.2.2.1 x.2.2.2.2.2 (bK x.2.1.2.2.2.2)∧∀b:Nat,b<x.1→x.2.1.1.getD b 0≠0) (fun x=>n-x.1) (0,(List.replicate n 0,List.replicate n 0,List.replicate n false,0,[]),(.af,[],.af,[])) ⟨⟨Nat.zero_le _,.start n (an n l),.nil,.nil,fun _ h=>absurd h (Nat.not_lt_zero _)⟩,⟨rfl,rfl,rfl,rfl,rfl,trivial⟩,by rw[vm,zT];rfl⟩ ?_
  clear au
  rintro⟨k,⟨ix,lo,on,aB,P⟩,⟨vs,jS,vp,dE⟩⟩ g2 ⟨aZ,nA,rz,rC,pr⟩
  have hk:k≤n:=aZ
  have hF:FI n (an n l) ix lo on [] aB P []:=nA
  have hs:fZ 1 0 vs jS []:=rz
  have hp:Acc 1 P.length vp dE (bK P):=rC
  have hv:∀b:Nat,b<k→ix.getD b 0≠0:=pr
  clear aZ nA rz rC pr
  have BN:((k:Nat):Int).toNat=k:=Int.toNat_natCast k
  refine ao (p:=(k:Int)<n) (fun ab =>?_) (fun au =>?_)
  ·have ab:k<n:=by omega
   refine aa 0 ?_
   refine ag.mk ⟨rfl,by omega,by omega⟩ ?_
   refine aL 1 rfl (dT rfl (by omega) (by rw[hF.li];omega)) ?_
   refine ao (p:=ix.getD ((k:Nat):Int).toNat 0=0) (fun c1 =>?_) (fun c1 =>?_)
   ·refine .mk [] _ (abx n w bi bl bo l ix lo on aB P vs vp jS dE k σ (by omega) hF (by omega) c1 hs hp) ?_
    rintro _ _ ⟨rfl,Jt,Jr,Jo,Jd,P2,E2,IF,Jj,IG,Kg,fq,cx,qv,rD,rfl⟩
    rw[BN]at qv
    refine bg (k+1,(Jt,Jr,Jo,Jd,P2),(E2,IF,Jj,IG)) (by show n-(k+1)<n-k;omega) ⟨ab,Kg,fq,cx,fun b hb =>?_⟩ ⟨rfl,rfl,rfl,rfl,a8 (by omega),trivial⟩ (.refl _)
    have hb:b<k+1:=hb
    by_cases e:b=k
    ·subst e;exact qv
    ·exact rD b (hv b (by omega))
   ·rw[BN]at c1
    refine bg (k+1,(ix,lo,on,aB,P),(vs,jS,vp,dE)) (by show n-(k+1)<n-k;omega) ⟨ab,hF,hs,hp,fun b hb =>?_⟩ ⟨rfl,rfl,rfl,rfl,a8 (by omega),trivial⟩ (.refl _)
    have hb:b<k+1:=hb
    by_cases e:b=k
    ·subst e;exact c1
    ·exact hv b (by omega)
  ·have au:k=n:=by omega
   subst au
   have bM:mi k l P:=⟨hF.tj.prt,fun x h0 h1=>by
    have h2:=hv x.toNat (by omega)
    have h3:=(hF.tj.uv x h0 h1).1 (by rw[kb h0];exact h2)
    exact h3.resolve_left (by simp)⟩
   have B0:=zk hF.tj.prt
   refine aa 0 ?_
   obtain⟨x,hx,_⟩:=bM.all 0 (by omega) (by omega)
   have rJ:=List.length_pos_of_mem hx
   obtain⟨b5,rfl,rfl⟩:=qF rJ hp
   rcases hs.zero with ⟨rfl,rfl⟩ | ⟨bs,J,rfl,rfl⟩
   ·skip
    refine .cb (args':=[.int .i64 k,.ah cI l,.ah (.slice (.int .i64)) P]) 4 b5 0 P.length 1 _ (.slice (.int .i64)) P rfl (by rw[List.drop_zero,List.take_of_length_le (by rw[rQ,Nat.mul_one];exact Nat.le_refl _)];exact tz _) ⟨rfl,rfl,by decide⟩ (dK (.refl _) (dK (.refl _) (dK .here (.refl _)))) ?_
    refine ax [] (NY k l P _ bM hl (by omega) yO) ?_
    exact .drop 0 4 (.done ⟨rfl,rfl,P,bM⟩)
   ·skip
    refine .cb (args':=[.int .i64 k,.ah cI l,.ah (.slice (.int .i64)) P]) 5 b5 0 P.length 1 _ (.slice (.int .i64)) P rfl (by rw[List.drop_zero,List.take_of_length_le (by rw[rQ,Nat.mul_one];exact Nat.le_refl _)];exact tz _) ⟨rfl,rfl,by decide⟩ (dK (.refl _) (dK (.refl _) (dK .here (.refl _)))) ?_
    refine ax [] (NY k l P _ bM hl (by omega) yO) ?_
    exact .drop 0 5 (.done ⟨rfl,rfl,P,bM⟩)
end Go.Proofs.YtnpidbjdilnhlaaGreat
