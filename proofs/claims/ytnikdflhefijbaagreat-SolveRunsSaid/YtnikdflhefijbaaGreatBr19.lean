import Derived.Test.YtnikdflhefijbaaGreatBr18
import Derived.Test.YtnikdflhefijbaaGreatBr16
import Derived.Test.YtnikdflhefijbaaGreatBr10
import Derived.Test.YtnikdflhefijbaaGreatBr14
namespace Go.Proofs.YtnikdflhefijbaaGreat
open Go.RowKit
set_option maxRecDepth 100000
set_option maxHeartbeats 4000000
theorem iz.rk{n:Nat}{p:List Int}(h:iz n p)(hn:n≤1000):rI n (lz n p):=by
 have hl:=h.len
 have key:∀i:Nat,i<n→∃j:Nat,p[j]?=some (i:Int)∧j<n∧(lz n p).getD i 0=(n:Int)-1-(j:Int):=fun i hi=>by
  obtain⟨j,hj⟩:=yn (h.all i ⟨by omega,by omega⟩)
  have uD:=(cR.1 hj).1
  have:=Q5 h hj
  rw[bR]at this
  exact⟨j,hj,by omega,this⟩
 refine⟨sg n p n,fun i hi=>?_,fun i j hi hj e=>?_⟩
 ·obtain⟨k,_,hk,e⟩:=key i hi
  omega
 ·obtain⟨k,h1,_,e1⟩:=key i hi
  obtain⟨m,h2,_,e2⟩:=key j hj
  have:k=m:=by omega
  subst this
  rw[h1]at h2
  have:=Option.some.inj h2
  omega
def vK(n:Nat)(p:List Int):List (mP n):=p.filterMap fun x=>if h:0≤x∧x<(n:Int) then some ⟨x,h⟩ else none
theorem D4{n:Nat}:∀{p:List Int},(∀x∈p,0≤x∧x<(n:Int))→jc (vK n p)=p
 | [],_=>rfl
 |x::p,h=>by
  have hx:=h x (cF ..)
  have ih:=D4 (p:=p) fun y hy=>h y (dy _ hy)
  unfold vK at ih ⊢
  rw[List.filterMap_cons,dif_pos hx]
  show x::jc _=_
  rw[ih]
def eB(n:Nat)(rk:List Int)(p:List Int):List Int:=jc (sw rk (vK n p))
theorem AW{n:Nat}{rk p:List Int}(h:∀x∈p,0≤x∧x<(n:Int)):(eB n rk p).Perm p:=by
 have h1:(jc (sw rk (vK n p))).Perm (jc (vK n p)):=List.Perm.map _ (List.mergeSort_perm _ _)
 rw[D4 h]at h1
 exact h1
theorem Ua{n:Nat}{rk p:List Int}(h:∀x∈p,0≤x∧x<(n:Int)):(eB n rk p).length=p.length:=(AW h).length_eq
def qI(n:Nat)(l:List aT)(fr:List Int):List Int:=(gC n l).flatMap (eB n (lz n (j4 n l fr)))
def pQ(n:Nat)(rk:List Int)(rw:List (Nat×List Int))(k:Nat):List (Nat×List Int):=(rw.take k).map (fun r=>(r.1,eB n rk r.2))++rw.drop k
theorem YO(n:Nat)(rk:List Int)(b bk:Nat)(p:List Int)(σ:Hp)(hr:rI n rk)(hp:∀x∈p,0≤x∧x<(n:Int))(h0:0<p.length)(hl:p.length≤1000000):ACalls Tryz.prog 259 [.ah b 0 p.length 1,.fn (.func 260) [] [.ptr bk 0]] ((b,an p)::(bk,[.af (.int .i64) rk])::σ) (aD (.tup []) ((b,an (eB n rk p))::(bk,[.af (.int .i64) rk])::σ)):=by
 obtain⟨x,hx⟩:∃x,x∈p:=by
  match p,h0 with
  |x::_,_=>exact⟨x,cF ..⟩
 haveI:Inhabited (mP n):=⟨⟨x,hp x hx⟩⟩
 have e:(vK n p).length=p.length:=by
  have:=congrArg List.length (D4 hp)
  rw[AI]at this
  exact this
 have h:=Xd n rk b bk (vK n p) p.length σ hr e h0 hl
 rw[D4 hp]at h
 exact h
theorem abc{n:Nat}{rk:List Int}{rw:List (Nat×List Int)}{k b:Nat}{p:List Int}(h:rw[k]?=some (b,p)):(pQ n rk rw k)[k]?=some (b,p)∧(pQ n rk rw (k+1))[k]?=some (b,eB n rk p):=by
 have hk:=(cR.1 h).1
 have hg:rw[k]=(b,p):=(cR.1 h).2
 have hl:((rw.take k).map (fun r=>(r.1,eB n rk r.2))).length=k:=by rw[cm,uT];omega
 refine⟨?_,?_⟩
 ·unfold pQ
  rw[iP (by omega),hl,nt,yo,uN]
  exact h
 ·unfold pQ
  rw[eT hk,cC,hg,dh,iP (by omega),hl,nt]
  rfl
theorem V1{n:Nat}{rk:List Int}{rw:List (Nat×List Int)}{k b:Nat}{p:List Int}(h:rw[k]?=some (b,p)):pQ n rk rw k=(rw.take k).map (fun r=>(r.1,eB n rk r.2))++(b,p)::rw.drop (k+1)∧pQ n rk rw (k+1)=(rw.take k).map (fun r=>(r.1,eB n rk r.2))++(b,eB n rk p)::rw.drop (k+1):=by
 have hk:=(cR.1 h).1
 have hg:rw[k]=(b,p):=(cR.1 h).2
 refine⟨?_,?_⟩
 ·unfold pQ
  rw[yu hk,hg]
 ·unfold pQ
  rw[eT hk,cC,hg,dh]
  rfl
theorem OZ(A B:List (Nat×List Int))(b:Nat)(p:List Int)(x:Nat×List AV)(X σ:Hp):((b,an p)::x::(X++(eM A++(eM B++σ)))).Perm (x::(X++(eM (A++(b,p)::B)++σ))):=by
 have e:eM (A++(b,p)::B)++σ=eM A++((b,an p)::(eM B++σ)):=by
  unfold eM
  rw[cC,dh];rfl
 rw[e]
 refine (List.Perm.swap _ _ _).trans (List.Perm.cons _ ?_)
 exact (nw.symm).trans (List.Perm.append_left X nw.symm)
theorem iz.perm{n:Nat}{p q:List Int}(h:iz n p)(hp:q.Perm p):iz n q:=⟨hp.nodup_iff.2 h.nd,fun x hx=>h.rg x (hp.mem_iff.1 hx),fun x hx=>hp.mem_iff.2 (h.all x hx)⟩
theorem Ox{n:Nat}{rk:List Int}:∀{Q:List (List Int)},(∀p∈Q,∀x∈p,0≤x∧x<(n:Int))→(Q.flatMap (eB n rk)).Perm Q.flatten
 | [],_=>List.Perm.nil
 |p::Q,h=>by
  rw[uS,wP]
  exact (AW (h p (cF ..))).append (Ox fun q hq=>h q (dy _ hq))
theorem n9.flat{n:Nat}{l:List aT}{P Q:List (List Int)}(h:n9 n l P)(hp:Q.Perm P):(∀p∈Q,p≠[])∧(∀p∈Q,∀x∈p,0≤x∧x<(n:Int))∧iz n Q.flatten:=by
 have hn:∀p∈Q,∀x∈p,0≤x∧x<(n:Int):=fun p hq=>h.ok.node p (hp.mem_iff.1 hq)
 refine⟨fun p hq=>h.ok.ne p (hp.mem_iff.1 hq),hn,(hp.flatten).nodup_iff.2 h.ok.nd,fun x hx=>?_,fun x hx=>?_⟩
 ·obtain⟨p,hq,qK⟩:=nu.1 hx
  exact hn p hq x qK
 ·obtain⟨p,hq,qK⟩:=h.all x hx.1 hx.2
  exact nu.2 ⟨p,hp.mem_iff.2 hq,qK⟩
theorem Np:∀{Q:List (List Int)},(∀p∈Q,p≠[])→Q.length≤Q.flatten.length
 | [],_=>bJ _
 |p::Q,h=>by
  have ih:=Np (Q:=Q) fun q hq=>h q (dy _ hq)
  have:=mK.2 (h p (cF ..))
  rw[wP,bG,iE]
  omega
theorem aaQ(n:Nat)(l:List aT)(fr:List Int)(σ:Hp)(hl:l.length≤100000)(hf:fr.length≤100000)(dT:ek n l=true)(mg:∀x∈fr,0≤x∧x<(n:Int)):ACalls Tryz.prog 215 [.int .i64 n,.af cb l,.af (.int .i64) fr] σ (fun r σ'=>∃bo,r=.tup [.ah bo 0 (qI n l fr).length 1,.int .i64 0]∧σ'=(bo,an (qI n l fr))::σ∧iz n (qI n l fr)∧(∀p∈gC n l,p≠[])∧iz n (gC n l).flatten∧iz n (j4 n l fr)):=by
 have hn:1≤n∧n≤256:=by
  unfold ek at dT
  simp only[b9,decide_eq_true_eq]at dT
  omega
 refine au Tryz.func215 ?_
 refine .mk [] _ (abX n l fr _ hl hf dT mg) ?_
 rintro _ τ ⟨rfl,wi,hA⟩
 subst τ
 have hR:=hA.rk (by omega)
 intro b8
 refine ag 0 ?_
 refine .mk [] _ (aaq n l _ hl dT) ?_
 rintro _ _ ⟨bo,eL,rfl,mD,rfl,P,bQ,wz⟩
 obtain⟨bc,tO,ik⟩:=bQ.flat wz
 have Dj:iz n (qI n l fr):=ik.perm (Ox tO)
 unfold qI at Dj ⊢
 generalize lz n (j4 n l fr)=rk at hR Dj
 generalize gC n l=Q at mD bc tO Dj ik
 have hQl:eL.length=Q.length:=by rw[← mD,cm]
 have hlen:=Dj.len
 have adT:∀p∈Q,p.length≤n:=fun p hp=>by
  have h1:p.Sublist Q.flatten:=LZ hp
  have:=h1.length_le
  have:=ik.len
  omega
 have Sb:eL.length≤n:=by
  have:=Np bc
  have:=ik.len
  omega
 have h0:pQ n rk eL 0=eL:=by simp[pQ]
 have hH:((b8,[AV.af (.int .i64) rk])::(bo,ff eL)::(eM eL++([]++σ))).Perm ((bo,ff eL)::(eM eL++((b8,[AV.af (.int .i64) rk])::σ))):=
  (List.Perm.swap _ _ _).trans (List.Perm.cons _ nw.symm)
 refine .wrap 11 .ak rfl rfl ?_
 refine .dL (.perm hH (.refl _)) ?_
 refine bh (S:=Nat×AV×Hp) (fun x=>[(8,.ptr b8 0),(9,.int .i64 0),(11,.via x.2.1),(30,.ah bo 0 eL.length 1),(31,.int .i64 eL.length),(32,.int .i64 x.1)]) (fun x=>(b8,[.af (.int .i64) rk])::(bo,ff eL)::(eM (pQ n rk eL x.1)++(x.2.2++σ))) (fun x=>x.1≤eL.length∧Acc 1 ((Q.take x.1).flatMap (eB n rk)).length x.2.1 x.2.2 (an ((Q.take x.1).flatMap (eB n rk)))) (fun x=>eL.length-x.1) (0,.ak,[]) ⟨⟨aY _,.nil⟩,⟨rfl,rfl,rfl,rfl,rfl,rfl,trivial⟩,by rw[h0]⟩ ?_
 rintro⟨k,v,acc⟩ g ⟨hk,bS⟩
 have hk:k≤eL.length:=hk
 have bS:Acc 1 ((Q.take k).flatMap (eB n rk)).length v acc (an ((Q.take k).flatMap (eB n rk))):=bS
 refine aj (p:=(k:Int)<eL.length) (fun ab=>?_) (fun aq=>?_)
 ·have ab:k<eL.length:=by omega
  obtain⟨p,hp⟩:∃p,Q[k]?=some p:=⟨Q[k]'(by omega),bN (by omega)⟩
  obtain⟨bk,mI⟩:=BH mD hp
  have gm:=dm hp
  have zW:=tO p gm
  have qO:=mK.2 (bc p gm)
  have lG:=adT p gm
  have dx:=Ua (rk:=rk) zW
  obtain⟨s1,s2⟩:=V1 (n:=n) (rk:=rk) mI
  have dR:Q.take (k+1)=Q.take k++[p]:=by
   rw[eT (by omega)]
   rw[bN (by omega)]at hp
   rw[Option.some.inj hp]
  have jC:((Q.take k).flatMap (eB n rk)).length+p.length≤n:=by
   have e:Q.flatMap (eB n rk)=(Q.take (k+1)).flatMap (eB n rk)++(Q.drop (k+1)).flatMap (eB n rk):=by rw[← wV,Ax]
   have:=congrArg List.length e
   rw[dR,List.flatMap_append,List.length_append,List.length_append,show [p].flatMap (eB n rk)=eB n rk p by simp]at this
   omega
  refine aQ ?_
  refine aW 1 rfl (By rfl (by omega) (by rw[bR];exact mI)) ?_
  rw[s1]
  refine .perm _ (OZ _ _ bk p (b8,[.af (.int .i64) rk]) [(bo,ff eL)] (acc++σ)) (YO n rk bk b8 p _ hR zW qO (by omega)) ?_
  rintro _ _ ⟨rfl,rfl⟩
  refine⟨_,(OZ _ _ bk (eB n rk p) (b8,[.af (.int .i64) rk]) [(bo,ff eL)] (acc++σ)).symm,?_⟩
  rw[← s2]
  have eP:=(abc (n:=n) (rk:=rk) mI).2
  refine eU (_::_::eM (pQ n rk eL (k+1))) bS (.ah (k+2) bk 0 p.length (an (eB n rk p)) (EX eP) (by rw[lO,dx];show 0+p.length*1≤_;omega)) ?_ (by omega) (by decide) (by decide) (fun v' aU h'=>?_)
  ·show (List.take (p.length*1) (List.drop 0 (an (eB n rk p)))).length=p.length*1
   rw[uT,List.length_drop,lO,dx];omega
  ·refine aM (k+1,v',aU) (by show eL.length-(k+1)<eL.length-k;omega) ⟨ab,?_⟩ ⟨rfl,rfl,rfl,rfl,rfl,aL (by omega),trivial⟩ (.refl _)
   have e:List.take (p.length*1) (List.drop 0 (an (eB n rk p)))=an (eB n rk p):=by rw[fG,dN (by rw[lO,dx];omega)]
   have h2:Acc 1 (((Q.take k).flatMap (eB n rk)).length+p.length) v' aU (an ((Q.take k).flatMap (eB n rk))++List.take (p.length*1) (List.drop 0 (an (eB n rk p)))):=h'
   rw[e,← dx,← bG,show an ((Q.take k).flatMap (eB n rk))++an (eB n rk p)=an ((Q.take k).flatMap (eB n rk)++eB n rk p) by unfold an;rw[cC]]at h2
   show Acc 1 ((Q.take (k+1)).flatMap (eB n rk)).length v' aU (an ((Q.take (k+1)).flatMap (eB n rk)))
   rw[dR,List.flatMap_append,show [p].flatMap (eB n rk)=eB n rk p by simp]
   exact h2
 ·have aq:¬(k:Int)<eL.length:=aq
  rw[dN (by omega)]at bS
  obtain⟨b,rfl,rfl⟩:=sl (by omega) bS
  exact .drop 0 2 (Vr (eM (pQ n rk eL k)) (.done ⟨b,rfl,rfl,Dj,bc,ik,hA⟩))
theorem iz.rkn{n:Nat}{p:List Int}(h:iz n p){x:Int}(hx:0≤x∧x<(n:Int)):0≤(lz n p).getD x.toNat 0∧(lz n p).getD x.toNat 0<(n:Int):=by
 obtain⟨j,hj⟩:=yn (h.all x hx)
 have uD:=(cR.1 hj).1
 have:=Q5 h hj
 have:=h.len
 omega
theorem abk{n:Nat}{rk p:List Int}(hr:∀x∈p,0≤rk.getD x.toNat 0∧rk.getD x.toNat 0<(n:Int)){x:Int}:x∈oY n rk p↔x∈p:=by
 unfold oY
 rw[List.mem_flatMap]
 constructor
 ·rintro⟨k,_,hx⟩
  exact (jW.1 hx).1
 ·intro hx
  have:=hr x hx
  exact⟨(rk.getD x.toNat 0).toNat,gq.2 (by omega),jW.2 ⟨hx,bj (by omega)⟩⟩
theorem Wd{n:Nat}{rk p:List Int}(hn:p.Nodup)(ae4:∀x∈p,∀y∈p,rk.getD x.toNat 0=rk.getD y.toNat 0→x=y):(oY n rk p).Pairwise fun x y=>rk.getD x.toNat 0<rk.getD y.toNat 0:=by
 unfold oY
 rw[List.pairwise_flatMap]
 refine⟨fun k _=>?_,?_⟩
 ·refine List.Pairwise.imp_of_mem (fun {x y} hx hy bc=>?_) (List.Pairwise.filter _ hn)
  have h1:=jW.1 hx
  have h2:=jW.1 hy
  exact absurd (ae4 x h1.1 y h2.1 ((fk h1.2).trans (fk h2.2).symm)) bc
 ·refine List.Pairwise.imp (fun {k m} hkm x hx y hy=>?_) LW
  have h1:=fk (jW.1 hx).2
  have h2:=fk (jW.1 hy).2
  omega
theorem UX{n:Nat}{rk p:List Int}(hk:rI n rk)(hp:∀x∈p,0≤x∧x<(n:Int))(hn:p.Nodup):(eB n rk p).Pairwise fun x y=>rk.getD x.toNat 0<rk.getD y.toNat 0:=by
 have hs:(sw rk (vK n p)).Pairwise fun x y=>(!(ltOf (ue rk)) y x)=true:=List.pairwise_mergeSort (fun x y z h1 h2=>by
  rw[hk.lt]at *;simp only[ke,decide_eq_false_iff_not]at *;omega) (fun x y=>by
  rw[hk.lt,hk.lt]
  simp only[o9,ke,decide_eq_false_iff_not];omega) _
 have ck:=(AW (rk:=rk) hp).nodup_iff.2 hn
 have hm:∀x∈eB n rk p,0≤x∧x<(n:Int):=fun x hx=>hp x ((AW hp).mem_iff.1 hx)
 have h1:(eB n rk p).Pairwise fun x y=>¬rk.getD y.toNat 0<rk.getD x.toNat 0:=by
  unfold eB jc
  rw[Aq]
  refine hs.imp fun {x y} h=>?_
  rw[hk.lt]at h
  simpa using h
 refine (h1.and ck).imp_of_mem fun {x y} hx hy h=>?_
 have hx:=hm x hx
 have hy:=hm y hy
 have h1:=h.1
 by_cases h3:rk.getD x.toNat 0<rk.getD y.toNat 0
 ·exact h3
 ·have:=hk.inj x.toNat y.toNat (by omega) (by omega) (by omega)
  exact absurd (by omega) h.2
theorem Qr{f:Int→Int}:∀{A B:List Int},A.Pairwise (fun x y=>f x<f y)→B.Pairwise (fun x y=>f x<f y)→(∀x,x∈A↔x∈B)→A=B
 | [],[],_,_,_=>rfl
 | [],b::B,_,_,h=>by have:=(h b).2 (cF ..);cases this
 |a::A,[],_,_,h=>by have:=(h a).1 (cF ..);cases this
 |a::A,b::B,ha,hb,h=>by
  have GB:=wQ.1 ha
  have nq:=wQ.1 hb
  have e:a=b:=by
   rcases ei.1 ((h a).1 (cF ..)) with h1 | h1
   ·exact h1
   ·rcases ei.1 ((h b).2 (cF ..)) with h2 | h2
    ·exact h2.symm
    ·have:=nq.1 a h1
     have:=GB.1 b h2
     omega
  subst e
  rw[Qr GB.2 nq.2 fun x=>⟨fun hx=>?_,fun hx=>?_⟩]
  ·rcases ei.1 ((h x).1 (dy _ hx)) with h1 | h1
   ·subst h1;have:=GB.1 x hx;omega
   ·exact h1
  ·rcases ei.1 ((h x).2 (dy _ hx)) with h1 | h1
   ·subst h1;have:=nq.1 x hx;omega
   ·exact h1
theorem abj{n:Nat}{q p:List Int}(h:iz n q)(hn:n≤1000)(hp:∀x∈p,0≤x∧x<(n:Int))(ck:p.Nodup):oY n (lz n q) p=eB n (lz n q) p:=by
 have hk:=h.rk hn
 refine Qr (f:=fun x=>(lz n q).getD x.toNat 0) (Wd ck fun x hx y hy e=>?_) (UX hk hp ck) fun x=>?_
 ·have hx:=hp x hx
  have hy:=hp y hy
  have:=hk.inj x.toNat y.toNat (by omega) (by omega) e
  omega
 ·rw[abk fun x hx=>h.rkn (hp x hx)]
  exact (AW hp).mem_iff.symm
theorem Ra{n:Nat}{q:List Int}(h:iz n q)(hn:n≤1000):∀{Q:List (List Int)},(∀p∈Q,∀x∈p,0≤x∧x<(n:Int))→Q.flatten.Nodup→Q.flatMap (oY n (lz n q))=Q.flatMap (eB n (lz n q))
 | [],_,_=>rfl
 |p::Q,hp,hd=>by
  have hd:(p++Q.flatten).Nodup:=hd
  have hd:=ml.1 hd
  rw[uS,uS,abj h hn (hp p (cF ..)) hd.1,Ra h hn (fun q hq=>hp q (dy _ hq)) hd.2.1]
set_option maxHeartbeats 4000000
def oZ(x:Int)(p:List Int)(o:List Int):List Int:=p.foldl (fun o a=>o.set a.toNat x) o
theorem DV(x:Int):∀(p o:List Int),(oZ x p o).length=o.length
 | [],_=>rfl
 |a::p,o=>by
  show (oZ x p (o.set a.toNat x)).length=_
  rw[DV x p,dV]
theorem Pa(x:Int)(p o:List Int)(a:Int):oZ x (p++[a]) o=(oZ x p o).set a.toNat x:=by unfold oZ;rw[uQ];rfl
def l8(n k:Nat)(Q:List (List Int)):Nat→List Int
 | 0=>List.replicate n 0
 |j+1=>oZ (((k*((Q.take j).flatten.length) / n:Nat)):Int) (Q.getD j []) (l8 n k Q j)
theorem sh(n k:Nat)(Q:List (List Int)):∀j,(l8 n k Q j).length=n
 | 0=>gY
 |j+1=>by unfold l8;rw[DV];exact sh n k Q j
def jQ(n k:Nat)(l:List aT):List Int:=l8 n k (gC n l) (gC n l).length
theorem Te(k:Nat)(σ:Hp)(h1:1≤k)(h2:k≤64):ACalls Tryz.prog 214 [.int .i64 k] σ (aD (.bool true) σ):=by
 refine au Tryz.func214 ?_
 refine aj (fun _=>?_) (fun c=>absurd (show (1:Int)≤k by omega) c)
 refine aj (fun _=>?_) (fun c=>absurd (show (k:Int)≤64 by omega) c)
 exact .done ⟨rfl,rfl⟩
theorem Ht(Q:List (List Int))(j:Nat):(Q.take j).flatten.length≤Q.flatten.length:=by
 have e:Q.flatten=(Q.take j).flatten++(Q.drop j).flatten:=by rw[← Mb,Ax]
 rw[e,bG];omega
structure Tj(n:Nat)(Q:List (List Int)):Prop where
 node:∀p∈Q,∀x∈p,0≤x∧x<(n:Int)
 flat:Q.flatten.length≤600
 len:Q.length≤600
theorem Qi{k a n:Nat}(hk:k≤64)(ha:a≤600)(_hn:1≤n):IntKind.i64.wrap ((IntKind.i64.wrap ((k:Int)*(a:Nat))).tdiv (n:Int))=((k*a / n:Nat):Int):=by
 have h1:(k:Int)*(a:Nat)=((k*a:Nat):Int):=by simp
 have h2:k*a≤64*600:=qa hk ha
 have h3:k*a / n≤k*a:=Nat.div_le_self _ _
 have h4:IntKind.i64.wrap ((k*a:Nat):Int)=((k*a:Nat):Int):=by rw[IntKind.wrap_i64];omega
 have h5:(((k*a:Nat):Int)).tdiv (n:Int)=((k*a / n:Nat):Int):=rfl
 rw[h1,h4,h5]
 clear h4 h5
 generalize k*a / n=q at h3
 generalize k*a=m at h2 h3
 rw[IntKind.wrap_i64]
 omega
theorem abg{n:Nat}{l:List aT}{P:List (List Int)}(h:n9 n l P)(hr:∀e∈l,(0≤e.1∧e.1<(n:Int))∧0≤e.2.1∧e.2.1<(n:Int))(hn:n≤256):Tj n (gC n l):=by
 have hO:=(EF h hr P.length (bJ _)).1
 rw[I7 h hr]at hO
 have hm:∀p∈gC n l,p∈P:=fun p hp=>by
  obtain⟨i,_,hi⟩:=(hO.mem p).1 hp
  exact dm hi
 have ik:=D7 n _ hO.nd fun x hx=>by
  obtain⟨p,hp,qK⟩:=nu.1 hx
  exact h.ok.node p (hm p hp) x qK
 have hll:=Hz (Q:=gC n l) fun p hp=>mK.2 (h.ok.ne p (hm p hp))
 exact⟨fun p hp=>h.ok.node p (hm p hp),by omega,by omega⟩
theorem lN.qok{n:Nat}{Q:List (List Int)}{told:List Int}(h:lN n Q told)(hn:n≤256):Tj n Q:=by
 have h1:=h.tS
 have h2:=h.J1
 rw[h.told]at h1
 exact⟨h.node,by omega,by omega⟩
theorem aaP(n:Nat)(l:List aT)(k:Nat)(σ:Hp)(hl:l.length≤100000)(dT:ek n l=true)(h1:1≤k)(h2:k≤64):ACalls Tryz.prog 216 [.int .i64 n,.af cb l,.int .i64 k] σ (aD (.tup [.af (.int .i64) (jQ n k l),.int .i64 0]) σ):=by
 have hn:1≤n∧n≤256:=by
  unfold ek at dT
  simp only[b9,decide_eq_true_eq]at dT
  omega
 have Ac:∀e∈l,(0≤e.1∧e.1<(n:Int))∧0≤e.2.1∧e.2.1<(n:Int):=fun e he=>by
  unfold ek at dT
  simp only[b9,fN]at dT
  have:=dT.2 e he
  exact⟨kB.1 this.1,kB.1 this.2⟩
 refine au Tryz.func216 ?_
 refine ar [] (Te k _ h1 h2) ?_
 refine .mk [] _ (aap n l _ hl dT) ?_
 rintro _ τ ⟨rfl,wi,P,hP⟩
 subst τ
 have hQ:=abg hP Ac hn.2
 unfold jQ
 generalize gC n l=Q at hQ
 have hQl:=hQ.len
 have La:((n:Nat):Int).toNat=n:=bR n
 refine bg ?_
 intro bo
 refine bh (S:=Nat) (fun x=>[(0,.int .i64 n),(2,.int .i64 k),(10,.ah bo 0 n 1),(11,.int .i64 ((Q.take x).flatten.length:Nat)),(30,.af (.slice (.int .i64)) Q),(31,.int .i64 Q.length),(32,.int .i64 x)]) (fun x=>(bo,an (l8 n k Q x))::σ) (fun x=>x≤Q.length) (fun x=>Q.length-x) 0 ⟨aY _,⟨rfl,rfl,rfl,rfl,rfl,rfl,rfl,trivial⟩,by rw[show an (l8 n k Q 0)=cN [.int .i64 0] n from (tk n).symm];rfl⟩ ?_
 intro j g hj
 have hj:j≤Q.length:=hj
 have wo:(Q.take j).flatten.length≤600:=ey (Ht Q j) hQ.flat
 refine aj (p:=(j:Int)<Q.length) (fun ab=>?_) (fun aq=>?_)
 ·have ab:j<Q.length:=by omega
  obtain⟨p,hp⟩:∃p,Q[j]?=some p:=⟨Q[j]'ab,bN ab⟩
  have zW:=hQ.node p (dm hp)
  have lG:p.length≤600:=ey (List.Sublist.length_le (LZ (dm hp))) hQ.flat
  have hx:IntKind.i64.wrap ((IntKind.i64.wrap ((k:Int)*((Q.take j).flatten.length:Nat))).tdiv (n:Int))=((k*(Q.take j).flatten.length / n:Nat):Int):=Qi (by omega) (by omega) (by omega)
  have hu:l8 n k Q (j+1)=oZ ((k*(Q.take j).flatten.length / n:Nat):Int) p (l8 n k Q j):=by
   show oZ _ (Q.getD j []) _=_
   rw[bO,hp];rfl
  have jC:=sh n k Q j
  have dR:(Q.take (j+1)).flatten.length=(Q.take j).flatten.length+p.length:=by
   rw[List.take_succ_eq_append_getElem ab,List.flatten_append,List.length_append,show Q[j]=p from Option.some.inj ((List.getElem?_eq_getElem ab).symm.trans hp)];simp
  generalize l8 n k Q j=o at hu jC
  generalize hX:((k*(Q.take j).flatten.length / n:Nat):Int)=X at hx hu
  refine aw.mk rfl (aX.mk p (by omega) (by rw[bR];exact hp) ?_)
  refine bh (S:=Nat) (fun y=>[(0,.int .i64 n),(2,.int .i64 k),(10,.ah bo 0 n 1),(11,.int .i64 ((Q.take j).flatten.length:Nat)),(13,.af (.int .i64) p),(30,.af (.slice (.int .i64)) Q),(31,.int .i64 Q.length),(32,.int .i64 j),(36,.af (.int .i64) p),(37,.int .i64 p.length),(38,.int .i64 y)]) (fun y=>(bo,an (oZ X (p.take y) o))::σ) (fun y=>y≤p.length) (fun y=>p.length-y) 0 ⟨aY _,⟨rfl,rfl,rfl,rfl,rfl,rfl,rfl,rfl,rfl,rfl,rfl,trivial⟩,rfl⟩ ?_
  intro y g2 hy
  have hy:y≤p.length:=hy
  refine aj (p:=(y:Int)<p.length) (fun mc=>?_) (fun CY=>?_)
  ·have mc:y<p.length:=by omega
   have hz:=zW _ (cq mc)
   have zX:=DV X (p.take y) o
   refine aw.mk rfl (aX.mk p[y] (by omega) (get_some mc) ?_)
   refine dX ?_
   refine aQ ?_
   refine cu 0 rfl (lS rfl _ hz.1 (by omega)) ?_
   exact aM (y+1) (by show p.length-(y+1)<p.length-y;omega) mc ⟨rfl,rfl,rfl,rfl,rfl,rfl,rfl,rfl,rfl,rfl,aL (by omega),trivial⟩ (aN (by rw[hx,eT mc,Pa];rfl))
  ·have CY:p.length=y:=by omega
   subst CY
   rw[dW]
   exact aM (j+1) (by show Q.length-(j+1)<Q.length-j;omega) ab ⟨rfl,rfl,rfl,(by show AV.int .i64 (IntKind.i64.wrap ((((Q.take j).flatten.length:Nat):Int)+((p.length:Nat):Int)))=.int .i64 (((Q.take (j+1)).flatten.length:Nat):Int);rw[dR,IntKind.wrap_i64];exact aR (by omega)),rfl,rfl,aL (by omega),trivial⟩ (aN (by rw[hu]))
 ·have aq:Q.length=j:=by omega
  subst aq
  refine .cH 0 bo 0 n 1 _ (.int .i64) (l8 n k Q Q.length) rfl (by rw[fG,dN (by rw[lO,sh,dB];exact bJ _)];exact ir _) ⟨sh n k Q _,rfl,by decide⟩ (cc .here (.refl _)) (.done ⟨rfl,rfl⟩)
theorem Xh(n:Nat)(l:List aT)(k:Nat)(σ:Hp)(hl:l.length≤100000)(hn:1≤n∧n≤256)(_h1:1≤k)(h2:k≤64):ACalls Tryz.prog 146 [.int .i64 n,.af cb l,.int .i64 k] σ (aD (.af (.int .i64) (jQ n k l)) σ):=by
 refine au Tryz.func146 ?_
 have La:((n:Nat):Int).toNat=n:=bR n
 refine bg ?_
 intro bo
 refine .mk [] _ (Sx n l _ hl hn.2) ?_
 rintro _ τ ⟨rfl,wi,told,hT⟩
 subst τ
 have hQ:=hT.qok hn.2
 unfold jQ
 generalize gC n l=Q at hQ
 have hQl:=hQ.len
 refine bh (S:=Nat) (fun x=>[(0,.int .i64 n),(2,.int .i64 k),(7,.ah bo 0 n 1),(8,.int .i64 ((Q.take x).flatten.length:Nat)),(17,.af (.slice (.int .i64)) Q),(18,.int .i64 Q.length),(19,.int .i64 x)]) (fun x=>(bo,an (l8 n k Q x))::σ) (fun x=>x≤Q.length) (fun x=>Q.length-x) 0 ⟨aY _,⟨rfl,rfl,rfl,rfl,rfl,rfl,rfl,trivial⟩,by rw[show an (l8 n k Q 0)=cN [.int .i64 0] n from (tk n).symm];rfl⟩ ?_
 intro j g hj
 have hj:j≤Q.length:=hj
 have wo:(Q.take j).flatten.length≤600:=ey (Ht Q j) hQ.flat
 refine aj (p:=(j:Int)<Q.length) (fun ab=>?_) (fun aq=>?_)
 ·have ab:j<Q.length:=by omega
  obtain⟨p,hp⟩:∃p,Q[j]?=some p:=⟨Q[j]'ab,bN ab⟩
  have zW:=hQ.node p (dm hp)
  have lG:p.length≤600:=ey (List.Sublist.length_le (LZ (dm hp))) hQ.flat
  have hx:IntKind.i64.wrap ((IntKind.i64.wrap ((k:Int)*((Q.take j).flatten.length:Nat))).tdiv (n:Int))=((k*(Q.take j).flatten.length / n:Nat):Int):=Qi (by omega) (by omega) (by omega)
  have hu:l8 n k Q (j+1)=oZ ((k*(Q.take j).flatten.length / n:Nat):Int) p (l8 n k Q j):=by
   show oZ _ (Q.getD j []) _=_
   rw[bO,hp];rfl
  have jC:=sh n k Q j
  have dR:(Q.take (j+1)).flatten.length=(Q.take j).flatten.length+p.length:=by
   rw[List.take_succ_eq_append_getElem ab,List.flatten_append,List.length_append,show Q[j]=p from Option.some.inj ((List.getElem?_eq_getElem ab).symm.trans hp)];simp
  generalize l8 n k Q j=o at hu jC
  generalize hX:((k*(Q.take j).flatten.length / n:Nat):Int)=X at hx hu
  refine aw.mk rfl (aX.mk p (by omega) (by rw[bR];exact hp) ?_)
  refine bh (S:=Nat) (fun y=>[(0,.int .i64 n),(2,.int .i64 k),(7,.ah bo 0 n 1),(8,.int .i64 ((Q.take j).flatten.length:Nat)),(10,.af (.int .i64) p),(17,.af (.slice (.int .i64)) Q),(18,.int .i64 Q.length),(19,.int .i64 j),(23,.af (.int .i64) p),(24,.int .i64 p.length),(25,.int .i64 y)]) (fun y=>(bo,an (oZ X (p.take y) o))::σ) (fun y=>y≤p.length) (fun y=>p.length-y) 0 ⟨aY _,⟨rfl,rfl,rfl,rfl,rfl,rfl,rfl,rfl,rfl,rfl,rfl,trivial⟩,rfl⟩ ?_
  intro y g2 hy
  have hy:y≤p.length:=hy
  refine aj (p:=(y:Int)<p.length) (fun mc=>?_) (fun CY=>?_)
  ·have mc:y<p.length:=by omega
   have hz:=zW _ (cq mc)
   have zX:=DV X (p.take y) o
   refine aw.mk rfl (aX.mk p[y] (by omega) (get_some mc) ?_)
   refine dX ?_
   refine aQ ?_
   refine cu 0 rfl (lS rfl _ hz.1 (by omega)) ?_
   exact aM (y+1) (by show p.length-(y+1)<p.length-y;omega) mc ⟨rfl,rfl,rfl,rfl,rfl,rfl,rfl,rfl,rfl,rfl,aL (by omega),trivial⟩ (aN (by rw[hx,eT mc,Pa];rfl))
  ·have CY:p.length=y:=by omega
   subst CY
   rw[dW]
   exact aM (j+1) (by show Q.length-(j+1)<Q.length-j;omega) ab ⟨rfl,rfl,rfl,(by show AV.int .i64 (IntKind.i64.wrap ((((Q.take j).flatten.length:Nat):Int)+((p.length:Nat):Int)))=.int .i64 (((Q.take (j+1)).flatten.length:Nat):Int);rw[dR,IntKind.wrap_i64];exact aR (by omega)),rfl,rfl,aL (by omega),trivial⟩ (aN (by rw[hu]))
 ·have aq:Q.length=j:=by omega
  subst aq
  refine .cH 0 bo 0 n 1 _ (.int .i64) (l8 n k Q Q.length) rfl (by rw[fG,dN (by rw[lO,sh,dB];exact bJ _)];exact ir _) ⟨sh n k Q _,rfl,by decide⟩ .here (.done ⟨rfl,rfl⟩)
set_option maxHeartbeats 4000000
def mW(L:List Int):Nat→List Int
 | 0=>L
 |i+1=>((mW L i).set i ((mW L i).getD (L.length-1-i) 0)).set (L.length-1-i) ((mW L i).getD i 0)
theorem DM(L:List Int):∀i,(mW L i).length=L.length
 | 0=>rfl
 |i+1=>by unfold mW;rw[dV,dV];exact DM L i
theorem Oq(l:List Int)(a:Nat)(v:Int)(t:Nat)(ha:a<l.length):(l.set a v).getD t 0=if a=t then v else l.getD t 0:=by
 rw[bO,gX]
 by_cases h:a=t
 ·subst h;rw[az rfl,az ha,az rfl];rfl
 ·rw[aA h,aA h,bO]
theorem Qb(L:List Int):∀i,2*i≤L.length+1→∀t,t<L.length→(mW L i).getD t 0=if t<i∨L.length-i≤t then L.getD (L.length-1-t) 0 else L.getD t 0
 | 0,_,t,ht=>by
  rw[aA (by omega)];rfl
 |i+1,hi,t,ht=>by
  have hl:=DM L i
  have ih:=Qb L i (by omega)
  have h0:0<L.length:=by omega
  have e1:L.length-1-i<((mW L i).set i ((mW L i).getD (L.length-1-i) 0)).length:=by rw[dV,hl];omega
  unfold mW
  rw[Oq _ _ _ _ e1]
  by_cases hm:i<L.length
  ·rw[Oq _ _ _ _ (by rw[hl];exact hm),ih i hm,ih (L.length-1-i) (by omega),ih t ht]
   repeat' split
   all_goals first | rfl | (exfalso;omega) | (congr 1;omega)
  ·omega
theorem XI{L:List Int}{i:Nat}(h1:2*i≤L.length+1)(h2:L.length≤2*i+1):mW L i=L.reverse:=by
 have hl:=DM L i
 refine L7 (by rw[hl,qd]) fun t h3 h4=>?_
 have ht:t<L.length:=by omega
 have:=Qb L i h1 t ht
 rw[bO,bN h3,bO,bN (show L.length-1-t<L.length by omega),bO,bN ht]at this
 rw[List.getElem_reverse]
 have this:(mW L i)[t]=if t<i∨L.length-i≤t then L[L.length-1-t] else L[t]:=this
 rw[this]
 split
 ·rfl
 ·have e:t=L.length-1-t:=by omega
  congr 1
theorem YR(b:Nat)(L:List Int)(q:Nat)(σ:Hp)(hq:L.length=q)(hl:q≤1000000):ACalls Tryz.prog 217 [.ah b 0 q 1] ((b,an L)::σ) (aD (.tup []) ((b,an L.reverse)::σ)):=by
 refine au Tryz.func217 ?_
 refine bh (S:=Nat) (fun i=>[(0,.ah b 0 q 1),(2,.int .i64 i),(3,.int .i64 ((q:Int)-1-i))]) (fun i=>(b,an (mW L i))::σ) (fun i=>2*i≤q+1) (fun i=>q+1-i) 0 ⟨by omega,⟨rfl,rfl,aR (by rw[IntKind.wrap_i64];omega),trivial⟩,rfl⟩ ?_
 intro i g hi
 have hi:2*i≤q+1:=hi
 have eu:=DM L i
 refine aj (p:=(i:Int)<(q:Int)-1-i) (fun ab=>?_) (fun aq=>?_)
 ·have hj:((q:Int)-1-(i:Int)).toNat=L.length-1-i:=by omega
  refine .sched [] (upto [] 16 0) (by kernel_rfl) ?_
  refine aQ ?_
  refine aW 0 rfl (eZ rfl (by omega) (by omega)) ?_
  refine aQ ?_
  refine aW 0 rfl (eZ rfl (by omega) (by omega)) ?_
  refine aQ ?_
  refine cu 0 rfl (lS rfl _ (by omega) (by omega)) ?_
  refine aQ ?_
  refine cu 0 rfl (lS rfl _ (by omega) (by rw[dV];omega)) ?_
  refine aM (i+1) (by show q+1-(i+1)<q+1-i;omega) (by show 2*(i+1)≤q+1;omega) ⟨rfl,aR (by rw[IntKind.wrap_i64];omega),aR (by rw[IntKind.wrap_i64];omega),trivial⟩ (aN ?_)
  show (b,an (((mW L i).set ((i:Nat):Int).toNat ((mW L i).getD ((q:Int)-1-(i:Int)).toNat 0)).set ((q:Int)-1-(i:Int)).toNat ((mW L i).getD ((i:Nat):Int).toNat 0)))::σ=(b,an (mW L (i+1)))::σ
  rw[hj,bR]
  rfl
 ·rw[XI (by omega) (by omega)]
  exact .done ⟨rfl,rfl⟩
set_option maxHeartbeats 4000000
def j0(k:Nat)(ow al:List Int):List (List Int):=(List.range k).map fun u:Nat=>al.filter fun x=>decide (ow.getD x.toNat 0=(u:Int))
theorem tf(k:Nat)(ow al:List Int):(j0 k ow al).length=k:=by unfold j0;rw[cm,kx]
theorem xh{k:Nat}{ow al:List Int}{u:Nat}(h:u<k):(j0 k ow al)[u]?=some (al.filter fun x=>decide (ow.getD x.toNat 0=(u:Int))):=by
 unfold j0
 rw[fm,wR h];rfl
theorem MM{k:Nat}{ow al:List Int}{z:Int}{w:Nat}{rl:List Int}(hz:ow.getD z.toNat 0=(w:Int))(hr:(j0 k ow al)[w]?=some rl):j0 k ow (al++[z])=(j0 k ow al).set w (rl++[z]):=by
 have hw:w<k:=by
  have:=(cR.1 hr).1
  rw[tf]at this
  exact this
 refine wO fun i=>?_
 rw[gX,tf]
 rcases s6 i k with hi | hi
 ·rw[xh hi,xh hi,uU]
  by_cases e:w=i
  ·subst e
   rw[az rfl,az hw]
   rw[xh hw]at hr
   rw[← Option.some.inj hr,List.filter_cons,if_pos (by rw[hz];simp),List.filter_nil]
  ·rw[if_neg e,List.filter_cons,if_neg (by rw[hz];simp;omega),List.filter_nil,List.append_nil]
 ·rw[r9 (by rw[tf];exact hi),aA (by omega),r9 (by rw[tf];exact hi)]
theorem NT(A:List jh)(r r2:jh)(B:List jh):iV (A++r2::B)=(iV (A++r::B)).set A.length r2.2.2:=by
 unfold iV
 rw[cC,cC,G7 _ _ (by rw[cm];exact bJ _),cm,nt]
 rfl
theorem OX(A:List jh)(r:jh)(B:List jh):(iV (A++r::B))[A.length]?=some r.2.2:=by
 unfold iV
 rw[cC,iP (by rw[cm];exact bJ _),cm,nt]
 rfl
theorem RC(bx:Nat)(ow:List Int)(x w:Int)(σ:Hp)(hx:0≤x)(hw:ow[x.toNat]?=some w):ACalls Tryz.prog 219 [.int .i64 x,.ptr bx 0] ((bx,[.af (.int .i64) ow])::σ) (aD (.int .i64 w) ((bx,[.af (.int .i64) ow])::σ)):=by
 refine au Tryz.func219 ?_
 refine aa 0 ?_
 refine aw.mk rfl (aX.mk w hx hw ?_)
 exact .done ⟨rfl,rfl⟩
theorem acd(n k bx:Nat)(ow al:List Int)(σ:Hp)(jE:1≤k)(cY:k≤64)(Lr:al.length≤100000)(hr:∀x∈al,0≤x∧x<(n:Int))(jC:ow.length=n)(jT:∀i:Nat,i<n→0≤ow.getD i 0∧ow.getD i 0<(k:Int)):ACalls Tryz.prog 218 [.af (.int .i64) al,.int .i64 k,.fn (.func 219) [] [.ptr bx 0]] ((bx,[.af (.int .i64) ow])::σ) (fun r σ'=>∃ls:List (List Int),r=.af (.slice (.int .i64)) ls∧σ'=(bx,[.af (.int .i64) ow])::σ∧ls=j0 k ow al):=by
 refine M1 ?_
 refine au Tryz.func218 ?_
 refine bg ?_
 intro bo
 refine .dL (.pull [1] (.refl _)) ?_
 refine bh (S:=Nat×List jh) (fun s=>[(2,.fn (.func 219) [] [.ptr bx 0]),(7,.ah bo 0 k 1),(12,.af (.int .i64) al),(13,.int .i64 al.length),(14,.int .i64 s.1)]) (fun s=>(bx,[.af (.int .i64) ow])::(bo,iX s.2)::(iY s.2++σ)) (fun s=>s.1≤al.length∧(∀r∈s.2,ri r)∧iV s.2=j0 k ow (al.take s.1)) (fun s=>al.length-s.1) (0,List.replicate k (.ak,[],[])) ⟨⟨aY _,fun r hr=>.inl (by rw[G6 hr];exact⟨rfl,rfl,rfl⟩),?_⟩,⟨rfl,rfl,rfl,rfl,rfl,trivial⟩,?_⟩ ?_
 ·refine wO fun i=>?_
  show (iV (List.replicate k (.ak,[],[])))[i]?=_
  unfold iV
  rw[fm,wW]
  rcases s6 i k with hi | hi
  ·rw[az hi,xh hi];rfl
  ·rw[aA (by omega),r9 (by rw[tf];exact hi)];rfl
 ·show _=(bx,[AV.af (.int .i64) ow])::(bo,iX (List.replicate k (.ak,[],[])))::(iY (List.replicate k (.ak,[],[]))++σ)
  rw[← O3,NX];rfl
 rintro⟨j,rs⟩ g ⟨jk,CP,De⟩
 have hj:j≤al.length:=jk
 have ho:∀r∈rs,ri r:=CP
 have hL:iV rs=j0 k ow (al.take j):=De
 clear jk CP De
 have qM:rs.length=k:=by
  have:=congrArg List.length hL
  rw[tf]at this
  exact (cm _).symm.trans this
 refine aj (p:=(j:Int)<al.length) (fun ab=>?_) (fun aq=>?_)
 rotate_left
 ·have aq:¬(j:Int)<al.length:=aq
  rw[dN (by omega)]at hL
  subst qM
  exact .perm ((List.Perm.cons _ nw).trans (List.Perm.swap _ _ _)) (.done ⟨bo,rs,rfl,rfl,ho,hL⟩)
 have ab:j<al.length:=by omega
 obtain⟨z,hz⟩:∃z,al[j]=z:=⟨_,rfl⟩
 have fg:=hr z (hz▸cq ab)
 have CJ:al[((j:Nat):Int).toNat]?=some z:=by rw[bR,bN ab,hz]
 have dR:al.take (j+1)=al.take j++[z]:=by rw[eT ab,hz]
 obtain⟨w,hw⟩:∃w:Nat,ow.getD z.toNat 0=(w:Int):=⟨(ow.getD z.toNat 0).toNat,by have:=jT z.toNat (by omega);omega⟩
 have sS:w<k:=by have:=jT z.toNat (by omega);omega
 have zQ:ow[z.toNat]?=some (w:Int):=by rw[← hw,bO,bN (by omega)];rfl
 obtain⟨A,r,B,rfl,hA⟩:∃A r B,rs=A++r::B∧w=A.length:=⟨rs.take w,rs[w]'(by omega),rs.drop (w+1),by simp,by rw[List.length_take];omega⟩
 obtain⟨c,acc,rl⟩:=r
 have hAw:((w:Nat):Int)=A.length:=by rw[hA]
 rw[vf]
 have uH:=OY A (c,acc,rl) B hAw
 have fw:=fun r2=>NU A (c,acc,rl) r2 B hAw
 have xI:(j0 k ow (al.take j))[w]?=some rl:=by rw[← hL,hA];exact OX A (c,acc,rl) B
 have gd:=MM hw xI
 rw[← dR]at gd
 generalize hC:iX (A++(c,acc,rl)::B)=C at uH fw
 have mD:ri (c,acc,rl):=ho _ (iO _ (cF ..))
 have hCl:C.length=k:=by rw[← hC,NV];exact qM
 have hrb:rl.length≤100000:=by
  rw[xh sS]at xI
  rw[← Option.some.inj xI]
  exact ey (Dy _ _) (by rw[uT];omega)
 have fK:∀v' aU,Acc 1 (rl.length+1) v' aU (an rl++[.int .i64 z])→j+1≤al.length∧(∀r∈A++(.via v',aU,rl++[z])::B,ri r)∧iV (A++(.via v',aU,rl++[z])::B)=j0 k ow (al.take (j+1)):=fun v' aU h'=>by
  have mc:(rl++[z]:List Int).length=rl.length+1:=bG
  refine⟨ab,fun r hr=>?_,?_⟩
  ·rcases bU.1 hr with hr | hr
   ·exact ho r (gF _ hr)
   ·rcases ei.1 hr with rfl | hr
    ·refine .inr ⟨v',rfl,?_⟩
     show Acc 1 (rl++[z]:List Int).length v' aU (an (rl++[z]))
     rw[mc,show an (rl++[z])=an rl++[.int .i64 z] from cC]
     exact h'
    ·exact ho r (iO _ (dy _ hr))
  ·rw[gd,← hL,hA];exact NT A (c,acc,rl) (.via v',aU,rl++[z]) B
 refine aw.mk rfl (aX.mk z (by omega) CJ ?_)
 refine ar [] (RC bx ow z w _ fg.1 zQ) ?_
 refine ar [] (RC bx ow z w _ fg.1 zQ) ?_
 refine aQ ?_
 rcases mD with ⟨q1,q2,q3⟩ | ⟨v,q1,q2⟩
 ·have q1:c=.ak:=q1
  have q2:acc=[]:=q2
  have q3:rl=[]:=q3
  subst q1
  subst q2
  subst q3
  refine aW 1 rfl (gy rfl uH) ?_
  intro aB
  refine eU ((aB,[.int .i64 z])::(bx,[.af (.int .i64) ow])::(bo,C)::iY A) (Acc.nil (e:=1)) (.ah 0 aB 0 1 _ rfl (cp rfl)) rfl (by omega) (by decide) (by decide) (fun v' aU h'=>?_)
  refine aQ ?_
  refine cu 2 rfl ((pz rfl rfl (by omega)).trans (congrArg some (fw (.via v',aU,[]++[z])))) ?_
  exact aM (j+1,A++(.via v',aU,[]++[z])::B) (by show al.length-(j+1)<al.length-j;omega) (fK v' aU h') ⟨rfl,rfl,rfl,rfl,aL (by omega),trivial⟩ (.drop 0 1 (aN (by rw[vf];rfl)))
 ·have q1:c=.via v:=q1
  have q2:Acc 1 rl.length v acc (an rl):=q2
  subst q1
  refine aW 1 rfl (gy rfl uH) ?_
  intro aB
  refine eU (k:=rl.length) (n:=1) ((aB,[.int .i64 z])::(bx,[.af (.int .i64) ow])::(bo,C)::iY A) q2 (.ah 0 aB 0 1 _ rfl (cp rfl)) rfl (by omega) (by decide) (by decide) (fun v' aU h'=>?_)
  refine aQ ?_
  refine cu 2 rfl ((pz rfl rfl (by omega)).trans (congrArg some (fw (.via v',aU,rl++[z])))) ?_
  exact aM (j+1,A++(.via v',aU,rl++[z])::B) (by show al.length-(j+1)<al.length-j;omega) (fK v' aU h') ⟨rfl,rfl,rfl,rfl,aL (by omega),trivial⟩ (.drop 0 1 (aN (by rw[vf];rfl)))
theorem N8{k:Nat}{x:Int}(hx:0≤x∧x<(k:Int)):∀(p o:List Int),(∀i:Nat,i<o.length→0≤o.getD i 0∧o.getD i 0<(k:Int))→∀i:Nat,i<o.length→0≤(oZ x p o).getD i 0∧(oZ x p o).getD i 0<(k:Int)
 | [],_,h=>h
 |a::p,o,h=>by
  have ih:=N8 hx p (o.set a.toNat x) fun i hi=>by
   rw[dV]at hi
   rw[bO,gX]
   by_cases e:a.toNat=i
   ·subst e;rw[az rfl,az hi];exact hx
   ·rw[aA e,← bO];exact h i hi
  rw[dV]at ih
  exact ih
theorem N7{n k:Nat}{Q:List (List Int)}(hk:1≤k)(bc:∀p∈Q,p≠[])(ik:Q.flatten.length≤n):∀j,j≤Q.length→∀i:Nat,i<n→0≤(l8 n k Q j).getD i 0∧(l8 n k Q j).getD i 0<(k:Int)
 | 0,_,i,hi=>by
  show 0≤(List.replicate n (0:Int)).getD i 0∧(List.replicate n (0:Int)).getD i 0<(k:Int)
  rw[bO,wW,az hi]
  show (0:Int)≤0∧(0:Int)<k
  omega
 |j+1,hj,i,hi=>by
  have ih:=N7 hk bc ik j (by omega)
  have ab:j<Q.length:=hj
  have qO:=mK.2 (bc _ (cq ab))
  have h1:=Ht Q (j+1)
  rw[List.take_succ_eq_append_getElem ab,List.flatten_append,List.length_append,show [Q[j]].flatten=Q[j] by simp]at h1
  have ha:(Q.take j).flatten.length<n:=by omega
  have hx:k*(Q.take j).flatten.length / n<k:=by
   refine Nat.div_lt_of_lt_mul ?_
   rw[Ak n k]
   exact Nat.mul_lt_mul_of_pos_left ha (by omega)
  have hl:=sh n k Q j
  refine N8 (k:=k) ⟨GR _,Int.ofNat_lt.2 hx⟩ _ _ (fun i hi=>ih i (by omega)) i (by omega)
theorem Va{n k:Nat}{l:List aT}(hk:1≤k)(bc:∀p∈gC n l,p≠[])(ik:(gC n l).flatten.length≤n):∀i:Nat,i<n→0≤(jQ n k l).getD i 0∧(jQ n k l).getD i 0<(k:Int):=N7 hk bc ik _ (bJ _)
def B3(n k:Nat)(l:List aT)(fr:List Int):List (List Int):=j0 k (jQ n k l) (qI n l fr).reverse
theorem abS(n:Nat)(l:List aT)(fr:List Int)(k:Nat)(σ:Hp)(hl:l.length≤100000)(hf:fr.length≤100000)(dT:ek n l=true)(mg:∀x∈fr,0≤x∧x<(n:Int))(h1:1≤k)(h2:k≤64):ACalls Tryz.prog 160 [.int .i64 n,.af cb l,.af (.int .i64) fr,.int .i64 k] σ (fun r σ'=>r=.tup [.af (.slice (.int .i64)) (B3 n k l fr),.int .i64 0]∧σ'=σ∧iz n (qI n l fr)∧(∀i:Nat,i<n→0≤(jQ n k l).getD i 0∧(jQ n k l).getD i 0<(k:Int))∧iz n (gC n l).flatten∧iz n (j4 n l fr)):=by
 have hn:1≤n∧n≤256:=by
  unfold ek at dT
  simp only[b9,decide_eq_true_eq]at dT
  omega
 refine au Tryz.func160 ?_
 refine ar [] (Te k _ h1 h2) ?_
 refine .mk [] _ (aaQ n l fr _ hl hf dT mg) ?_
 rintro _ _ ⟨ba,rfl,rfl,hA,bc,ik,zX⟩
 have jT:=Va (k:=k) h1 bc (Aj ik.len)
 refine ar [] (aaP n l k _ hl dT h1 h2) ?_
 intro bx
 refine ag 0 ?_
 have hlen:=hA.len
 unfold B3
 have jC:(jQ n k l).length=n:=sh n k _ _
 generalize jQ n k l=ow at jT jC
 generalize qI n l fr=L at hA hlen
 refine ar [1] (YR ba L _ _ rfl (by omega)) ?_
 refine .cH (args':=[.af (.int .i64) L.reverse,.int .i64 k,.fn (.func 219) [] [.ptr bx 0]]) 0 ba 0 L.length 1 _ (.int .i64) L.reverse rfl (by rw[fG,dN (by rw[lO,qd,dB];exact bJ _)];exact ir _) ⟨qd,rfl,by decide⟩ (cc .here (.refl _)) ?_
 refine .mk [] _ (acd n k bx ow L.reverse _ h1 h2 (by rw[qd];omega) (fun x hx=>hA.rg x (List.mem_reverse.1 hx)) jC jT) ?_
 rintro _ _ ⟨ls,rfl,rfl,rfl⟩
 exact .drop 0 1 (.done ⟨rfl,rfl,hA,jT,ik,zX⟩)
set_option maxHeartbeats 4000000
theorem V2(k:Nat)(ow al:List Int):iV (List.replicate k ((.ak,[],[]):jh))=j0 k ow (al.drop al.length).reverse:=by
 rw[GL,List.reverse_nil]
 refine wO fun i=>?_
 unfold iV
 rw[fm,wW]
 rcases s6 i k with hi | hi
 ·rw[az hi,xh hi];rfl
 ·rw[aA (by omega),r9 (by rw[tf];exact hi)];rfl
theorem YV(n:Nat)(l:List aT)(fr:List Int)(k:Nat)(σ:Hp)(hl:l.length≤100000)(h1:1≤n)(hn:n≤256)(jE:1≤k)(cY:k≤64)(hf:fr.length≤100000)(mg:∀z∈fr,0≤z∧z<n)(jT:∀i:Nat,i<n→0≤(jQ n k l).getD i 0∧(jQ n k l).getD i 0<(k:Int)):ACalls Tryz.prog 83 [.int .i64 n,.af cb l,.af (.int .i64) fr,.int .i64 k] σ (fun r σ'=>∃ls:List (List Int),r=.af (.slice (.int .i64)) ls∧σ'=σ∧ls=j0 k (jQ n k l) (vI n l fr).reverse):=by
 refine M1 ?_
 refine au Tryz.func83 ?_
 have jC:(jQ n k l).length=n:=sh n k _ _
 have hOw:=fun τ=>Xh n l k τ hl ⟨h1,hn⟩ jE cY
 generalize jQ n k l=ow at jT jC hOw
 refine ar [] (hOw _) ?_
 refine .mk [] _ (Y4 n l fr _ hl hn hf mg) ?_
 rintro r τ ⟨hr0,wi,bQ,haz⟩
 subst τ
 generalize vI n l fr=al at bQ haz hr0
 subst hr0
 refine bg ?_
 intro bo
 refine bh (S:=Nat×List jh) (fun s=>[(9,.af (.int .i64) ow),(10,.af (.int .i64) al),(11,.ah bo 0 k 1),(12,.int .i64 ((s.1:Int)-1))]) (fun s=>(bo,iX s.2)::(iY s.2++σ)) (fun s=>s.1≤al.length∧(∀r∈s.2,ri r)∧iV s.2=j0 k ow (al.drop s.1).reverse) (fun s=>s.1) (al.length,List.replicate k (.ak,[],[])) ⟨⟨bJ _,fun r hr=>.inl (by rw[G6 hr];exact⟨rfl,rfl,rfl⟩),V2 k ow al⟩,⟨rfl,rfl,rfl,?_,trivial⟩,?_⟩ ?_
 ·show AV.int .i64 (IntKind.i64.wrap ((al.length:Int)-1))=.int .i64 ((al.length:Int)-1)
  rw[IntKind.wrap_i64,show ((al.length:Int)-1+9223372036854775808) % 18446744073709551616-9223372036854775808=(al.length:Int)-1 by omega]
 ·show _=(bo,iX (List.replicate k (.ak,[],[])))::(iY (List.replicate k (.ak,[],[]))++σ)
  rw[← O3,NX];rfl
 rintro⟨j,rs⟩ g ⟨jk,CP,De⟩
 have hj:j≤al.length:=jk
 have ho:∀r∈rs,ri r:=CP
 have hL:iV rs=j0 k ow (al.drop j).reverse:=De
 have qM:rs.length=k:=by
  have:=congrArg List.length hL
  rw[tf]at this
  exact (cm _).symm.trans this
 clear jk CP De
 refine aj (p:=0≤(j:Int)-1) (fun ab=>?_) (fun aq=>?_)
 rotate_left
 ·have jk:j=0:=by omega
  subst jk
  rw[fG]at hL
  subst qM
  exact .done ⟨bo,rs,rfl,rfl,ho,hL⟩
 obtain⟨i,rfl⟩:∃i,j=i+1:=⟨j-1,by omega⟩
 have Li:i<al.length:=by omega
 have qR:(((i+1:Nat):Int)-1).toNat=i:=by omega
 obtain⟨z,hz⟩:∃z,al[i]=z:=⟨_,rfl⟩
 have fg:=haz z (hz▸cq Li)
 have CJ:al[(((i+1:Nat):Int)-1).toNat]?=some z:=by rw[qR,bN Li,hz]
 refine aw.mk rfl (aX.mk z (by omega) CJ ?_)
 obtain⟨w,hw⟩:∃w,ow.getD z.toNat 0=w:=⟨_,rfl⟩
 have zQ:ow[z.toNat]?=some w:=by rw[← hw];exact Rn (by omega)
 have sS:0≤w∧w<(k:Int):=by rw[← hw];exact jT z.toNat (by omega)
 refine aw.mk rfl (aX.mk w (by omega) zQ ?_)
 obtain⟨A,r,B,rfl,hA⟩:∃A r B,rs=A++r::B∧(w:Int)=A.length:=⟨rs.take w.toNat,rs[w.toNat]'(by omega),rs.drop (w.toNat+1),by simp,by rw[List.length_take];omega⟩
 obtain⟨c,acc,rl⟩:=r
 rw[vf]
 have uH:=OY A (c,acc,rl) B hA
 have fw:=fun r2=>NU A (c,acc,rl) r2 B hA
 generalize hC:iX (A++(c,acc,rl)::B)=C at uH fw
 have hr:ri (c,acc,rl):=ho _ (iO _ (cF ..))
 have hCl:C.length=k:=by rw[← hC,NV];exact qM
 have hdr:(al.drop i).reverse=(al.drop (i+1)).reverse++[z]:=by rw[yu Li,List.reverse_cons,hz]
 have xI:(j0 k ow (al.drop (i+1)).reverse)[A.length]?=some rl:=by rw[← hL];exact OX A (c,acc,rl) B
 have gd:=MM (w:=A.length) (hw.trans hA) xI
 rw[← hdr]at gd
 have hrb:rl.length≤al.length:=by
  rw[xh (by omega)]at xI
  rw[← Option.some.inj xI]
  exact ey (Dy _ _) (by rw[qd,List.length_drop];omega)
 have fK:∀v' aU,Acc 1 (rl.length+1) v' aU (an rl++[.int .i64 z])→i≤al.length∧(∀r∈A++(.via v',aU,rl++[z])::B,ri r)∧iV (A++(.via v',aU,rl++[z])::B)=j0 k ow (al.drop i).reverse:=fun v' aU h'=>by
  have mc:(rl++[z]:List Int).length=rl.length+1:=bG
  refine⟨by omega,fun r hr=>?_,?_⟩
  ·rcases bU.1 hr with hr | hr
   ·exact ho r (gF _ hr)
   ·rcases ei.1 hr with rfl | hr
    ·refine .inr ⟨v',rfl,?_⟩
     show Acc 1 (rl++[z]:List Int).length v' aU (an (rl++[z]))
     rw[mc,show an (rl++[z])=an rl++[.int .i64 z] from cC]
     exact h'
    ·exact ho r (iO _ (dy _ hr))
  ·rw[gd,← hL];exact NT A (c,acc,rl) (.via v',aU,rl++[z]) B
 have FU:AV.int .i64 (IntKind.i64.wrap (((i+1:Nat):Int)-1-1))=.int .i64 ((i:Int)-1):=by
  rw[IntKind.wrap_i64,show (((i+1:Nat):Int)-1-1+9223372036854775808) % 18446744073709551616-9223372036854775808=(i:Int)-1 by omega]
 rcases hr with ⟨q1,q2,q3⟩ | ⟨v,q1,q2⟩
 ·have q1:c=.ak:=q1
  have q2:acc=[]:=q2
  have q3:rl=[]:=q3
  subst q1
  subst q2
  subst q3
  refine .sched [] (.one 0 false (.one 1 false (.one 2 false (.one 3 false (.one 4 false (.one 6 false (.one 7 false (.one 8 false (.one 9 false (.alt 5 (.one 10 false (.one 11 false (.one 12 false (.one 13 false .stop)))) (.one 10 false (.one 5 false (.one 11 false (.one 12 false (.one 13 false .stop))))))))))))))) (by kernel_rfl) ?_
  refine aQ ?_
  refine aw.mk rfl ?_
  refine aX.mk z (by omega) CJ ?_
  refine And.intro ?_ ?_
  ·refine aW 0 rfl (gy rfl uH) ?_
   intro aB
   refine eU ((aB,[.int .i64 z])::(bo,C)::iY A) (Acc.nil (e:=1)) (.ah 0 aB 0 1 _ rfl (cp rfl)) rfl (by omega) (by decide) (by decide) (fun v' aU h'=>?_)
   refine aQ ?_
   refine cu 1 rfl ((pz rfl rfl (by omega)).trans (congrArg some (fw (.via v',aU,[]++[z])))) ?_
   exact aM (i,A++(.via v',aU,[]++[z])::B) (ym i) (fK v' aU h') ⟨rfl,rfl,rfl,FU,trivial⟩ (.drop 0 1 (aN (by rw[vf];rfl)))
  ·intro cE
   refine aW 1 rfl (gy rfl uH) ?_
   refine eU ((cE,[.int .i64 z])::(bo,C)::iY A) (Acc.nil (e:=1)) (.ah 0 cE 0 1 _ rfl (cp rfl)) rfl (by omega) (by decide) (by decide) (fun v' aU h'=>?_)
   refine aQ ?_
   refine cu 1 rfl ((pz rfl rfl (by omega)).trans (congrArg some (fw (.via v',aU,[]++[z])))) ?_
   exact aM (i,A++(.via v',aU,[]++[z])::B) (ym i) (fK v' aU h') ⟨rfl,rfl,rfl,FU,trivial⟩ (.drop 0 1 (aN (by rw[vf];rfl)))
 ·have q1:c=.via v:=q1
  have q2:Acc 1 rl.length v acc (an rl):=q2
  subst q1
  refine .sched [] (.one 0 false (.one 1 false (.one 2 false (.one 3 false (.one 4 false (.one 6 false (.one 7 false (.one 8 false (.one 9 false (.alt 5 (.one 10 false (.one 11 false (.one 12 false (.one 13 false .stop)))) (.one 10 false (.one 5 false (.one 11 false (.one 12 false (.one 13 false .stop))))))))))))))) (by kernel_rfl) ?_
  refine aQ ?_
  refine aw.mk rfl ?_
  refine aX.mk z (by omega) CJ ?_
  refine And.intro ?_ ?_
  ·refine aW 0 rfl (gy rfl uH) ?_
   intro aB
   refine eU ((aB,[.int .i64 z])::(bo,C)::iY A) q2 (.ah 0 aB 0 1 _ rfl (cp rfl)) rfl (show rl.length+1≤1048576 by omega) (by decide) (by decide) (fun v' aU h'=>?_)
   refine aQ ?_
   refine cu 1 rfl ((pz rfl rfl (by omega)).trans (congrArg some (fw (.via v',aU,rl++[z])))) ?_
   exact aM (i,A++(.via v',aU,rl++[z])::B) (ym i) (fK v' aU h') ⟨rfl,rfl,rfl,FU,trivial⟩ (.drop 0 1 (aN (by rw[vf];rfl)))
  ·intro cE
   refine aW 1 rfl (gy rfl uH) ?_
   refine eU ((cE,[.int .i64 z])::(bo,C)::iY A) q2 (.ah 0 cE 0 1 _ rfl (cp rfl)) rfl (show rl.length+1≤1048576 by omega) (by decide) (by decide) (fun v' aU h'=>?_)
   refine aQ ?_
   refine cu 1 rfl ((pz rfl rfl (by omega)).trans (congrArg some (fw (.via v',aU,rl++[z])))) ?_
   exact aM (i,A++(.via v',aU,rl++[z])::B) (ym i) (fK v' aU h') ⟨rfl,rfl,rfl,FU,trivial⟩ (.drop 0 1 (aN (by rw[vf];rfl)))
def qD(b:Nat)(a ws:List Int):Nat→List Int
 | 0=>ws
 |i+1=>(qD b a ws i).set (b+i) (wd a i)
theorem ML(b:Nat)(a ws:List Int)(k:Nat):(qD b a ws k).length=ws.length:=by
 induction k with
 |zero=>rfl
 |succ k ih=>rw[qD,dV,ih]
theorem N4{b:Nat}{a ws:List Int}:∀(k:Nat),b+k≤1000000000→zA (b:Int) a ws k=qD b a ws k
 | 0,_=>rfl
 |k+1,h=>by
  rw[zA,qD,N4 k (by omega),show wr ((b:Int)+(k:Int))=((b+k:Nat):Int) from (iq (by omega) (by omega)).trans (r7 b k).symm]
  exact mn _
def nG(N W:Nat)(st:Nat→List Int)(ws:List Int):Nat→List Int
 | 0=>ws
 |v+1=>(qD (v*W) (st v) (nG N W st ws v) W).set (N*W+v) 1
theorem Hi(N W:Nat)(st:Nat→List Int)(ws:List Int)(k:Nat):(nG N W st ws k).length=ws.length:=by
 induction k with
 |zero=>rfl
 |succ k ih=>rw[nG,dV,ML,ih]
def kW(b r:Nat)(x ws:List Int):Nat→List Int
 | 0=>ws
 |i+1=>(kW b r x ws i).set (b+2+(1+i) % r) (x.getD i 0)
theorem NB(b r:Nat)(x ws:List Int)(k:Nat):(kW b r x ws k).length=ws.length:=by
 induction k with
 |zero=>rfl
 |succ k ih=>rw[kW,dV,ih]
theorem QA(b r:Nat)(x ws:List Int)(y:Int):∀k,kW b r x (ws.set (b+1) y) k=(kW b r x ws k).set (b+1) y
 | 0=>rfl
 |k+1=>by rw[kW,kW,QA b r x ws y k,List.set_comm _ _ (by omega)]
def wY(b r:Nat)(x ws:List Int):List Int:=kW b r x ((ws.set b 1).set (b+1) ((1+x.length:Nat):Int)) x.length
theorem Vv(b r:Nat)(x ws:List Int):(wY b r x ws).length=ws.length:=by rw[wY,NB,dV,dV]
theorem Yv(b r:Nat)(x ws:List Int):(kW b r x ((ws.set b 1).set (b+1) 1) x.length).set (b+1) ((1+x.length:Nat):Int)=wY b r x ws:=by
 rw[← QA,List.set_set];rfl
def l6(b0 d r:Nat)(ls:List (List Int))(ws:List Int):Nat→List Int
 | 0=>ws
 |w+1=>wY (b0+w*d) r (ls.getD w []) (l6 b0 d r ls ws w)
theorem MZ(b0 d r:Nat)(ls:List (List Int))(ws:List Int)(k:Nat):(l6 b0 d r ls ws k).length=ws.length:=by
 induction k with
 |zero=>rfl
 |succ k ih=>rw[l6,Vv,ih]
def Fq(N W:Nat)(st:Nat→List Int)(ls:List (List Int))(ws:List Int):List Int:=
 l6 (N*W+N+1) (N+3) (N+1) ls ((nG N W st ws N).set (N*W+N) (N:Int)) ls.length
theorem TR(N W:Nat)(st:Nat→List Int)(ls:List (List Int))(ws:List Int):(Fq N W st ls ws).length=ws.length:=by rw[Fq,MZ,dV,Hi]
set_option maxHeartbeats 4000000
def mV(s:Sy)(l:Lay):List (List Int):=B3 (nN s) l.k.toNat s.cI s.entry
def zq(s:Sy)(l:Lay)(ws:List Int):List Int:=Fq (nN s) (nW l) (fun v=>gx s v) (mV s l) ws
theorem XH{s:Sy}(hg:Good s):ek s.n s.cI=true:=by
 unfold ek
 have h1:=hg.n1
 have h2:=hg.n2
 have h3:=hg.el
 simp only[b9,decide_eq_true_eq,fN]
 exact⟨⟨⟨h1,h2⟩,h3⟩,fun e he=>⟨kB.2 (hg.Kq e he).1,kB.2 (hg.Kq e he).2⟩⟩
theorem MN(s:Sy)(l:Lay):(mV s l).length=l.k.toNat:=tf _ _ _
theorem UK{f:FuncId}{xs:List AV}{σ ie σ2:Hp}{x:AV}(h:ACalls Tryz.prog f xs σ (aD x ie))(e:ie=σ2):ACalls Tryz.prog f xs σ (aD x σ2):=e▸h
theorem WI{s:Sy}{l:Lay}(hs:LS s l){v:Nat}(hv:v<nN s)(us x:List Int):fy (zA (df l v) x us (cw l.words)) (wr (de l+(v:Nat))) 1=(qD (v*nW l) x us (nW l)).set (nN s*nW l+v) 1:=by
 have h1:=hs.nn
 have h2:=hs.ww
 have h3:=sx h1.2.2 h2.2
 have h4:(v+1)*nW l≤nN s*nW l:=pf _ hv
 rw[uO]at h4
 rw[hs.Sm hv,hs.BU hv,N4 _ (by show _+nW l≤_;omega)]
 exact mn _
theorem Vt{s:Sy}{l:Lay}(hs:LS s l)(us:List Int):fy us (da l) (wu s.n)=us.set (nN s*nW l+nN s) (nN s:Int):=by
 have h1:=hs.nn
 rw[hs.count,mn,show wu s.n=(nN s:Int) by show IntKind.u64.wrap s.n=_;rw[IntKind.wrap_u64];omega]
theorem Vs{a:Nat}(ha:a≤1000000)(us:List Int):fy (fy us (a:Int) 1) (bY (a:Int)) 1=(us.set a 1).set (a+1) 1:=by
 rw[mn,show bY (a:Int)=((a+1:Nat):Int) from (iq (by omega) (by omega)).trans (r7 a 1).symm,mn]
theorem Nz{s:Sy}{l:Lay}(hs:LS s l){a i:Nat}(ha:a≤1000000)(hi:i≤1000000):wr (wr ((a:Int)+2)+(wr (1+(i:Int))).tmod (fB l))=((a+2+(1+i) % (nN s+1):Nat):Int):=by
 have h1:=hs.nn
 have hm:=wL (1+i) (show 0<nN s+1 by omega)
 rw[iq (z:=(a:Int)+2) (by omega) (by omega),iq (z:=1+(i:Int)) (by omega) (by omega),hs.room.1,show (1+(i:Int)).tmod ((nN s+1:Nat):Int)=(((1+i) % (nN s+1):Nat):Int) by rw[show (1+(i:Int))=((1+i:Nat):Int) by omega];rfl]
 rw[iq (by omega) (by omega)]
 omega
theorem WH{a r:Nat}(ha:a≤1000000)(x us:List Int)(hx:x.length≤1000000):fy (kW a r x ((us.set a 1).set (a+1) 1) x.length) (wr ((a:Int)+1)) (wu (wr (1+(x.length:Int))))=wY a r x us:=by
 rw[iq (z:=(a:Int)+1) (by omega) (by omega),iq (z:=1+(x.length:Int)) (by omega) (by omega),show wu (1+(x.length:Int))=((1+x.length:Nat):Int) by show IntKind.u64.wrap _=_;rw[IntKind.wrap_u64];omega,show (a:Int)+1=((a+1:Nat):Int) by omega,mn]
 exact Yv _ _ _ _
theorem WG{us:List Int}{b:Nat}{z:Int}(hz:0≤z)(x5:z≤1000000):fy us (b:Int) (wu z)=us.set b z:=by
 rw[mn,show wu z=z by show IntKind.u64.wrap _=_;rw[IntKind.wrap_u64];omega]
structure jP(s:Sy)(l:Lay):Prop where
 all:iz (nN s) (qI (nN s) s.cI s.entry)
 own:∀i:Nat,i<nN s→0≤(jQ (nN s) l.k.toNat s.cI).getD i 0∧(jQ (nN s) l.k.toNat s.cI).getD i 0<(l.k.toNat:Int)
 flat:iz (nN s) (gC (nN s) s.cI).flatten
 post:iz (nN s) (j4 (nN s) s.cI s.entry)
theorem jP.rows{s:Sy}{l:Lay}(h:jP s l)(hn:nN s≤256):∀x∈mV s l,x.length≤256∧∀z∈x,0≤z∧z<(nN s:Int):=by
 intro x hx
 unfold mV B3 j0 at hx
 obtain⟨u,_,rfl⟩:=fi.1 hx
 have hlen:=Dy (fun y=>decide ((jQ (nN s) l.k.toNat s.cI).getD y.toNat 0=(u:Int))) (qI (nN s) s.cI s.entry).reverse
 rw[qd]at hlen
 have:=h.all.len
 exact⟨by omega,fun z hz=>h.all.rg z (List.mem_reverse.1 (jW.1 hz).1)⟩
theorem aao(s:Sy)(l:Lay)(k:Nat)(σ:Hp)(hf:Fit s)(hg:Good s)(hk:l.k=k)(h1:1≤k)(h2:k≤64):ACalls Tryz.prog 160 [.int .i64 s.n,.af cb s.cI,.af (.int .i64) s.entry,.int .i64 k] σ (fun r σ'=>r=.tup [.af (.slice (.int .i64)) (mV s l),.int .i64 0]∧σ'=σ∧jP s l):=by
 have hn:s.n=(nN s:Int):=by have:=hg.n1;unfold nN;omega
 have hr:=XH hg
 have he:=hg.Mc
 have cY:k=l.k.toNat:=by omega
 subst cY
 unfold mV
 rw[hn]at hr he ⊢
 refine (abS (nN s) s.cI s.entry l.k.toNat σ hf.ub hf.vQ hr he h1 h2).mono ?_
 rintro _ _ ⟨rfl,rfl,hA,jT,ik,zX⟩
 exact⟨rfl,rfl,hA,jT,ik,zX⟩
theorem aaX(s:Sy)(k:Nat)(p q:Nat)(ws:List Int)(σ:Hp)(hf:Fit s)(he:cO s k=0)(eE:fL (gH s k)≤ws.length):ACalls Tryz.prog 97 [kp p,.agg (a7 s),.int .i64 k] (bD p q ws σ) (fun r σ'=>r=.int .i64 0∧σ'=bD p q (zq s (gH s k) ws) σ∧jP s (gH s k)):=by
 obtain⟨hs,Dd⟩:=BL hf he
 obtain⟨CK,x5,x4⟩:=hs.size
 obtain⟨hc,jE,cY⟩:=Il he
 have hg:=IQ hc
 have hn:=hs.nn
 have hw:=hs.ww
 have sK:=hs.low
 have hN:=hs.n
 refine au Tryz.func97 ?_
 obtain⟨l,hl⟩:∃l,gH s k=l:=⟨_,rfl⟩
 have e1:AV.tup [.agg (cU (gH s k)),.int .i64 (cO s k)]=.tup [.agg (cU l),.int .i64 (cO s k)]:=by rw[hl]
 rw[hl]at hs Dd CK x5 x4 hw sK hN eE ⊢
 generalize hE:cO s k=E at e1 he
 intro b4
 refine aa 0 ?_
 refine ar [] (qj (Fb s k _ hf) (hE▸e1)) ?_
 intro b7
 refine ag 0 ?_
 refine cQ (fun c3=>?_) (fun c3=>?_)
 ·have c3:¬(cO s (↑k:Int)=0):=by simpa using c3
  exact absurd (hE.trans he) c3
 refine ar [] (dF _ _ _) ?_
 refine .sched [1,3] (upto [1,3] 5 0) (by kernel_rfl) ?_
 refine InvAt.mk _ mLen_ ?_
 refine aK [3,3] (Tf p q ws _) ?_
 refine aa 0 ?_
 refine aK [] (RI _ _) ?_
 refine aj (p:=(ws.length:Int)<dY l l.k) (fun c4=>?_) (fun c4=>?_)
 ·omega
 refine aa 1 ?_
 refine bh (S:=Nat) (fun v=>[(0,kp p),(2,.int .i64 k),(4,.ptr b4 0),(7,.ptr b7 0),(36,.int .i64 s.n),(37,.int .i64 v)]) (fun v=>(b7,cU l)::(b4,a7 s)::bD p q (nG (nN s) (nW l) (fun v=>gx s v) ws v) σ) (fun v=>v≤nN s) (fun v=>nN s-v) 0 ⟨aY _,⟨rfl,rfl,rfl,rfl,rfl,rfl,trivial⟩,rfl⟩ ?_
 intro v g ma
 have hv:v≤nN s:=ma
 clear ma
 have qL:=Hi (nN s) (nW l) (fun v=>gx s v) ws v
 refine aj (p:=(v:Int)<s.n) (fun ab=>?_) (fun aq=>?_)
 ·have ab:v<nN s:=by omega
  have tO:jv s v=0:=(D8 hc ⟨by omega,by omega⟩).symm
  refine aa 1 ?_
  refine ar [] (Xb s v _ hf) ?_
  rw[Bl tO]
  refine aa 0 ?_
  refine ar [] (Fc l v _) ?_
  refine ar [3,3] (aev p q _ _ _ _ _ _) ?_
  refine .sched [2] (upto [2] 10 0) (by kernel_rfl) ?_
  refine aa 2 ?_
  refine aK [] (yZ l _) ?_
  refine eY.mk hStore_ ?_
  refine InvAt.mk _ mStore_ ?_
  refine ar [] (aStore p q _ _ _ _) ?_
  exact aM (v+1) (by show nN s-(v+1)<nN s-v;omega) ab ⟨rfl,rfl,rfl,rfl,rfl,aL (by omega),trivial⟩ (.pull [3,3] (aN (congrArg (fun z=>_::_::bD p q z σ) (WI hs ab _ _))))
 have aq:v=nN s:=by omega
 subst aq
 obtain⟨us,gb⟩:∃us,nG (nN s) (nW l) (fun v=>gx s v) ws (nN s)=us:=⟨_,rfl⟩
 rw[gb]at qL ⊢
 refine .sched [2] (upto [2] 11 0) (by kernel_rfl) ?_
 refine aa 0 ?_
 refine aK [] (yZ l _) ?_
 refine aa 1 ?_
 refine eY.mk hStore_ ?_
 refine InvAt.mk _ mStore_ ?_
 refine ar [3,3] (aStore p q _ _ _ _) ?_
 refine aa 3 ?_
 refine aa 3 ?_
 refine aa 3 ?_
 refine .mk [] _ (aao s l k _ hf hg Dd (by omega) (by omega)) ?_
 rintro _ τ ⟨rfl,wi,cM⟩
 subst τ
 have hx:=cM.rows hn.2.2
 have dx:=MN s l
 have pI:zq s l ws=l6 (nN s*nW l+nN s+1) (nN s+3) (nN s+1) (mV s l) ((nG (nN s) (nW l) (fun v=>gx s v) ws (nN s)).set (nN s*nW l+nN s) (nN s:Int)) (mV s l).length:=rfl
 rw[gb]at pI
 generalize mV s l=ls at hx dx pI
 refine bh (S:=Nat) (fun w=>[(0,kp p),(7,.ptr b7 0),(85,.af (.slice (.int .i64)) ls),(86,.int .i64 ls.length),(87,.int .i64 w)]) (fun w=>bD p q (l6 (nN s*nW l+nN s+1) (nN s+3) (nN s+1) ls (us.set (nN s*nW l+nN s) (nN s:Int)) w) ((b7,cU l)::(b4,a7 s)::σ)) (fun w=>w≤ls.length) (fun w=>ls.length-w) 0 ⟨aY _,⟨rfl,rfl,rfl,rfl,rfl,trivial⟩,congrArg (fun z=>bD p q z _) (Vt hs us)⟩ ?_
 intro w g2 hw0
 have FO:w≤ls.length:=hw0
 clear hw0
 refine aj (p:=(w:Int)<(ls.length:Int)) (fun ab=>?_) (fun aq=>?_)
 rotate_left
 ·have aq:w=ls.length:=by omega
  subst aq
  rw[pI]
  exact .drop 2 2 (.done ⟨rfl,rfl,cM⟩)
 have ab:w<ls.length:=by omega
 obtain⟨x,pT⟩:∃x:List Int,ls[w]=x:=⟨_,rfl⟩
 obtain⟨x7,CL⟩:=hx _ (cq ab)
 rw[pT]at x7 CL
 have K0:ls.getD w []=x:=by rw[bO,bN ab,pT];rfl
 have C1:=hs.xF (k:=w) (by omega)
 have cz:l6 (nN s*nW l+nN s+1) (nN s+3) (nN s+1) ls (us.set (nN s*nW l+nN s) (nN s:Int)) (w+1)=wY (nN s*nW l+nN s+1+w*(nN s+3)) (nN s+1) x (l6 (nN s*nW l+nN s+1) (nN s+3) (nN s+1) ls (us.set (nN s*nW l+nN s) (nN s:Int)) w):=by rw[l6,K0]
 have sZ:nN s*nW l+nN s+1+w*(nN s+3)≤1000000:=by
  have h3:=sx hn.2.2 hw.2
  have h4:w*(nN s+3)≤64*259:=qa (by omega) (by omega)
  omega
 refine aw.mk rfl (aX.mk x (by omega) ((get_some ab).trans (congrArg some pT)) ?_)
 refine aa 2 ?_
 refine ar [] (qj (xr l w _) (congrArg (fun z=>AV.agg [.int .i64 z,.int .i64 (fB l)]) C1)) ?_
 generalize nN s*nW l+nN s+1+w*(nN s+3)=a at C1 cz sZ
 generalize l6 (nN s*nW l+nN s+1) (nN s+3) (nN s+1) ls (us.set (nN s*nW l+nN s) (nN s:Int)) w=vs at cz
 intro b16
 refine ag 0 ?_
 refine aa 0 ?_
 refine ar [2,2] (UK (aay p q vs a (fB l) _) (congrArg (fun z=>bD p q z _) (Vs sZ vs))) ?_
 refine bh (S:=Nat) (fun i=>[(0,kp p),(7,.ptr b7 0),(15,.af (.int .i64) x),(16,.ptr b16 0),(85,.af (.slice (.int .i64)) ls),(86,.int .i64 ls.length),(87,.int .i64 w),(98,.af (.int .i64) x),(99,.int .i64 x.length),(100,.int .i64 i)]) (fun i=>bD p q (kW a (nN s+1) x ((vs.set a 1).set (a+1) 1) i) ((b16,[.int .i64 a,.int .i64 (fB l)])::(b7,cU l)::(b4,a7 s)::σ)) (fun i=>i≤x.length) (fun i=>x.length-i) 0 ⟨aY _,⟨rfl,rfl,rfl,rfl,rfl,rfl,rfl,rfl,rfl,rfl,trivial⟩,rfl⟩ ?_
 intro i g3 dc
 have hi:i≤x.length:=dc
 clear dc
 refine aj (p:=(i:Int)<(x.length:Int)) (fun db=>?_) (fun jx=>?_)
 ·have db:i<x.length:=by omega
  obtain⟨z,hz⟩:∃z,x[i]=z:=⟨_,rfl⟩
  have gU:=CL z (hz▸cq db)
  have KW:x.getD i 0=z:=by rw[bO,bN db,hz];rfl
  have SY:kW a (nN s+1) x ((vs.set a 1).set (a+1) 1) (i+1)=(kW a (nN s+1) x ((vs.set a 1).set (a+1) 1) i).set (a+2+(1+i) % (nN s+1)) z:=by rw[kW,KW]
  have lG:=Nz hs (i:=i) sZ (by omega)
  generalize kW a (nN s+1) x ((vs.set a 1).set (a+1) 1) i=ys at SY
  have ao:fy ys (wr (wr ((a:Int)+2)+(wr (1+(i:Int))).tmod (fB l))) (wu z)=kW a (nN s+1) x ((vs.set a 1).set (a+1) 1) (i+1):=by
   rw[lG,WG (by omega) (by omega),SY]
  refine aw.mk rfl (aX.mk z (by omega) ((get_some db).trans (congrArg some hz)) ?_)
  refine .sched [7] (upto [7] 16 0) (by kernel_rfl) ?_
  refine aa 2 ?_
  refine aa 3 ?_
  refine aK [] (Jl l _) ?_
  refine aw.mk (by rw[hs.room.1];omega) ?_
  refine eY.mk hStore_ ?_
  refine InvAt.mk _ mStore_ ?_
  refine ar [] (aStore p q _ _ _ _) ?_
  exact aM (i+1) (by show x.length-(i+1)<x.length-i;omega) db ⟨rfl,rfl,rfl,rfl,rfl,rfl,rfl,rfl,rfl,aL (by omega),trivial⟩ (aN (congrArg (fun z=>bD p q z _) ao))
 have jx:i=x.length:=by omega
 subst jx
 refine aa 2 ?_
 refine InvAt.mk _ mStore_ ?_
 refine ar [] (aStore p q _ _ _ _) ?_
 exact aM (w+1) (by show ls.length-(w+1)<ls.length-w;omega) ab ⟨rfl,rfl,rfl,rfl,aL (by omega),trivial⟩ (.drop 2 1 (aN (congrArg (fun z=>bD p q z _) ((WH sZ x vs (by omega)).trans cz.symm))))
end Go.Proofs.YtnikdflhefijbaaGreat
