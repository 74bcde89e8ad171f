import Derived.Test.YtnpidbjdilnhlaaGreatBn44
import Derived.Test.YtnpidbjdilnhlaaGreatBn45
import Derived.Test.YtnpidbjdilnhlaaGreatBn38
namespace Go.Proofs.YtnpidbjdilnhlaaGreat
open Go.RowKit
set_option maxRecDepth 100000
set_option maxHeartbeats 4000000
theorem ft.rk{n:Nat}{p:List Int}(h:ft n p)(hn:n≤1000):oo n (iY n p):=by
 have hl:=h.len
 have key:∀i:Nat,i<n→∃j:Nat,p[j]?=some (i:Int)∧j<n∧(iY n p).getD i 0=(n:Int)-1-(j:Int):=fun i hi=>by
  obtain⟨j,hj⟩:=List.getElem?_of_mem (h.all i ⟨by omega,by omega⟩)
  have qZ:=(List.getElem?_eq_some_iff.1 hj).1
  have:=KV h hj
  rw[Int.toNat_natCast]at this
  exact⟨j,hj,by omega,this⟩
 refine⟨oU n p n,fun i hi =>?_,fun i j hi hj e =>?_⟩
 ·obtain⟨k,_,hk,e⟩:=key i hi
  omega
 ·obtain⟨k,h1,_,e1⟩:=key i hi
  obtain⟨m,h2,_,e2⟩:=key j hj
  have:k=m:=by omega
  subst this
  rw[h1]at h2
  have:=Option.some.inj h2
  omega
def r8(n:Nat)(p:List Int):List (j9 n):=p.filterMap fun x=>if h:0≤x∧x<(n:Int) then some ⟨x,h⟩ else none
theorem zR{n:Nat}:∀{p:List Int},(∀x∈p,0≤x∧x<(n:Int))→fP (r8 n p)=p
 | [],_=>rfl
 | x::p,h=>by
  have hx:=h x (List.mem_cons_self ..)
  have ih:=zR (p:=p) fun y hy=>h y (List.mem_cons_of_mem _ hy)
  unfold r8 at ih ⊢
  rw[List.filterMap_cons,dif_pos hx]
  show x::fP _=_
  rw[ih]
def dc(n:Nat)(rk:List Int)(p:List Int):List Int:=fP (pf rk (r8 n p))
theorem wF{n:Nat}{rk p:List Int}(h:∀x∈p,0≤x∧x<(n:Int)):(dc n rk p).Perm p:=by
 have h1:(fP (pf rk (r8 n p))).Perm (fP (r8 n p)):=List.Perm.map _ (List.mergeSort_perm _ _)
 rw[zR h]at h1
 exact h1
theorem NA{n:Nat}{rk p:List Int}(h:∀x∈p,0≤x∧x<(n:Int)):(dc n rk p).length=p.length:=(wF h).length_eq
def nq(n:Nat)(l:List aK)(fr:List Int):List Int:=(eI n l).flatMap (dc n (iY n (gH n l fr)))
def mw(n:Nat)(rk:List Int)(rw:List (Nat×List Int))(k:Nat):List (Nat×List Int):=(rw.take k).map (fun r=>(r.1,dc n rk r.2))++rw.drop k
theorem Se(n:Nat)(rk:List Int)(b bk:Nat)(p:List Int)(σ:Hp)(hr:oo n rk)(hp:∀x∈p,0≤x∧x<(n:Int))(h0:0<p.length)(hl:p.length≤1000000):ACalls Tryz.prog 153 [.ae b 0 p.length 1,.fn (.func 154) [] [.ptr bk 0]] ((b,ak p)::(bk,[.af (.int .i64) rk])::σ) (aB (.tup []) ((b,ak (dc n rk p))::(bk,[.af (.int .i64) rk])::σ)):=by
 obtain⟨x,hx⟩:∃x,x∈p:=by
  match p,h0 with
  | x::_,_=>exact⟨x,List.mem_cons_self ..⟩
 haveI:Inhabited (j9 n):=⟨⟨x,hp x hx⟩⟩
 have e:(r8 n p).length=p.length:=by
  have:=congrArg List.length (zR hp)
  rw[wi]at this
  exact this
 have h:=QG n rk b bk (r8 n p) p.length σ hr e h0 hl
 rw[zR hp]at h
 exact h
theorem UN{n:Nat}{rk:List Int}{rw:List (Nat×List Int)}{k b:Nat}{p:List Int}(h:rw[k]?=some (b,p)):(mw n rk rw k)[k]?=some (b,p)∧(mw n rk rw (k+1))[k]?=some (b,dc n rk p):=by
 have hk:=(List.getElem?_eq_some_iff.1 h).1
 have hg:rw[k]=(b,p):=(List.getElem?_eq_some_iff.1 h).2
 have hl:((rw.take k).map (fun r=>(r.1,dc n rk r.2))).length=k:=by rw[List.length_map,List.length_take];omega
 refine⟨?_,?_⟩
 ·unfold mw
  rw[List.getElem?_append_right (by omega),hl,Nat.sub_self,List.getElem?_drop,Nat.add_zero]
  exact h
 ·unfold mw
  rw[List.take_succ_eq_append_getElem hk,List.map_append,hg,List.append_assoc,List.getElem?_append_right (by omega),hl,Nat.sub_self]
  rfl
theorem Pw{n:Nat}{rk:List Int}{rw:List (Nat×List Int)}{k b:Nat}{p:List Int}(h:rw[k]?=some (b,p)):mw n rk rw k=(rw.take k).map (fun r=>(r.1,dc n rk r.2))++(b,p)::rw.drop (k+1)∧mw n rk rw (k+1)=(rw.take k).map (fun r=>(r.1,dc n rk r.2))++(b,dc n rk p)::rw.drop (k+1):=by
 have hk:=(List.getElem?_eq_some_iff.1 h).1
 have hg:rw[k]=(b,p):=(List.getElem?_eq_some_iff.1 h).2
 refine⟨?_,?_⟩
 ·unfold mw
  rw[List.drop_eq_getElem_cons hk,hg]
 ·unfold mw
  rw[List.take_succ_eq_append_getElem hk,List.map_append,hg,List.append_assoc]
  rfl
theorem I5(A B:List (Nat×List Int))(b:Nat)(p:List Int)(x:Nat×List AV)(X σ:Hp):((b,ak p)::x::(X++(dw A++(dw B++σ)))).Perm (x::(X++(dw (A++(b,p)::B)++σ))):=by
 have e:dw (A++(b,p)::B)++σ=dw A++((b,ak p)::(dw B++σ)):=by
  unfold dw
  rw[List.map_append,List.append_assoc];rfl
 rw[e]
 refine (List.Perm.swap _ _ _).trans (List.Perm.cons _ ?_)
 exact (List.perm_middle.symm).trans (List.Perm.append_left X List.perm_middle.symm)
theorem ft.perm{n:Nat}{p q:List Int}(h:ft n p)(hp:q.Perm p):ft n q:=⟨hp.nodup_iff.2 h.nd,fun x hx=>h.rg x (hp.mem_iff.1 hx),fun x hx=>hp.mem_iff.2 (h.all x hx)⟩
theorem IA{n:Nat}{rk:List Int}:∀{Q:List (List Int)},(∀p∈Q,∀x∈p,0≤x∧x<(n:Int))→(Q.flatMap (dc n rk)).Perm Q.flatten
 | [],_=>List.Perm.nil
 | p::Q,h=>by
  rw[List.flatMap_cons,List.flatten_cons]
  exact (wF (h p (List.mem_cons_self ..))).append (IA fun q hq=>h q (List.mem_cons_of_mem _ hq))
theorem kX.flat{n:Nat}{l:List aK}{P Q:List (List Int)}(h:kX n l P)(hp:Q.Perm P):(∀p∈Q,p≠[])∧(∀p∈Q,∀x∈p,0≤x∧x<(n:Int))∧ft n Q.flatten:=by
 have hn:∀p∈Q,∀x∈p,0≤x∧x<(n:Int):=fun p hq=>h.ok.node p (hp.mem_iff.1 hq)
 refine⟨fun p hq=>h.ok.ne p (hp.mem_iff.1 hq),hn,(hp.flatten).nodup_iff.2 h.ok.nd,fun x hx =>?_,fun x hx =>?_⟩
 ·obtain⟨p,hq,nt⟩:=List.mem_flatten.1 hx
  exact hn p hq x nt
 ·obtain⟨p,hq,nt⟩:=h.all x hx.1 hx.2
  exact List.mem_flatten.2 ⟨p,hp.mem_iff.2 hq,nt⟩
theorem Hy:∀{Q:List (List Int)},(∀p∈Q,p≠[])→Q.length≤Q.flatten.length
 | [],_=>Nat.le_refl _
 | p::Q,h=>by
  have ih:=Hy (Q:=Q) fun q hq=>h q (List.mem_cons_of_mem _ hq)
  have:=List.length_pos_iff.2 (h p (List.mem_cons_self ..))
  rw[List.flatten_cons,List.length_append,List.length_cons]
  omega
theorem Uu(n:Nat)(l:List aK)(fr:List Int)(σ:Hp)(hl:l.length≤100000)(hf:fr.length≤100000)(cJ:cU n l=true)(jL:∀x∈fr,0≤x∧x<(n:Int)):ACalls Tryz.prog 105 [.int .i64 n,.af bA l,.af (.int .i64) fr] σ (fun r σ'=>∃bo,r=.tup [.ae bo 0 (nq n l fr).length 1,.int .i64 0]∧σ'=(bo,ak (nq n l fr))::σ∧ft n (nq n l fr)∧(∀p∈eI n l,p≠[])∧ft n (eI n l).flatten∧ft n (gH n l fr)):=by
 have hn:1≤n∧n≤256:=by
  unfold cU at cJ
  simp only[Bool.and_eq_true,decide_eq_true_eq]at cJ
  omega
 refine okF Tryz.func105 (by kernel_rfl) ?_
 refine .mk [] _ (Vx n l fr _ hl hf cJ jL) ?_
 rintro _ τ ⟨rfl,sm,hA⟩
 subst τ
 have hR:=hA.rk (by omega)
 intro b8
 refine ai.mk 0 _ _ rfl rfl ?_
 refine .mk [] _ (Uj n l _ hl cJ) ?_
 rintro _ _ ⟨bo,dv,rfl,j0,rfl,P,bH,sr⟩
 obtain⟨aS,qp,fy⟩:=bH.flat sr
 have y6:ft n (nq n l fr):=fy.perm (IA qp)
 unfold nq at y6 ⊢
 generalize iY n (gH n l fr)=rk at hR y6
 generalize eI n l=Q at j0 aS qp y6 fy
 have hQl:dv.length=Q.length:=by rw[← j0,List.length_map]
 have hlen:=y6.len
 have Xj:∀p∈Q,p.length≤n:=fun p hp=>by
  have h1:p.Sublist Q.flatten:=List.sublist_flatten_of_mem hp
  have:=h1.length_le
  have:=fy.len
  omega
 have LL:dv.length≤n:=by
  have:=Hy aS
  have:=fy.len
  omega
 have h0:mw n rk dv 0=dv:=by simp[mw]
 have hH:((b8,[AV.af (.int .i64) rk])::(bo,dG dv)::(dw dv++([]++σ))).Perm ((bo,dG dv)::(dw dv++((b8,[AV.af (.int .i64) rk])::σ))):=
  (List.Perm.swap _ _ _).trans (List.Perm.cons _ List.perm_middle.symm)
 refine .wrap 11 .aj rfl rfl ?_
 refine .cz (.perm hH (.refl _)) ?_
 refine aU (S:=Nat×AV×Hp) (fun x=>[(8,.ptr b8 0),(9,.int .i64 0),(11,.via x.2.1),(30,.ae bo 0 dv.length 1),(31,.int .i64 dv.length),(32,.int .i64 x.1)]) (fun x=>(b8,[.af (.int .i64) rk])::(bo,dG dv)::(dw (mw n rk dv x.1)++(x.2.2++σ))) (fun x=>x.1≤dv.length∧Acc 1 ((Q.take x.1).flatMap (dc n rk)).length x.2.1 x.2.2 (ak ((Q.take x.1).flatMap (dc n rk)))) (fun x=>dv.length-x.1) (0,.aj,[]) ⟨⟨Nat.zero_le _,.nil⟩,⟨rfl,rfl,rfl,rfl,rfl,rfl,trivial⟩,by rw[h0]⟩ ?_
 rintro⟨k,v,acc⟩ g ⟨hk,bc⟩
 have hk:k≤dv.length:=hk
 have bc:Acc 1 ((Q.take k).flatMap (dc n rk)).length v acc (ak ((Q.take k).flatMap (dc n rk))):=bc
 refine an (p:=(k:Int)<dv.length) (fun ab =>?_) (fun aq =>?_)
 ·have ab:k<dv.length:=by omega
  obtain⟨p,hp⟩:∃p,Q[k]?=some p:=⟨Q[k]'(by omega),List.getElem?_eq_getElem (by omega)⟩
  obtain⟨bk,sy⟩:=xr j0 hp
  have ey:=List.mem_of_getElem? hp
  have vO:=qp p ey
  have nw:=List.length_pos_iff.2 (aS p ey)
  have jd:=Xj p ey
  have cc:=NA (rk:=rk) vO
  obtain⟨s1,s2⟩:=Pw (n:=n) (rk:=rk) sy
  have dh:Q.take (k+1)=Q.take k++[p]:=by
   rw[List.take_succ_eq_append_getElem (by omega)]
   rw[List.getElem?_eq_getElem (by omega)]at hp
   rw[Option.some.inj hp]
  have gj:((Q.take k).flatMap (dc n rk)).length+p.length≤n:=by
   have e:Q.flatMap (dc n rk)=(Q.take (k+1)).flatMap (dc n rk)++(Q.drop (k+1)).flatMap (dc n rk):=by rw[← List.flatMap_append,List.take_append_drop]
   have:=congrArg List.length e
   rw[dh,List.flatMap_append,List.length_append,List.length_append,show [p].flatMap (dc n rk)=dc n rk p by simp]at this
   omega
  refine ah.mk ⟨rfl,by omega,by omega⟩ ?_
  refine aa.mk 1 _ _ rfl (xl rfl (by omega) (by rw[Int.toNat_natCast];exact sy)) ?_
  rw[s1]
  refine .perm _ (I5 _ _ bk p (b8,[.af (.int .i64) rk]) [(bo,dG dv)] (acc++σ)) (Se n rk bk b8 p _ hR vO nw (by omega)) ?_
  rintro _ _ ⟨rfl,rfl⟩
  refine⟨_,(I5 _ _ bk (dc n rk p) (b8,[.af (.int .i64) rk]) [(bo,dG dv)] (acc++σ)).symm,?_⟩
  rw[← s2]
  have dO:=(UN (n:=n) (rk:=rk) sy).2
  refine dX (_::_::dw (mw n rk dv (k+1))) bc (.ae (k+2) bk 0 p.length (ak (dc n rk p)) (AI dO) (by rw[jm,cc];show 0+p.length*1≤_;omega)) ?_ (by omega) (by decide) (by decide) (fun v' aP h' =>?_)
  ·show (List.take (p.length*1) (List.drop 0 (ak (dc n rk p)))).length=p.length*1
   rw[List.length_take,List.length_drop,jm,cc];omega
  ·refine aH (k+1,v',aP) (by show dv.length-(k+1)<dv.length-k;omega) ⟨ab,?_⟩ ⟨rfl,rfl,rfl,rfl,rfl,aI (by omega),trivial⟩ (.refl _)
   have e:List.take (p.length*1) (List.drop 0 (ak (dc n rk p)))=ak (dc n rk p):=by rw[List.drop_zero,List.take_of_length_le (by rw[jm,cc];omega)]
   have h2:Acc 1 (((Q.take k).flatMap (dc n rk)).length+p.length) v' aP (ak ((Q.take k).flatMap (dc n rk))++List.take (p.length*1) (List.drop 0 (ak (dc n rk p)))):=h'
   rw[e,← cc,← List.length_append,show ak ((Q.take k).flatMap (dc n rk))++ak (dc n rk p)=ak ((Q.take k).flatMap (dc n rk)++dc n rk p) by unfold ak;rw[List.map_append]]at h2
   show Acc 1 ((Q.take (k+1)).flatMap (dc n rk)).length v' aP (ak ((Q.take (k+1)).flatMap (dc n rk)))
   rw[dh,List.flatMap_append,show [p].flatMap (dc n rk)=dc n rk p by simp]
   exact h2
 ·have aq:¬(k:Int)<dv.length:=aq
  rw[List.take_of_length_le (by omega)]at bc
  obtain⟨b,rfl,rfl⟩:=oY (by omega) bc
  exact .drop 0 2 (OU (dw (mw n rk dv k)) (.done ⟨b,rfl,rfl,y6,aS,fy,hA⟩))
end Go.Proofs.YtnpidbjdilnhlaaGreat
namespace Go.Proofs.YtnpidbjdilnhlaaGreat
open Go.RowKit
set_option maxRecDepth 100000
theorem ft.rkn{n:Nat}{p:List Int}(h:ft n p){x:Int}(hx:0≤x∧x<(n:Int)):0≤(iY n p).getD x.toNat 0∧(iY n p).getD x.toNat 0<(n:Int):=by
 obtain⟨j,hj⟩:=List.getElem?_of_mem (h.all x hx)
 have qZ:=(List.getElem?_eq_some_iff.1 hj).1
 have:=KV h hj
 have:=h.len
 omega
theorem US{n:Nat}{rk p:List Int}(hr:∀x∈p,0≤rk.getD x.toNat 0∧rk.getD x.toNat 0<(n:Int)){x:Int}:x∈lT n rk p↔x∈p:=by
 unfold lT
 rw[List.mem_flatMap]
 constructor
 ·rintro⟨k,_,hx⟩
  exact (List.mem_filter.1 hx).1
 ·intro hx
  have:=hr x hx
  exact⟨(rk.getD x.toNat 0).toNat,List.mem_range.2 (by omega),List.mem_filter.2 ⟨hx,decide_eq_true (by omega)⟩⟩
theorem PJ{n:Nat}{rk p:List Int}(hn:p.Nodup)(Xv:∀x∈p,∀y∈p,rk.getD x.toNat 0=rk.getD y.toNat 0→x=y):(lT n rk p).Pairwise fun x y=>rk.getD x.toNat 0<rk.getD y.toNat 0:=by
 unfold lT
 rw[List.pairwise_flatMap]
 refine⟨fun k _ =>?_,?_⟩
 ·refine List.Pairwise.imp_of_mem (fun {x y} hx hy aS =>?_) (List.Pairwise.filter _ hn)
  have h1:=List.mem_filter.1 hx
  have h2:=List.mem_filter.1 hy
  exact absurd (Xv x h1.1 y h2.1 ((of_decide_eq_true h1.2).trans (of_decide_eq_true h2.2).symm)) aS
 ·refine List.Pairwise.imp (fun {k m} hkm x hx y hy =>?_) List.pairwise_lt_range
  have h1:=of_decide_eq_true (List.mem_filter.1 hx).2
  have h2:=of_decide_eq_true (List.mem_filter.1 hy).2
  omega
theorem Ol{n:Nat}{rk p:List Int}(hk:oo n rk)(hp:∀x∈p,0≤x∧x<(n:Int))(hn:p.Nodup):(dc n rk p).Pairwise fun x y=>rk.getD x.toNat 0<rk.getD y.toNat 0:=by
 have hs:(pf rk (r8 n p)).Pairwise fun x y=>(!(ltOf (qH rk)) y x)=true:=List.pairwise_mergeSort (fun x y z h1 h2=>by
  rw[hk.lt]at *;simp only[Bool.not_eq_true',decide_eq_false_iff_not]at *;omega) (fun x y=>by
  rw[hk.lt,hk.lt]
  simp only[Bool.or_eq_true,Bool.not_eq_true',decide_eq_false_iff_not];omega) _
 have bC:=(wF (rk:=rk) hp).nodup_iff.2 hn
 have hm:∀x∈dc n rk p,0≤x∧x<(n:Int):=fun x hx=>hp x ((wF hp).mem_iff.1 hx)
 have h1:(dc n rk p).Pairwise fun x y=>¬rk.getD y.toNat 0<rk.getD x.toNat 0:=by
  unfold dc fP
  rw[List.pairwise_map]
  refine hs.imp fun {x y} h =>?_
  rw[hk.lt]at h
  simpa using h
 refine (h1.and bC).imp_of_mem fun {x y} hx hy h =>?_
 have hx:=hm x hx
 have hy:=hm y hy
 have h1:=h.1
 by_cases h3:rk.getD x.toNat 0<rk.getD y.toNat 0
 ·exact h3
 ·have:=hk.inj x.toNat y.toNat (by omega) (by omega) (by omega)
  exact absurd (by omega) h.2
theorem Ki{f:Int→Int}:∀{A B:List Int},A.Pairwise (fun x y=>f x<f y)→B.Pairwise (fun x y=>f x<f y)→(∀x,x∈A↔x∈B)→A=B
 | [],[],_,_,_=>rfl
 | [],b::B,_,_,h=>by have:=(h b).2 (List.mem_cons_self ..);cases this
 | a::A,[],_,_,h=>by have:=(h a).1 (List.mem_cons_self ..);cases this
 | a::A,b::B,ha,hb,h=>by
  have Ca:=List.pairwise_cons.1 ha
  have rh:=List.pairwise_cons.1 hb
  have e:a=b:=by
   rcases List.mem_cons.1 ((h a).1 (List.mem_cons_self ..)) with h1 | h1
   ·exact h1
   ·rcases List.mem_cons.1 ((h b).2 (List.mem_cons_self ..)) with h2 | h2
    ·exact h2.symm
    ·have:=rh.1 a h1
     have:=Ca.1 b h2
     omega
  subst e
  rw[Ki Ca.2 rh.2 fun x=>⟨fun hx =>?_,fun hx =>?_⟩]
  ·rcases List.mem_cons.1 ((h x).1 (List.mem_cons_of_mem _ hx)) with h1 | h1
   ·subst h1;have:=Ca.1 x hx;omega
   ·exact h1
  ·rcases List.mem_cons.1 ((h x).2 (List.mem_cons_of_mem _ hx)) with h1 | h1
   ·subst h1;have:=rh.1 x hx;omega
   ·exact h1
theorem UR{n:Nat}{q p:List Int}(h:ft n q)(hn:n≤1000)(hp:∀x∈p,0≤x∧x<(n:Int))(bC:p.Nodup):lT n (iY n q) p=dc n (iY n q) p:=by
 have hk:=h.rk hn
 refine Ki (f:=fun x=>(iY n q).getD x.toNat 0) (PJ bC fun x hx y hy e =>?_) (Ol hk hp bC) fun x =>?_
 ·have hx:=hp x hx
  have hy:=hp y hy
  have:=hk.inj x.toNat y.toNat (by omega) (by omega) e
  omega
 ·rw[US fun x hx=>h.rkn (hp x hx)]
  exact (wF hp).mem_iff.symm
theorem K0{n:Nat}{q:List Int}(h:ft n q)(hn:n≤1000):∀{Q:List (List Int)},(∀p∈Q,∀x∈p,0≤x∧x<(n:Int))→Q.flatten.Nodup→Q.flatMap (lT n (iY n q))=Q.flatMap (dc n (iY n q))
 | [],_,_=>rfl
 | p::Q,hp,hd=>by
  have hd:(p++Q.flatten).Nodup:=hd
  have hd:=List.nodup_append.1 hd
  rw[List.flatMap_cons,List.flatMap_cons,UR h hn (hp p (List.mem_cons_self ..)) hd.1,K0 h hn (fun q hq=>hp q (List.mem_cons_of_mem _ hq)) hd.2.1]
end Go.Proofs.YtnpidbjdilnhlaaGreat
namespace Go.Proofs.YtnpidbjdilnhlaaGreat
open Go.RowKit
set_option maxRecDepth 100000
set_option maxHeartbeats 4000000
def lU(x:Int)(p:List Int)(o:List Int):List Int:=p.foldl (fun o a=>o.set a.toNat x) o
theorem zK(x:Int):∀(p o:List Int),(lU x p o).length=o.length
 | [],_=>rfl
 | a::p,o=>by
  show (lU x p (o.set a.toNat x)).length=_
  rw[zK x p,List.length_set]
theorem Jf(x:Int)(p o:List Int)(a:Int):lU x (p++[a]) o=(lU x p o).set a.toNat x:=by unfold lU;rw[List.foldl_append];rfl
def jI(n k:Nat)(Q:List (List Int)):Nat→List Int
 | 0=>List.replicate n 0
 | j+1=>lU (((k*((Q.take j).flatten.length) / n:Nat)):Int) (Q.getD j []) (jI n k Q j)
theorem oV(n k:Nat)(Q:List (List Int)):∀j,(jI n k Q j).length=n
 | 0=>List.length_replicate
 | j+1=>by unfold jI;rw[zK];exact oV n k Q j
def gu(n k:Nat)(l:List aK):List Int:=jI n k (eI n l) (eI n l).length
theorem MQ(k:Nat)(σ:Hp)(h1:1≤k)(h2:k≤64):ACalls Tryz.prog 104 [.int .i64 k] σ (aB (.bool true) σ):=by
 refine okF Tryz.func104 (by kernel_rfl) ?_
 refine an (fun _ =>?_) (fun c=>absurd (show (1:Int)≤k by omega) c)
 refine an (fun _ =>?_) (fun c=>absurd (show (k:Int)≤64 by omega) c)
 exact .done ⟨rfl,rfl⟩
theorem Cw(Q:List (List Int))(j:Nat):(Q.take j).flatten.length≤Q.flatten.length:=by
 have e:Q.flatten=(Q.take j).flatten++(Q.drop j).flatten:=by rw[← List.flatten_append,List.take_append_drop]
 rw[e,List.length_append];omega
structure MU(n:Nat)(Q:List (List Int)):Prop where
 node:∀p∈Q,∀x∈p,0≤x∧x<(n:Int)
 flat:Q.flatten.length≤600
 len:Q.length≤600
theorem J9{k a n:Nat}(hk:k≤64)(ha:a≤600)(_hn:1≤n):IntKind.i64.wrap ((IntKind.i64.wrap ((k:Int)*(a:Nat))).tdiv (n:Int))=((k*a / n:Nat):Int):=by
 have h1:(k:Int)*(a:Nat)=((k*a:Nat):Int):=by simp
 have h2:k*a≤64*600:=Nat.mul_le_mul hk ha
 have h3:k*a / n≤k*a:=Nat.div_le_self _ _
 have h4:IntKind.i64.wrap ((k*a:Nat):Int)=((k*a:Nat):Int):=by rw[IntKind.wrap_i64];omega
 have h5:(((k*a:Nat):Int)).tdiv (n:Int)=((k*a / n:Nat):Int):=rfl
 rw[h1,h4,h5]
 clear h4 h5
 generalize k*a / n=q at h3
 generalize k*a=m at h2 h3
 rw[IntKind.wrap_i64]
 omega
theorem UP{n:Nat}{l:List aK}{P:List (List Int)}(h:kX n l P)(hr:∀e∈l,(0≤e.1∧e.1<(n:Int))∧0≤e.2.1∧e.2.1<(n:Int))(hn:n≤256):MU n (eI n l):=by
 have hO:=(As h hr P.length (Nat.le_refl _)).1
 rw[D4 h hr]at hO
 have hm:∀p∈eI n l,p∈P:=fun p hp=>by
  obtain⟨i,_,hi⟩:=(hO.mem p).1 hp
  exact List.mem_of_getElem? hi
 have fy:=zU n _ hO.nd fun x hx=>by
  obtain⟨p,hp,nt⟩:=List.mem_flatten.1 hx
  exact h.ok.node p (hm p hp) x nt
 have hll:=CC (Q:=eI n l) fun p hp=>List.length_pos_iff.2 (h.ok.ne p (hm p hp))
 exact⟨fun p hp=>h.ok.node p (hm p hp),by omega,by omega⟩
theorem jl.qok{n:Nat}{Q:List (List Int)}{told:List Int}(h:jl n Q told)(hn:n≤256):MU n Q:=by
 have h1:=h.qy
 have h2:=h.EW
 rw[h.told]at h1
 exact⟨h.node,by omega,by omega⟩
theorem Ut(n:Nat)(l:List aK)(k:Nat)(σ:Hp)(hl:l.length≤100000)(cJ:cU n l=true)(h1:1≤k)(h2:k≤64):ACalls Tryz.prog 106 [.int .i64 n,.af bA l,.int .i64 k] σ (aB (.tup [.af (.int .i64) (gu n k l),.int .i64 0]) σ):=by
 have hn:1≤n∧n≤256:=by
  unfold cU at cJ
  simp only[Bool.and_eq_true,decide_eq_true_eq]at cJ
  omega
 have vX:∀e∈l,(0≤e.1∧e.1<(n:Int))∧0≤e.2.1∧e.2.1<(n:Int):=fun e he=>by
  unfold cU at cJ
  simp only[Bool.and_eq_true,List.all_eq_true]at cJ
  have:=cJ.2 e he
  exact⟨iu.1 this.1,iu.1 this.2⟩
 refine okF Tryz.func106 (by kernel_rfl) ?_
 refine az [] (MQ k _ h1 h2) ?_
 refine .mk [] _ (Ui n l _ hl cJ) ?_
 rintro _ τ ⟨rfl,sm,P,hP⟩
 subst τ
 have hQ:=UP hP vX hn.2
 unfold gu
 generalize eI n l=Q at hQ
 have hQl:=hQ.len
 have FU:((n:Nat):Int).toNat=n:=Int.toNat_natCast n
 refine ah.mk ⟨by omega,by omega,by omega,by decide⟩ ?_
 intro bo
 refine aU (S:=Nat) (fun x=>[(0,.int .i64 n),(2,.int .i64 k),(10,.ae bo 0 n 1),(11,.int .i64 ((Q.take x).flatten.length:Nat)),(30,.af (.slice (.int .i64)) Q),(31,.int .i64 Q.length),(32,.int .i64 x)]) (fun x=>(bo,ak (jI n k Q x))::σ) (fun x=>x≤Q.length) (fun x=>Q.length-x) 0 ⟨Nat.zero_le _,⟨rfl,rfl,rfl,rfl,rfl,rfl,rfl,trivial⟩,by rw[show ak (jI n k Q 0)=bN [.int .i64 0] n from (p8 n).symm];rfl⟩ ?_
 intro j g hj
 have hj:j≤Q.length:=hj
 have ua:(Q.take j).flatten.length≤600:=Nat.le_trans (Cw Q j) hQ.flat
 refine an (p:=(j:Int)<Q.length) (fun ab =>?_) (fun aq =>?_)
 ·have ab:j<Q.length:=by omega
  obtain⟨p,hp⟩:∃p,Q[j]?=some p:=⟨Q[j]'ab,List.getElem?_eq_getElem ab⟩
  have vO:=hQ.node p (List.mem_of_getElem? hp)
  have jd:p.length≤600:=Nat.le_trans (List.Sublist.length_le (List.sublist_flatten_of_mem (List.mem_of_getElem? hp))) hQ.flat
  have hx:IntKind.i64.wrap ((IntKind.i64.wrap ((k:Int)*((Q.take j).flatten.length:Nat))).tdiv (n:Int))=((k*(Q.take j).flatten.length / n:Nat):Int):=J9 (by omega) (by omega) (by omega)
  have hu:jI n k Q (j+1)=lU ((k*(Q.take j).flatten.length / n:Nat):Int) p (jI n k Q j):=by
   show lU _ (Q.getD j []) _=_
   rw[List.getD_eq_getElem?_getD,hp];rfl
  have gj:=oV n k Q j
  have dh:(Q.take (j+1)).flatten.length=(Q.take j).flatten.length+p.length:=by
   rw[List.take_succ_eq_append_getElem ab,List.flatten_append,List.length_append,show Q[j]=p from Option.some.inj ((List.getElem?_eq_getElem ab).symm.trans hp)];simp
  generalize jI n k Q j=o at hu gj
  generalize hX:((k*(Q.take j).flatten.length / n:Nat):Int)=X at hx hu
  refine ah.mk rfl (aT.mk p (by omega) (by rw[Int.toNat_natCast];exact hp) ?_)
  refine aU (S:=Nat) (fun y=>[(0,.int .i64 n),(2,.int .i64 k),(10,.ae bo 0 n 1),(11,.int .i64 ((Q.take j).flatten.length:Nat)),(13,.af (.int .i64) p),(30,.af (.slice (.int .i64)) Q),(31,.int .i64 Q.length),(32,.int .i64 j),(36,.af (.int .i64) p),(37,.int .i64 p.length),(38,.int .i64 y)]) (fun y=>(bo,ak (lU X (p.take y) o))::σ) (fun y=>y≤p.length) (fun y=>p.length-y) 0 ⟨Nat.zero_le _,⟨rfl,rfl,rfl,rfl,rfl,rfl,rfl,rfl,rfl,rfl,rfl,trivial⟩,rfl⟩ ?_
  intro y g2 hy
  have hy:y≤p.length:=hy
  refine an (p:=(y:Int)<p.length) (fun lf =>?_) (fun yL =>?_)
  ·have lf:y<p.length:=by omega
   have hz:=vO _ (List.getElem_mem lf)
   have vP:=zK X (p.take y) o
   refine ah.mk rfl (aT.mk p[y] (by omega) (get_some lf) ?_)
   refine ah.mk (by omega) ?_
   refine ah.mk ⟨rfl,by omega,by omega⟩ ?_
   refine ai.mk 0 _ _ rfl (jw rfl _ hz.1 (by omega)) ?_
   exact aH (y+1) (by show p.length-(y+1)<p.length-y;omega) lf ⟨rfl,rfl,rfl,rfl,rfl,rfl,rfl,rfl,rfl,rfl,aI (by omega),trivial⟩ (aF (by rw[hx,List.take_succ_eq_append_getElem lf,Jf];rfl))
  ·have yL:p.length=y:=by omega
   subst yL
   rw[List.take_length]
   exact aH (j+1) (by show Q.length-(j+1)<Q.length-j;omega) ab ⟨rfl,rfl,rfl,(by show AV.int .i64 (IntKind.i64.wrap ((((Q.take j).flatten.length:Nat):Int)+((p.length:Nat):Int)))=.int .i64 (((Q.take (j+1)).flatten.length:Nat):Int);rw[dh,IntKind.wrap_i64];exact aN (by omega)),rfl,rfl,aI (by omega),trivial⟩ (aF (by rw[hu]))
 ·have aq:Q.length=j:=by omega
  subst aq
  refine .bO 0 bo 0 n 1 _ (.int .i64) (jI n k Q Q.length) rfl (by rw[List.drop_zero,List.take_of_length_le (by rw[jm,oV,Nat.mul_one];exact Nat.le_refl _)];exact fi _) ⟨oV n k Q _,rfl,by decide⟩ (bL .here (.refl _)) (.done ⟨rfl,rfl⟩)
theorem QK(n:Nat)(l:List aK)(k:Nat)(σ:Hp)(hl:l.length≤100000)(hn:1≤n∧n≤256)(_h1:1≤k)(h2:k≤64):ACalls Tryz.prog 114 [.int .i64 n,.af bA l,.int .i64 k] σ (aB (.af (.int .i64) (gu n k l)) σ):=by
 refine okF Tryz.func114 (by kernel_rfl) ?_
 have FU:((n:Nat):Int).toNat=n:=Int.toNat_natCast n
 refine ah.mk ⟨by omega,by omega,by omega,by decide⟩ ?_
 intro bo
 refine .mk [] _ (L3 n l _ hl hn.2) ?_
 rintro _ τ ⟨rfl,sm,told,hT⟩
 subst τ
 have hQ:=hT.qok hn.2
 unfold gu
 generalize eI n l=Q at hQ
 have hQl:=hQ.len
 refine aU (S:=Nat) (fun x=>[(0,.int .i64 n),(2,.int .i64 k),(7,.ae bo 0 n 1),(8,.int .i64 ((Q.take x).flatten.length:Nat)),(17,.af (.slice (.int .i64)) Q),(18,.int .i64 Q.length),(19,.int .i64 x)]) (fun x=>(bo,ak (jI n k Q x))::σ) (fun x=>x≤Q.length) (fun x=>Q.length-x) 0 ⟨Nat.zero_le _,⟨rfl,rfl,rfl,rfl,rfl,rfl,rfl,trivial⟩,by rw[show ak (jI n k Q 0)=bN [.int .i64 0] n from (p8 n).symm];rfl⟩ ?_
 intro j g hj
 have hj:j≤Q.length:=hj
 have ua:(Q.take j).flatten.length≤600:=Nat.le_trans (Cw Q j) hQ.flat
 refine an (p:=(j:Int)<Q.length) (fun ab =>?_) (fun aq =>?_)
 ·have ab:j<Q.length:=by omega
  obtain⟨p,hp⟩:∃p,Q[j]?=some p:=⟨Q[j]'ab,List.getElem?_eq_getElem ab⟩
  have vO:=hQ.node p (List.mem_of_getElem? hp)
  have jd:p.length≤600:=Nat.le_trans (List.Sublist.length_le (List.sublist_flatten_of_mem (List.mem_of_getElem? hp))) hQ.flat
  have hx:IntKind.i64.wrap ((IntKind.i64.wrap ((k:Int)*((Q.take j).flatten.length:Nat))).tdiv (n:Int))=((k*(Q.take j).flatten.length / n:Nat):Int):=J9 (by omega) (by omega) (by omega)
  have hu:jI n k Q (j+1)=lU ((k*(Q.take j).flatten.length / n:Nat):Int) p (jI n k Q j):=by
   show lU _ (Q.getD j []) _=_
   rw[List.getD_eq_getElem?_getD,hp];rfl
  have gj:=oV n k Q j
  have dh:(Q.take (j+1)).flatten.length=(Q.take j).flatten.length+p.length:=by
   rw[List.take_succ_eq_append_getElem ab,List.flatten_append,List.length_append,show Q[j]=p from Option.some.inj ((List.getElem?_eq_getElem ab).symm.trans hp)];simp
  generalize jI n k Q j=o at hu gj
  generalize hX:((k*(Q.take j).flatten.length / n:Nat):Int)=X at hx hu
  refine ah.mk rfl (aT.mk p (by omega) (by rw[Int.toNat_natCast];exact hp) ?_)
  refine aU (S:=Nat) (fun y=>[(0,.int .i64 n),(2,.int .i64 k),(7,.ae bo 0 n 1),(8,.int .i64 ((Q.take j).flatten.length:Nat)),(10,.af (.int .i64) p),(17,.af (.slice (.int .i64)) Q),(18,.int .i64 Q.length),(19,.int .i64 j),(23,.af (.int .i64) p),(24,.int .i64 p.length),(25,.int .i64 y)]) (fun y=>(bo,ak (lU X (p.take y) o))::σ) (fun y=>y≤p.length) (fun y=>p.length-y) 0 ⟨Nat.zero_le _,⟨rfl,rfl,rfl,rfl,rfl,rfl,rfl,rfl,rfl,rfl,rfl,trivial⟩,rfl⟩ ?_
  intro y g2 hy
  have hy:y≤p.length:=hy
  refine an (p:=(y:Int)<p.length) (fun lf =>?_) (fun yL =>?_)
  ·have lf:y<p.length:=by omega
   have hz:=vO _ (List.getElem_mem lf)
   have vP:=zK X (p.take y) o
   refine ah.mk rfl (aT.mk p[y] (by omega) (get_some lf) ?_)
   refine ah.mk (by omega) ?_
   refine ah.mk ⟨rfl,by omega,by omega⟩ ?_
   refine ai.mk 0 _ _ rfl (jw rfl _ hz.1 (by omega)) ?_
   exact aH (y+1) (by show p.length-(y+1)<p.length-y;omega) lf ⟨rfl,rfl,rfl,rfl,rfl,rfl,rfl,rfl,rfl,rfl,aI (by omega),trivial⟩ (aF (by rw[hx,List.take_succ_eq_append_getElem lf,Jf];rfl))
  ·have yL:p.length=y:=by omega
   subst yL
   rw[List.take_length]
   exact aH (j+1) (by show Q.length-(j+1)<Q.length-j;omega) ab ⟨rfl,rfl,rfl,(by show AV.int .i64 (IntKind.i64.wrap ((((Q.take j).flatten.length:Nat):Int)+((p.length:Nat):Int)))=.int .i64 (((Q.take (j+1)).flatten.length:Nat):Int);rw[dh,IntKind.wrap_i64];exact aN (by omega)),rfl,rfl,aI (by omega),trivial⟩ (aF (by rw[hu]))
 ·have aq:Q.length=j:=by omega
  subst aq
  refine .bO 0 bo 0 n 1 _ (.int .i64) (jI n k Q Q.length) rfl (by rw[List.drop_zero,List.take_of_length_le (by rw[jm,oV,Nat.mul_one];exact Nat.le_refl _)];exact fi _) ⟨oV n k Q _,rfl,by decide⟩ .here (.done ⟨rfl,rfl⟩)
end Go.Proofs.YtnpidbjdilnhlaaGreat
namespace Go.Proofs.YtnpidbjdilnhlaaGreat
open Go.RowKit
set_option maxRecDepth 100000
set_option maxHeartbeats 4000000
def kh(L:List Int):Nat→List Int
 | 0=>L
 | i+1=>((kh L i).set i ((kh L i).getD (L.length-1-i) 0)).set (L.length-1-i) ((kh L i).getD i 0)
theorem zC(L:List Int):∀i,(kh L i).length=L.length
 | 0=>rfl
 | i+1=>by unfold kh;rw[List.length_set,List.length_set];exact zC L i
theorem Iw(l:List Int)(a:Nat)(v:Int)(t:Nat)(ha:a<l.length):(l.set a v).getD t 0=if a=t then v else l.getD t 0:=by
 rw[List.getD_eq_getElem?_getD,List.getElem?_set]
 by_cases h:a=t
 ·subst h;rw[if_pos rfl,if_pos ha,if_pos rfl];rfl
 ·rw[if_neg h,if_neg h,List.getD_eq_getElem?_getD]
theorem J4(L:List Int):∀i,2*i≤L.length+1→∀t,t<L.length→(kh L i).getD t 0=if t<i∨L.length-i≤t then L.getD (L.length-1-t) 0 else L.getD t 0
 | 0,_,t,ht=>by
  rw[if_neg (by omega)];rfl
 | i+1,hi,t,ht=>by
  have hl:=zC L i
  have ih:=J4 L i (by omega)
  have h0:0<L.length:=by omega
  have e1:L.length-1-i<((kh L i).set i ((kh L i).getD (L.length-1-i) 0)).length:=by rw[List.length_set,hl];omega
  unfold kh
  rw[Iw _ _ _ _ e1]
  by_cases hm:i<L.length
  ·rw[Iw _ _ _ _ (by rw[hl];exact hm),ih i hm,ih (L.length-1-i) (by omega),ih t ht]
   repeat' split
   all_goals first | rfl | (exfalso;omega) | (congr 1;omega)
  ·omega
theorem Q6{L:List Int}{i:Nat}(h1:2*i≤L.length+1)(h2:L.length≤2*i+1):kh L i=L.reverse:=by
 have hl:=zC L i
 refine List.ext_getElem (by rw[hl,List.length_reverse]) fun t h3 h4 =>?_
 have ht:t<L.length:=by omega
 have:=J4 L i h1 t ht
 rw[List.getD_eq_getElem?_getD,List.getElem?_eq_getElem h3,List.getD_eq_getElem?_getD,List.getElem?_eq_getElem (show L.length-1-t<L.length by omega),List.getD_eq_getElem?_getD,List.getElem?_eq_getElem ht]at this
 rw[List.getElem_reverse]
 have this:(kh L i)[t]=if t<i∨L.length-i≤t then L[L.length-1-t] else L[t]:=this
 rw[this]
 split
 ·rfl
 ·have e:t=L.length-1-t:=by omega
  congr 1
theorem Sg(b:Nat)(L:List Int)(q:Nat)(σ:Hp)(hq:L.length=q)(hl:q≤1000000):ACalls Tryz.prog 107 [.ae b 0 q 1] ((b,ak L)::σ) (aB (.tup []) ((b,ak L.reverse)::σ)):=by
 refine okF Tryz.func107 (by kernel_rfl) ?_
 refine aU (S:=Nat) (fun i=>[(0,.ae b 0 q 1),(2,.int .i64 i),(3,.int .i64 ((q:Int)-1-i))]) (fun i=>(b,ak (kh L i))::σ) (fun i=>2*i≤q+1) (fun i=>q+1-i) 0 ⟨by omega,⟨rfl,rfl,aN (by rw[IntKind.wrap_i64];omega),trivial⟩,rfl⟩ ?_
 intro i g hi
 have hi:2*i≤q+1:=hi
 have cO:=zC L i
 refine an (p:=(i:Int)<(q:Int)-1-i) (fun ab =>?_) (fun aq =>?_)
 ·have hj:((q:Int)-1-(i:Int)).toNat=L.length-1-i:=by omega
  refine .sched [] (upto [] 16 0) (by kernel_rfl) ?_
  refine ah.mk ⟨rfl,by omega,by omega⟩ ?_
  refine aa.mk 0 _ _ rfl (dD rfl (by omega) (by omega)) ?_
  refine ah.mk ⟨rfl,by omega,by omega⟩ ?_
  refine aa.mk 0 _ _ rfl (dD rfl (by omega) (by omega)) ?_
  refine ah.mk ⟨rfl,by omega,by omega⟩ ?_
  refine ai.mk 0 _ _ rfl (jw rfl _ (by omega) (by omega)) ?_
  refine ah.mk ⟨rfl,by omega,by omega⟩ ?_
  refine ai.mk 0 _ _ rfl (jw rfl _ (by omega) (by rw[List.length_set];omega)) ?_
  refine aH (i+1) (by show q+1-(i+1)<q+1-i;omega) (by show 2*(i+1)≤q+1;omega) ⟨rfl,aN (by rw[IntKind.wrap_i64];omega),aN (by rw[IntKind.wrap_i64];omega),trivial⟩ (aF ?_)
  show (b,ak (((kh L i).set ((i:Nat):Int).toNat ((kh L i).getD ((q:Int)-1-(i:Int)).toNat 0)).set ((q:Int)-1-(i:Int)).toNat ((kh L i).getD ((i:Nat):Int).toNat 0)))::σ=(b,ak (kh L (i+1)))::σ
  rw[hj,Int.toNat_natCast]
  rfl
 ·rw[Q6 (by omega) (by omega)]
  exact .done ⟨rfl,rfl⟩
end Go.Proofs.YtnpidbjdilnhlaaGreat
