import Derived.Test.YtnikdflhefijbaaGreatBp18
import Derived.Test.YtnikdflhefijbaaGreatBp16
import Derived.Test.YtnikdflhefijbaaGreatBp11
import Derived.Test.YtnikdflhefijbaaGreatBp9
import Derived.Test.YtnikdflhefijbaaGreatBp14
import Derived.Test.YtnikdflhefijbaaGreatBp10
import Derived.Test.YtnikdflhefijbaaGreatBp7
import Derived.Test.YtnikdflhefijbaaGreatBp8
import Derived.Test.YtnikdflhefijbaaGreatBp12
import Derived.Test.YtnikdflhefijbaaGreatBp1
namespace Go.Proofs.YtnikdflhefijbaaGreat
open Go.RowKit
set_option maxRecDepth 100000
set_option maxHeartbeats 4000000
def sN(x:Int)(p:List Int)(o:List Int):List Int:=p.foldl (fun o a=>o.set a.toNat x) o
theorem KG(x:Int):∀(p o:List Int),(sN x p o).length=o.length
 | [],_=>rfl
 |a::p,o=>by
  show (sN x p (o.set a.toNat x)).length=_
  rw[KG x p,ck]
theorem abE(x:Int)(p o:List Int)(a:Int):sN x (p++[a]) o=(sN x p o).set a.toNat x:=by unfold sN;rw[sa];rfl
def rN(n k:Nat)(Q:List (List Int)):Nat→List Int
 | 0=>List.replicate n 0
 |j+1=>sN (((k*((Q.take j).flatten.length) / n:Nat)):Int) (Q.getD j []) (rN n k Q j)
theorem Ar(n k:Nat)(Q:List (List Int)):∀j,(rN n k Q j).length=n
 | 0=>fZ
 |j+1=>by unfold rN;rw[KG];exact Ar n k Q j
def nu(n k:Nat)(l:List bg):List Int:=rN n k (kd n l) (kd n l).length
theorem W3(k:Nat)(σ:Hp)(h1:1≤k)(h2:k≤64):ACalls Tryz.prog 214 [.int .i64 k] σ (aE (.bool true) σ):=by
 refine aA Tryz.func214 ?_
 refine aq (fun _=>?_) (fun c=>absurd (show (1:Int)≤k by omega) c)
 refine aq (fun _=>?_) (fun c=>absurd (show (k:Int)≤64 by omega) c)
 exact .done ⟨rfl,rfl⟩
theorem Qv(Q:List (List Int))(j:Nat):(Q.take j).flatten.length≤Q.flatten.length:=by
 have e:Q.flatten=(Q.take j).flatten++(Q.drop j).flatten:=by rw[← gn4,yB]
 rw[e,bG];omega
structure aiw(n:Nat)(Q:List (List Int)):Prop where
 node:∀p∈Q,∀x∈p,0≤x∧x<(n:Int)
 flat:Q.flatten.length≤600
 len:Q.length≤600
theorem adM{k a n:Nat}(hk:k≤64)(ha:a≤600)(_hn:1≤n):IntKind.i64.wrap ((IntKind.i64.wrap ((k:Int)*(a:Nat))).tdiv (n:Int))=((k*a / n:Nat):Int):=by
 have h1:(k:Int)*(a:Nat)=((k*a:Nat):Int):=by simp
 have h2:k*a≤64*600:=jm hk ha
 have h3:k*a / n≤k*a:=Nat.div_le_self _ _
 have h4:IntKind.i64.wrap ((k*a:Nat):Int)=((k*a:Nat):Int):=by rw[IntKind.wrap_i64];omega
 have h5:(((k*a:Nat):Int)).tdiv (n:Int)=((k*a / n:Nat):Int):=rfl
 rw[h1,h4,h5]
 clear h4 h5
 generalize k*a / n=q at h3
 generalize k*a=m at h2 h3
 rw[IntKind.wrap_i64]
 omega
theorem afn{n:Nat}{l:List bg}{P:List (List Int)}(h:oL n l P)(hr:∀e∈l,(0≤e.1∧e.1<(n:Int))∧0≤e.2.1∧e.2.1<(n:Int))(hn:n≤256):aiw n (kd n l):=by
 have hO:=(Hn h hr P.length (aM _)).1
 rw[MC h hr]at hO
 have hm:∀p∈kd n l,p∈P:=fun p hp=>by
  obtain⟨i,_,hi⟩:=(hO.mem p).1 hp
  exact bH hi
 have gG:=GJ n _ hO.nd fun x hx=>by
  obtain⟨p,hp,rO⟩:=oX.1 hx
  exact h.ok.node p (hm p hp) x rO
 have BW:=QK (Q:=kd n l) fun p hp=>mm.2 (h.ok.ne p (hm p hp))
 exact⟨fun p hp=>h.ok.node p (hm p hp),by omega,by omega⟩
theorem aeR(n:Nat)(l:List bg)(k:Nat)(σ:Hp)(hl:l.length≤100000)(dW:fu n l=true)(h1:1≤k)(h2:k≤64):ACalls Tryz.prog 216 [.int .i64 n,.ai dG l,.int .i64 k] σ (aE (.tup [.ai (.int .i64) (nu n k l),.int .i64 0]) σ):=by
 have hn:1≤n∧n≤256:=by
  unfold fu at dW
  simp only[bL,decide_eq_true_eq]at dW
  omega
 have B2:∀e∈l,(0≤e.1∧e.1<(n:Int))∧0≤e.2.1∧e.2.1<(n:Int):=fun e he=>by
  unfold fu at dW
  simp only[bL,fp]at dW
  have:=dW.2 e he
  exact⟨kM.1 this.1,kM.1 this.2⟩
 refine aA Tryz.func216 ?_
 refine aB [] (W3 k _ h1 h2) ?_
 refine .mk [] _ (aeM n l _ hl dW) ?_
 rintro _ τ ⟨rfl,Og,P,hP⟩
 subst τ
 have hQ:=afn hP B2 hn.2
 unfold nu
 generalize kd n l=Q at hQ
 have hQl:=hQ.len
 have hnT:((n:Nat):Int).toNat=n:=bU n
 refine aU ?_
 intro bo
 refine cj (S:=Nat) (fun x=>[(0,.int .i64 n),(2,.int .i64 k),(10,.ae bo 0 n 1),(11,.int .i64 ((Q.take x).flatten.length:Nat)),(30,.ai (.slice (.int .i64)) Q),(31,.int .i64 Q.length),(32,.int .i64 x)]) (fun x=>(bo,ak (rN n k Q x))::σ) (fun x=>x≤Q.length) (fun x=>Q.length-x) 0 ⟨bK _,⟨rfl,rfl,rfl,rfl,rfl,rfl,rfl,trivial⟩,by rw[show ak (rN n k Q 0)=cz [.int .i64 0] n from (yX n).symm];rfl⟩ ?_
 intro j g hj
 have hj:j≤Q.length:=hj
 have Jo:(Q.take j).flatten.length≤600:=fy (Qv Q j) hQ.flat
 refine aq (p:=(j:Int)<Q.length) (fun ab=>?_) (fun ay=>?_)
 ·have ab:j<Q.length:=by omega
  obtain⟨p,hp⟩:∃p,Q[j]?=some p:=⟨Q[j]'ab,bc ab⟩
  have Jq:=hQ.node p (bH hp)
  have sW:p.length≤600:=fy (List.Sublist.length_le (List.sublist_flatten_of_mem (bH hp))) hQ.flat
  have hx:IntKind.i64.wrap ((IntKind.i64.wrap ((k:Int)*((Q.take j).flatten.length:Nat))).tdiv (n:Int))=((k*(Q.take j).flatten.length / n:Nat):Int):=adM (by omega) (by omega) (by omega)
  have hu:rN n k Q (j+1)=sN ((k*(Q.take j).flatten.length / n:Nat):Int) p (rN n k Q j):=by
   show sN _ (Q.getD j []) _=_
   rw[aR,hp];rfl
  have nP:=Ar n k Q j
  have iz:(Q.take (j+1)).flatten.length=(Q.take j).flatten.length+p.length:=by
   rw[List.take_succ_eq_append_getElem ab,List.flatten_append,List.length_append,show Q[j]=p from Option.some.inj ((List.getElem?_eq_getElem ab).symm.trans hp)];simp
  generalize rN n k Q j=o at hu nP
  generalize hX:((k*(Q.take j).flatten.length / n:Nat):Int)=X at hx hu
  refine aH.mk rfl (cg.mk p (by omega) (by rw[bU];exact hp) ?_)
  refine cj (S:=Nat) (fun y=>[(0,.int .i64 n),(2,.int .i64 k),(10,.ae bo 0 n 1),(11,.int .i64 ((Q.take j).flatten.length:Nat)),(13,.ai (.int .i64) p),(30,.ai (.slice (.int .i64)) Q),(31,.int .i64 Q.length),(32,.int .i64 j),(36,.ai (.int .i64) p),(37,.int .i64 p.length),(38,.int .i64 y)]) (fun y=>(bo,ak (sN X (p.take y) o))::σ) (fun y=>y≤p.length) (fun y=>p.length-y) 0 ⟨bK _,⟨rfl,rfl,rfl,rfl,rfl,rfl,rfl,rfl,rfl,rfl,rfl,trivial⟩,rfl⟩ ?_
  intro y g2 hy
  have hy:y≤p.length:=hy
  refine aq (p:=(y:Int)<p.length) (fun uD=>?_) (fun hg2=>?_)
  ·have uD:y<p.length:=by omega
   have hz:=Jq _ (cD uD)
   have E7:=KG X (p.take y) o
   refine aH.mk rfl (cg.mk p[y] (by omega) (get_some uD) ?_)
   refine iJ ?_
   refine aK ?_
   refine cU 0 rfl (nk rfl _ hz.1 (by omega)) ?_
   exact aZ (y+1) (by show p.length-(y+1)<p.length-y;omega) uD ⟨rfl,rfl,rfl,rfl,rfl,rfl,rfl,rfl,rfl,rfl,bu (by omega),trivial⟩ (aJ (by rw[hx,fQ uD,abE];rfl))
  ·have hg2:p.length=y:=by omega
   subst hg2
   rw[ig]
   exact aZ (j+1) (by show Q.length-(j+1)<Q.length-j;omega) ab ⟨rfl,rfl,rfl,(by show AV.int .i64 (IntKind.i64.wrap ((((Q.take j).flatten.length:Nat):Int)+((p.length:Nat):Int)))=.int .i64 (((Q.take (j+1)).flatten.length:Nat):Int);rw[iz,IntKind.wrap_i64];exact aW (by omega)),rfl,rfl,bu (by omega),trivial⟩ (aJ (by rw[hu]))
 ·have ay:Q.length=j:=by omega
  subst ay
  refine .cI 0 bo 0 n 1 _ (.int .i64) (rN n k Q Q.length) rfl (by rw[iB,eZ (by rw[mw,Ar,eo];exact aM _)];exact xn _) ⟨Ar n k Q _,rfl,by decide⟩ (eH .here (.refl _)) (.done ⟨rfl,rfl⟩)
set_option maxHeartbeats 4000000
def ns(L:List Int):Nat→List Int
 | 0=>L
 |i+1=>((ns L i).set i ((ns L i).getD (L.length-1-i) 0)).set (L.length-1-i) ((ns L i).getD i 0)
theorem Gi(L:List Int):∀i,(ns L i).length=L.length
 | 0=>rfl
 |i+1=>by unfold ns;rw[ck,ck];exact Gi L i
theorem RQ(l:List Int)(a:Nat)(v:Int)(t:Nat)(ha:a<l.length):(l.set a v).getD t 0=if a=t then v else l.getD t 0:=by
 rw[aR,dY]
 by_cases h:a=t
 ·subst h;rw[ag rfl,ag ha,ag rfl];rfl
 ·rw[ah h,ah h,aR]
theorem T8(L:List Int):∀i,2*i≤L.length+1→∀t,t<L.length→(ns L i).getD t 0=if t<i∨L.length-i≤t then L.getD (L.length-1-t) 0 else L.getD t 0
 | 0,_,t,ht=>by
  rw[ah (by omega)];rfl
 |i+1,hi,t,ht=>by
  have hl:=Gi L i
  have ih:=T8 L i (by omega)
  have h0:0<L.length:=by omega
  have e1:L.length-1-i<((ns L i).set i ((ns L i).getD (L.length-1-i) 0)).length:=by rw[ck,hl];omega
  unfold ns
  rw[RQ _ _ _ _ e1]
  by_cases hm:i<L.length
  ·rw[RQ _ _ _ _ (by rw[hl];exact hm),ih i hm,ih (L.length-1-i) (by omega),ih t ht]
   repeat' split
   all_goals first | rfl | (exfalso;omega) | (congr 1;omega)
  ·omega
theorem abq{L:List Int}{i:Nat}(h1:2*i≤L.length+1)(h2:L.length≤2*i+1):ns L i=L.reverse:=by
 have hl:=Gi L i
 refine Cn (by rw[hl,tb]) fun t h3 h4=>?_
 have ht:t<L.length:=by omega
 have:=T8 L i h1 t ht
 rw[aR,bc h3,aR,bc (show L.length-1-t<L.length by omega),aR,bc ht]at this
 rw[List.getElem_reverse]
 have this:(ns L i)[t]=if t<i∨L.length-i≤t then L[L.length-1-t] else L[t]:=this
 rw[this]
 split
 ·rfl
 ·have e:t=L.length-1-t:=by omega
  congr 1
theorem acW(b:Nat)(L:List Int)(q:Nat)(σ:Hp)(hq:L.length=q)(hl:q≤1000000):ACalls Tryz.prog 217 [.ae b 0 q 1] ((b,ak L)::σ) (aE (.tup []) ((b,ak L.reverse)::σ)):=by
 refine aA Tryz.func217 ?_
 refine cj (S:=Nat) (fun i=>[(0,.ae b 0 q 1),(2,.int .i64 i),(3,.int .i64 ((q:Int)-1-i))]) (fun i=>(b,ak (ns L i))::σ) (fun i=>2*i≤q+1) (fun i=>q+1-i) 0 ⟨by omega,⟨rfl,rfl,aW (by rw[IntKind.wrap_i64];omega),trivial⟩,rfl⟩ ?_
 intro i g hi
 have hi:2*i≤q+1:=hi
 have fN:=Gi L i
 refine aq (p:=(i:Int)<(q:Int)-1-i) (fun ab=>?_) (fun ay=>?_)
 ·have hj:((q:Int)-1-(i:Int)).toNat=L.length-1-i:=by omega
  refine .sched [] (upto [] 16 0) (by kernel_rfl) ?_
  refine aK ?_
  refine aT 0 rfl (e9 rfl (by omega) (by omega)) ?_
  refine aK ?_
  refine aT 0 rfl (e9 rfl (by omega) (by omega)) ?_
  refine aK ?_
  refine cU 0 rfl (nk rfl _ (by omega) (by omega)) ?_
  refine aK ?_
  refine cU 0 rfl (nk rfl _ (by omega) (by rw[ck];omega)) ?_
  refine aZ (i+1) (by show q+1-(i+1)<q+1-i;omega) (by show 2*(i+1)≤q+1;omega) ⟨rfl,aW (by rw[IntKind.wrap_i64];omega),aW (by rw[IntKind.wrap_i64];omega),trivial⟩ (aJ ?_)
  show (b,ak (((ns L i).set ((i:Nat):Int).toNat ((ns L i).getD ((q:Int)-1-(i:Int)).toNat 0)).set ((q:Int)-1-(i:Int)).toNat ((ns L i).getD ((i:Nat):Int).toNat 0)))::σ=(b,ak (ns L (i+1)))::σ
  rw[hj,bU]
  rfl
 ·rw[abq (by omega) (by omega)]
  exact .done ⟨rfl,rfl⟩
set_option maxHeartbeats 4000000
def nh(k:Nat)(ow al:List Int):List (List Int):=(List.range k).map fun u:Nat=>al.filter fun x=>decide (ow.getD x.toNat 0=(u:Int))
theorem yI(k:Nat)(ow al:List Int):(nh k ow al).length=k:=by unfold nh;rw[cb,oY]
theorem CN{k:Nat}{ow al:List Int}{u:Nat}(h:u<k):(nh k ow al)[u]?=some (al.filter fun x=>decide (ow.getD x.toNat 0=(u:Int))):=by
 unfold nh
 rw[eU,wS h];rfl
theorem XR{k:Nat}{ow al:List Int}{z:Int}{w:Nat}{rl:List Int}(hz:ow.getD z.toNat 0=(w:Int))(hr:(nh k ow al)[w]?=some rl):nh k ow (al++[z])=(nh k ow al).set w (rl++[z]):=by
 have hw:w<k:=by
  have:=(bQ.1 hr).1
  rw[yI]at this
  exact this
 refine Aa fun i=>?_
 rw[dY,yI]
 rcases go2 i k with hi | hi
 ·rw[CN hi,CN hi,Ab]
  by_cases e:w=i
  ·subst e
   rw[ag rfl,ag hw]
   rw[CN hw]at hr
   rw[← Option.some.inj hr,List.filter_cons,if_pos (by rw[hz];simp),List.filter_nil]
  ·rw[if_neg e,List.filter_cons,if_neg (by rw[hz];simp;omega),List.filter_nil,List.append_nil]
 ·rw[uS (by rw[yI];exact hi),ah (by omega),uS (by rw[yI];exact hi)]
theorem ZJ(A:List jR)(r r2:jR)(B:List jR):kQ (A++r2::B)=(kQ (A++r::B)).set A.length r2.2.2:=by
 unfold kQ
 rw[cM,cM,Ki _ _ (by rw[cb];exact aM _),cb,qT]
 rfl
theorem abl(A:List jR)(r:jR)(B:List jR):(kQ (A++r::B))[A.length]?=some r.2.2:=by
 unfold kQ
 rw[cM,ij (by rw[cb];exact aM _),cb,qT]
 rfl
theorem VB(bx:Nat)(ow:List Int)(x w:Int)(σ:Hp)(hx:0≤x)(hw:ow[x.toNat]?=some w):ACalls Tryz.prog 219 [.int .i64 x,.ptr bx 0] ((bx,[.ai (.int .i64) ow])::σ) (aE (.int .i64 w) ((bx,[.ai (.int .i64) ow])::σ)):=by
 refine aA Tryz.func219 ?_
 refine aa 0 ?_
 refine aH.mk rfl (cg.mk w hx hw ?_)
 exact .done ⟨rfl,rfl⟩
theorem agf(n k bx:Nat)(ow al:List Int)(σ:Hp)(kF:1≤k)(ef:k≤64)(hal:al.length≤100000)(hr:∀x∈al,0≤x∧x<(n:Int))(nP:ow.length=n)(jC:∀i:Nat,i<n→0≤ow.getD i 0∧ow.getD i 0<(k:Int)):ACalls Tryz.prog 218 [.ai (.int .i64) al,.int .i64 k,.fn (.func 219) [] [.ptr bx 0]] ((bx,[.ai (.int .i64) ow])::σ) (fun r σ'=>∃ls:List (List Int),r=.ai (.slice (.int .i64)) ls∧σ'=(bx,[.ai (.int .i64) ow])::σ∧ls=nh k ow al):=by
 refine Ys ?_
 refine aA Tryz.func218 ?_
 refine aU ?_
 intro bo
 refine .dM (.pull [1] (.refl _)) ?_
 refine cj (S:=Nat×List jR) (fun s=>[(2,.fn (.func 219) [] [.ptr bx 0]),(7,.ae bo 0 k 1),(12,.ai (.int .i64) al),(13,.int .i64 al.length),(14,.int .i64 s.1)]) (fun s=>(bx,[.ai (.int .i64) ow])::(bo,jZ s.2)::(lC s.2++σ)) (fun s=>s.1≤al.length∧(∀r∈s.2,zk r)∧kQ s.2=nh k ow (al.take s.1)) (fun s=>al.length-s.1) (0,List.replicate k (.aj,[],[])) ⟨⟨bK _,fun r hr=>.inl (by rw[yC hr];exact⟨rfl,rfl,rfl⟩),?_⟩,⟨rfl,rfl,rfl,rfl,rfl,trivial⟩,?_⟩ ?_
 ·refine Aa fun i=>?_
  show (kQ (List.replicate k (.aj,[],[])))[i]?=_
  unfold kQ
  rw[eU,uT]
  rcases go2 i k with hi | hi
  ·rw[ag hi,CN hi];rfl
  ·rw[ah (by omega),uS (by rw[yI];exact hi)];rfl
 ·show _=(bx,[AV.ai (.int .i64) ow])::(bo,jZ (List.replicate k (.aj,[],[])))::(lC (List.replicate k (.aj,[],[]))++σ)
  rw[← abr,ZM];rfl
 rintro⟨j,rs⟩ g ⟨mS,ho0,Fu⟩
 have hj:j≤al.length:=mS
 have ho:∀r∈rs,zk r:=ho0
 have hL:kQ rs=nh k ow (al.take j):=Fu
 clear mS ho0 Fu
 have wF:rs.length=k:=by
  have:=congrArg List.length hL
  rw[yI]at this
  exact (cb _).symm.trans this
 refine aq (p:=(j:Int)<al.length) (fun ab=>?_) (fun ay=>?_)
 rotate_left
 ·have ay:¬(j:Int)<al.length:=ay
  rw[eZ (by omega)]at hL
  subst wF
  exact .perm ((List.Perm.cons _ nU).trans (List.Perm.swap _ _ _)) (.done ⟨bo,rs,rfl,rfl,ho,hL⟩)
 have ab:j<al.length:=by omega
 obtain⟨z,hz⟩:∃z,al[j]=z:=⟨_,rfl⟩
 have gT:=hr z (hz▸cD ab)
 have hzi:al[((j:Nat):Int).toNat]?=some z:=by rw[bU,bc ab,hz]
 have iz:al.take (j+1)=al.take j++[z]:=by rw[fQ ab,hz]
 obtain⟨w,hw⟩:∃w:Nat,ow.getD z.toNat 0=(w:Int):=⟨(ow.getD z.toNat 0).toNat,by have:=jC z.toNat (by omega);omega⟩
 have rQ:w<k:=by have:=jC z.toNat (by omega);omega
 have hzw:ow[z.toNat]?=some (w:Int):=by rw[← hw,aR,bc (by omega)];rfl
 obtain⟨A,r,B,rfl,hA⟩:∃A r B,rs=A++r::B∧w=A.length:=⟨rs.take w,rs[w]'(by omega),rs.drop (w+1),by simp,by rw[List.length_take];omega⟩
 obtain⟨c,acc,rl⟩:=r
 have hAw:((w:Nat):Int)=A.length:=by rw[hA]
 rw[K0]
 have OJ:=abm A (c,acc,rl) B hAw
 have kH:=fun r2=>ZK A (c,acc,rl) r2 B hAw
 have NG:(nh k ow (al.take j))[w]?=some rl:=by rw[← hL,hA];exact abl A (c,acc,rl) B
 have jk:=XR hw NG
 rw[← iz]at jk
 generalize hC:jZ (A++(c,acc,rl)::B)=C at OJ kH
 have mN:zk (c,acc,rl):=ho _ (jF _ (bV ..))
 have hCl:C.length=k:=by rw[← hC,ZL];exact wF
 have hrb:rl.length≤100000:=by
  rw[CN rQ]at NG
  rw[← Option.some.inj NG]
  exact fy (Cp _ _) (by rw[sb];omega)
 have hY:∀v' bN,Acc 1 (rl.length+1) v' bN (ak rl++[.int .i64 z])→j+1≤al.length∧(∀r∈A++(.via v',bN,rl++[z])::B,zk r)∧kQ (A++(.via v',bN,rl++[z])::B)=nh k ow (al.take (j+1)):=fun v' bN h'=>by
  have uD:(rl++[z]:List Int).length=rl.length+1:=bG
  refine⟨ab,fun r hr=>?_,?_⟩
  ·rcases bP.1 hr with hr | hr
   ·exact ho r (gJ _ hr)
   ·rcases da.1 hr with rfl | hr
    ·refine .inr ⟨v',rfl,?_⟩
     show Acc 1 (rl++[z]:List Int).length v' bN (ak (rl++[z]))
     rw[uD,show ak (rl++[z])=ak rl++[.int .i64 z] from cM]
     exact h'
    ·exact ho r (jF _ (cE _ hr))
  ·rw[jk,← hL,hA];exact ZJ A (c,acc,rl) (.via v',bN,rl++[z]) B
 refine aH.mk rfl (cg.mk z (by omega) hzi ?_)
 refine aB [] (VB bx ow z w _ gT.1 hzw) ?_
 refine aB [] (VB bx ow z w _ gT.1 hzw) ?_
 refine aK ?_
 rcases mN with ⟨q1,q2,q3⟩ | ⟨v,q1,q2⟩
 ·have q1:c=.aj:=q1
  have q2:acc=[]:=q2
  have q3:rl=[]:=q3
  subst q1
  subst q2
  subst q3
  refine aT 1 rfl (iY rfl OJ) ?_
  intro aG
  refine my ((aG,[.int .i64 z])::(bx,[.ai (.int .i64) ow])::(bo,C)::lC A) (Acc.nil (e:=1)) (.ae 0 aG 0 1 _ rfl (cT rfl)) rfl (by omega) (by decide) (by decide) (fun v' bN h'=>?_)
  refine aK ?_
  refine cU 2 rfl ((tD rfl rfl (by omega)).trans (congrArg some (kH (.via v',bN,[]++[z])))) ?_
  exact aZ (j+1,A++(.via v',bN,[]++[z])::B) (by show al.length-(j+1)<al.length-j;omega) (hY v' bN h') ⟨rfl,rfl,rfl,rfl,bu (by omega),trivial⟩ (.drop 0 1 (aJ (by rw[K0];rfl)))
 ·have q1:c=.via v:=q1
  have q2:Acc 1 rl.length v acc (ak rl):=q2
  subst q1
  refine aT 1 rfl (iY rfl OJ) ?_
  intro aG
  refine my (k:=rl.length) (n:=1) ((aG,[.int .i64 z])::(bx,[.ai (.int .i64) ow])::(bo,C)::lC A) q2 (.ae 0 aG 0 1 _ rfl (cT rfl)) rfl (by omega) (by decide) (by decide) (fun v' bN h'=>?_)
  refine aK ?_
  refine cU 2 rfl ((tD rfl rfl (by omega)).trans (congrArg some (kH (.via v',bN,rl++[z])))) ?_
  exact aZ (j+1,A++(.via v',bN,rl++[z])::B) (by show al.length-(j+1)<al.length-j;omega) (hY v' bN h') ⟨rfl,rfl,rfl,rfl,bu (by omega),trivial⟩ (.drop 0 1 (aJ (by rw[K0];rfl)))
theorem RA{k:Nat}{x:Int}(hx:0≤x∧x<(k:Int)):∀(p o:List Int),(∀i:Nat,i<o.length→0≤o.getD i 0∧o.getD i 0<(k:Int))→∀i:Nat,i<o.length→0≤(sN x p o).getD i 0∧(sN x p o).getD i 0<(k:Int)
 | [],_,h=>h
 |a::p,o,h=>by
  have ih:=RA hx p (o.set a.toNat x) fun i hi=>by
   rw[ck]at hi
   rw[aR,dY]
   by_cases e:a.toNat=i
   ·subst e;rw[ag rfl,ag hi];exact hx
   ·rw[ah e,← aR];exact h i hi
  rw[ck]at ih
  exact ih
theorem Rz{n k:Nat}{Q:List (List Int)}(hk:1≤k)(aO:∀p∈Q,p≠[])(gG:Q.flatten.length≤n):∀j,j≤Q.length→∀i:Nat,i<n→0≤(rN n k Q j).getD i 0∧(rN n k Q j).getD i 0<(k:Int)
 | 0,_,i,hi=>by
  show 0≤(List.replicate n (0:Int)).getD i 0∧(List.replicate n (0:Int)).getD i 0<(k:Int)
  rw[aR,uT,ag hi]
  show (0:Int)≤0∧(0:Int)<k
  omega
 |j+1,hj,i,hi=>by
  have ih:=Rz hk aO gG j (by omega)
  have ab:j<Q.length:=hj
  have uA:=mm.2 (aO _ (cD ab))
  have h1:=Qv Q (j+1)
  rw[List.take_succ_eq_append_getElem ab,List.flatten_append,List.length_append,show [Q[j]].flatten=Q[j] by simp]at h1
  have ha:(Q.take j).flatten.length<n:=by omega
  have hx:k*(Q.take j).flatten.length / n<k:=by
   refine Nat.div_lt_of_lt_mul ?_
   rw[uO n k]
   exact Nat.mul_lt_mul_of_pos_left ha (by omega)
  have hl:=Ar n k Q j
  refine RA (k:=k) ⟨FP _,Int.ofNat_lt.2 hx⟩ _ _ (fun i hi=>ih i (by omega)) i (by omega)
theorem YM{n k:Nat}{l:List bg}(hk:1≤k)(aO:∀p∈kd n l,p≠[])(gG:(kd n l).flatten.length≤n):∀i:Nat,i<n→0≤(nu n k l).getD i 0∧(nu n k l).getD i 0<(k:Int):=Rz hk aO gG _ (aM _)
def Bs(n k:Nat)(l:List bg)(fr:List Int):List (List Int):=nh k (nu n k l) (nD n l fr).reverse
theorem ag4(n:Nat)(l:List bg)(fr:List Int)(k:Nat)(σ:Hp)(hl:l.length≤100000)(hf:fr.length≤100000)(dW:fu n l=true)(uF:∀x∈fr,0≤x∧x<(n:Int))(h1:1≤k)(h2:k≤64):ACalls Tryz.prog 160 [.int .i64 n,.ai dG l,.ai (.int .i64) fr,.int .i64 k] σ (fun r σ'=>r=.tup [.ai (.slice (.int .i64)) (Bs n k l fr),.int .i64 0]∧σ'=σ∧ka n (nD n l fr)∧(∀i:Nat,i<n→0≤(nu n k l).getD i 0∧(nu n k l).getD i 0<(k:Int))∧ka n (kd n l).flatten∧ka n (qm n l fr)):=by
 have hn:1≤n∧n≤256:=by
  unfold fu at dW
  simp only[bL,decide_eq_true_eq]at dW
  omega
 refine aA Tryz.func160 ?_
 refine aB [] (W3 k _ h1 h2) ?_
 refine .mk [] _ (aeS n l fr _ hl hf dW uF) ?_
 rintro _ _ ⟨ba,rfl,rfl,hA,aO,gG,E7⟩
 have jC:=YM (k:=k) h1 aO (z7 gG.len)
 refine aB [] (aeR n l k _ hl dW h1 h2) ?_
 intro bx
 refine an 0 ?_
 have hlen:=hA.len
 unfold Bs
 have nP:(nu n k l).length=n:=Ar n k _ _
 generalize nu n k l=ow at jC nP
 generalize nD n l fr=L at hA hlen
 refine aB [1] (acW ba L _ _ rfl (by omega)) ?_
 refine .cI (args':=[.ai (.int .i64) L.reverse,.int .i64 k,.fn (.func 219) [] [.ptr bx 0]]) 0 ba 0 L.length 1 _ (.int .i64) L.reverse rfl (by rw[iB,eZ (by rw[mw,tb,eo];exact aM _)];exact xn _) ⟨tb,rfl,by decide⟩ (eH .here (.refl _)) ?_
 refine .mk [] _ (agf n k bx ow L.reverse _ h1 h2 (by rw[tb];omega) (fun x hx=>hA.rg x (wP.1 hx)) nP jC) ?_
 rintro _ _ ⟨ls,rfl,rfl,rfl⟩
 exact .drop 0 1 (.done ⟨rfl,rfl,hA,jC,gG,E7⟩)
def oz(b:Nat)(a ws:List Int):Nat→List Int
 | 0=>ws
 |i+1=>(oz b a ws i).set (b+i) (wd a i)
theorem Ky(b:Nat)(a ws:List Int)(k:Nat):(oz b a ws k).length=ws.length:=by
 induction k with
 |zero=>rfl
 |succ k ih=>rw[oz,ck,ih]
theorem Rw{b:Nat}{a ws:List Int}:∀(k:Nat),b+k≤1000000000→Bt (b:Int) a ws k=oz b a ws k
 | 0,_=>rfl
 |k+1,h=>by
  rw[Bt,oz,Rw k (by omega),show wr ((b:Int)+(k:Int))=((b+k:Nat):Int) from (iC (by omega) (by omega)).trans (p8 b k).symm]
  exact lq _
def nm(N W:Nat)(st:Nat→List Int)(ws:List Int):Nat→List Int
 | 0=>ws
 |v+1=>(oz (v*W) (st v) (nm N W st ws v) W).set (N*W+v) 1
theorem Ak(N W:Nat)(st:Nat→List Int)(ws:List Int)(k:Nat):(nm N W st ws k).length=ws.length:=by
 induction k with
 |zero=>rfl
 |succ k ih=>rw[nm,ck,Ky,ih]
def kj(b r:Nat)(x ws:List Int):Nat→List Int
 | 0=>ws
 |i+1=>(kj b r x ws i).set (b+2+(1+i) % r) (x.getD i 0)
theorem QZ(b r:Nat)(x ws:List Int)(k:Nat):(kj b r x ws k).length=ws.length:=by
 induction k with
 |zero=>rfl
 |succ k ih=>rw[kj,ck,ih]
theorem UF(b r:Nat)(x ws:List Int)(y:Int):∀k,kj b r x (ws.set (b+1) y) k=(kj b r x ws k).set (b+1) y
 | 0=>rfl
 |k+1=>by rw[kj,kj,UF b r x ws y k,List.set_comm _ _ (by omega)]
def nY(b r:Nat)(x ws:List Int):List Int:=kj b r x ((ws.set b 1).set (b+1) ((1+x.length:Nat):Int)) x.length
theorem Y8(b r:Nat)(x ws:List Int):(nY b r x ws).length=ws.length:=by rw[nY,QZ,ck,ck]
theorem acw(b r:Nat)(x ws:List Int):(kj b r x ((ws.set b 1).set (b+1) 1) x.length).set (b+1) ((1+x.length:Nat):Int)=nY b r x ws:=by
 rw[← UF,List.set_set];rfl
def kU(b0 d r:Nat)(ls:List (List Int))(ws:List Int):Nat→List Int
 | 0=>ws
 |w+1=>nY (b0+w*d) r (ls.getD w []) (kU b0 d r ls ws w)
theorem Qh(b0 d r:Nat)(ls:List (List Int))(ws:List Int)(k:Nat):(kU b0 d r ls ws k).length=ws.length:=by
 induction k with
 |zero=>rfl
 |succ k ih=>rw[kU,Y8,ih]
def zq(N W:Nat)(st:Nat→List Int)(ls:List (List Int))(ws:List Int):List Int:=
 kU (N*W+N+1) (N+3) (N+1) ls ((nm N W st ws N).set (N*W+N) (N:Int)) ls.length
theorem XD(N W:Nat)(st:Nat→List Int)(ls:List (List Int))(ws:List Int):(zq N W st ls ws).length=ws.length:=by rw[zq,Qh,ck,Ak]
theorem A1(x:List Int)(i a:Nat)(z:Int)(hi:i<x.length):(x.set i z).getD a 0=if a=i then z else x.getD a 0:=by
 rw[aR,aR,dY]
 by_cases h:a=i
 ·subst h;rw[ag rfl,ag hi,ag rfl];rfl
 ·rw[ah (fun e=>h e.symm),ah h]
theorem ra(x:List Int)(i a:Nat)(z:Int)(h:a≠i):(x.set i z).getD a 0=x.getD a 0:=by
 rw[aR,aR,dY,ah (fun e=>h e.symm)]
theorem Sx{b:Nat}{l ws:List Int}{a:Nat}:∀k,b+k≤a→(oz b l ws k).getD a 0=ws.getD a 0
 | 0,_=>rfl
 |k+1,h=>by rw[oz,ra _ _ _ _ (by omega)];exact Sx k (by omega)
set_option maxHeartbeats 4000000
def pG(s:Sy)(l:Lay):List (List Int):=Bs (nN s) l.k.toNat s.aL s.entry
def Bh(s:Sy)(l:Lay)(ws:List Int):List Int:=zq (nN s) (nW l) (fun v=>ik s v) (pG s l) ws
theorem abp{s:Sy}(hg:Good s):fu s.n s.aL=true:=by
 unfold fu
 have h1:=hg.n1
 have h2:=hg.n2
 have h3:=hg.el
 simp only[bL,decide_eq_true_eq,fp]
 exact⟨⟨⟨h1,h2⟩,h3⟩,fun e he=>⟨kM.2 (hg.vW e he).1,kM.2 (hg.vW e he).2⟩⟩
theorem P6(s:Sy)(l:Lay):(pG s l).length=l.k.toNat:=yI _ _ _
theorem Yt{f:FuncId}{xs:List AV}{σ kb σ2:Hp}{x:AV}(h:ACalls Tryz.prog f xs σ (aE x kb))(e:kb=σ2):ACalls Tryz.prog f xs σ (aE x σ2):=e▸h
theorem aao{s:Sy}{l:Lay}(hs:LS s l){v:Nat}(hv:v<nN s)(us x:List Int):gZ (Bt (aS l v) x us (cw l.words)) (wr (cP l+(v:Nat))) 1=(oz (v*nW l) x us (nW l)).set (nN s*nW l+v) 1:=by
 have h1:=hs.nn
 have h2:=hs.ww
 have h3:=sx h1.2.2 h2.2
 have h4:(v+1)*nW l≤nN s*nW l:=iR _ hv
 rw[lR]at h4
 rw[hs.Wd hv,hs.Bg hv,Rw _ (by show _+nW l≤_;omega)]
 exact lq _
theorem Y6{s:Sy}{l:Lay}(hs:LS s l)(us:List Int):gZ us (dr l) (wu s.n)=us.set (nN s*nW l+nN s) (nN s:Int):=by
 have h1:=hs.nn
 rw[hs.count,lq,show wu s.n=(nN s:Int) by show IntKind.u64.wrap s.n=_;rw[IntKind.wrap_u64];omega]
theorem Y4{a:Nat}(ha:a≤1000000)(us:List Int):gZ (gZ us (a:Int) 1) (gF (a:Int)) 1=(us.set a 1).set (a+1) 1:=by
 rw[lq,show gF (a:Int)=((a+1:Nat):Int) from (iC (by omega) (by omega)).trans (p8 a 1).symm,lq]
theorem Y5{s:Sy}{l:Lay}(hs:LS s l){a i:Nat}(ha:a≤1000000)(hi:i≤1000000):wr (wr ((a:Int)+2)+(wr (1+(i:Int))).tmod (eu l))=((a+2+(1+i) % (nN s+1):Nat):Int):=by
 have h1:=hs.nn
 have hm:=mW (1+i) (show 0<nN s+1 by omega)
 rw[iC (z:=(a:Int)+2) (by omega) (by omega),iC (z:=1+(i:Int)) (by omega) (by omega),hs.room.1,show (1+(i:Int)).tmod ((nN s+1:Nat):Int)=(((1+i) % (nN s+1):Nat):Int) by rw[show (1+(i:Int))=((1+i:Nat):Int) by omega];rfl]
 rw[iC (by omega) (by omega)]
 omega
theorem aan{a r:Nat}(ha:a≤1000000)(x us:List Int)(hx:x.length≤1000000):gZ (kj a r x ((us.set a 1).set (a+1) 1) x.length) (wr ((a:Int)+1)) (wu (wr (1+(x.length:Int))))=nY a r x us:=by
 rw[iC (z:=(a:Int)+1) (by omega) (by omega),iC (z:=1+(x.length:Int)) (by omega) (by omega),show wu (1+(x.length:Int))=((1+x.length:Nat):Int) by show IntKind.u64.wrap _=_;rw[IntKind.wrap_u64];omega,show (a:Int)+1=((a+1:Nat):Int) by omega,lq]
 exact acw _ _ _ _
theorem aam{us:List Int}{b:Nat}{z:Int}(hz:0≤z)(gh:z≤1000000):gZ us (b:Int) (wu z)=us.set b z:=by
 rw[lq,show wu z=z by show IntKind.u64.wrap _=_;rw[IntKind.wrap_u64];omega]
structure kp(s:Sy)(l:Lay):Prop where
 all:ka (nN s) (nD (nN s) s.aL s.entry)
 own:∀i:Nat,i<nN s→0≤(nu (nN s) l.k.toNat s.aL).getD i 0∧(nu (nN s) l.k.toNat s.aL).getD i 0<(l.k.toNat:Int)
 flat:ka (nN s) (kd (nN s) s.aL).flatten
 post:ka (nN s) (qm (nN s) s.aL s.entry)
theorem kp.rows{s:Sy}{l:Lay}(h:kp s l)(hn:nN s≤256):∀x∈pG s l,x.length≤256∧∀z∈x,0≤z∧z<(nN s:Int):=by
 intro x hx
 unfold pG Bs nh at hx
 obtain⟨u,_,rfl⟩:=cY.1 hx
 have hlen:=Cp (fun y=>decide ((nu (nN s) l.k.toNat s.aL).getD y.toNat 0=(u:Int))) (nD (nN s) s.aL s.entry).reverse
 rw[tb]at hlen
 have:=h.all.len
 exact⟨by omega,fun z hz=>h.all.rg z (wP.1 (ki.1 hz).1)⟩
theorem aeL(s:Sy)(l:Lay)(k:Nat)(σ:Hp)(hf:Fit s)(hg:Good s)(hk:l.k=k)(h1:1≤k)(h2:k≤64):ACalls Tryz.prog 160 [.int .i64 s.n,.ai dG s.aL,.ai (.int .i64) s.entry,.int .i64 k] σ (fun r σ'=>r=.tup [.ai (.slice (.int .i64)) (pG s l),.int .i64 0]∧σ'=σ∧kp s l):=by
 have hn:s.n=(nN s:Int):=by have:=hg.n1;unfold nN;omega
 have hr:=abp hg
 have he:=hg.ent
 have ef:k=l.k.toNat:=by omega
 subst ef
 unfold pG
 rw[hn]at hr he ⊢
 refine (ag4 (nN s) s.aL s.entry l.k.toNat σ hf.x5 hf.Ek hr he h1 h2).mono ?_
 rintro _ _ ⟨rfl,rfl,hA,jC,gG,E7⟩
 exact⟨rfl,rfl,hA,jC,gG,E7⟩
theorem aeZ(s:Sy)(k:Nat)(p q:Nat)(ws:List Int)(σ:Hp)(hf:Fit s)(he:cx s k=0)(eD:nF (iI s k)≤ws.length):ACalls Tryz.prog 97 [mK p,.agg (cd s),.int .i64 k] (ca p q ws σ) (fun r σ'=>r=.int .i64 0∧σ'=ca p q (Bh s (iI s k) ws) σ∧kp s (iI s k)):=by
 obtain⟨hs,Ft⟩:=A9 hf he
 obtain⟨BO,gh,mh⟩:=hs.size
 obtain⟨hc,kF,ef⟩:=Lw he
 have hg:=Mj hc
 have hn:=hs.nn
 have hw:=hs.ww
 have ff:=hs.low
 have hN:=hs.n
 refine aA Tryz.func97 ?_
 obtain⟨l,hl⟩:∃l,iI s k=l:=⟨_,rfl⟩
 have e1:AV.tup [.agg (gP (iI s k)),.int .i64 (cx s k)]=.tup [.agg (gP l),.int .i64 (cx s k)]:=by rw[hl]
 rw[hl]at hs Ft BO gh mh hw ff hN eD ⊢
 generalize hE:cx s k=E at e1 he
 intro b4
 refine aa 0 ?_
 refine aB [] (vf (MR s k _ hf) (hE▸e1)) ?_
 intro b7
 refine an 0 ?_
 refine eG (fun c3=>?_) (fun c3=>?_)
 ·have c3:¬(cx s (↑k:Int)=0):=by simpa using c3
  exact absurd (hE.trans he) c3
 refine aB [] (dO _ _ _) ?_
 refine .sched [1,3] (upto [1,3] 5 0) (by kernel_rfl) ?_
 refine⟨_,mLen_,?_⟩
 refine aI [3,3] (W4 p q ws _) ?_
 refine aa 0 ?_
 refine aI [] (VD _ _) ?_
 refine aq (p:=(ws.length:Int)<iT l l.k) (fun c4=>?_) (fun c4=>?_)
 ·omega
 refine aa 1 ?_
 refine cj (S:=Nat) (fun v=>[(0,mK p),(2,.int .i64 k),(4,.ptr b4 0),(7,.ptr b7 0),(36,.int .i64 s.n),(37,.int .i64 v)]) (fun v=>(b7,gP l)::(b4,cd s)::ca p q (nm (nN s) (nW l) (fun v=>ik s v) ws v) σ) (fun v=>v≤nN s) (fun v=>nN s-v) 0 ⟨bK _,⟨rfl,rfl,rfl,rfl,rfl,rfl,trivial⟩,rfl⟩ ?_
 intro v g oP
 have hv:v≤nN s:=oP
 clear oP
 have sR:=Ak (nN s) (nW l) (fun v=>ik s v) ws v
 refine aq (p:=(v:Int)<s.n) (fun ab=>?_) (fun ay=>?_)
 ·have ab:v<nN s:=by omega
  have qp:iZ s v=0:=(GK hc ⟨by omega,by omega⟩).symm
  refine aa 1 ?_
  refine aB [] (aaQ s v _ hf) ?_
  rw[Dm qp]
  refine aa 0 ?_
  refine aB [] (H0 l v _) ?_
  refine aB [3,3] (aim p q _ _ _ _ _ _) ?_
  refine .sched [2] (upto [2] 10 0) (by kernel_rfl) ?_
  refine aa 2 ?_
  refine aI [] (Ms l _) ?_
  refine fj.mk hStore_ ?_
  refine⟨_,mStore_,?_⟩
  refine aB [] (aStore p q _ _ _ _) ?_
  exact aZ (v+1) (by show nN s-(v+1)<nN s-v;omega) ab ⟨rfl,rfl,rfl,rfl,rfl,bu (by omega),trivial⟩ (.pull [3,3] (aJ (congrArg (fun z=>_::_::ca p q z σ) (aao hs ab _ _))))
 have ay:v=nN s:=by omega
 subst ay
 obtain⟨us,gi⟩:∃us,nm (nN s) (nW l) (fun v=>ik s v) ws (nN s)=us:=⟨_,rfl⟩
 rw[gi]at sR ⊢
 refine .sched [2] (upto [2] 11 0) (by kernel_rfl) ?_
 refine aa 0 ?_
 refine aI [] (Ms l _) ?_
 refine aa 1 ?_
 refine fj.mk hStore_ ?_
 refine⟨_,mStore_,?_⟩
 refine aB [3,3] (aStore p q _ _ _ _) ?_
 refine aa 3 ?_
 refine aa 3 ?_
 refine aa 3 ?_
 refine .mk [] _ (aeL s l k _ hf hg Ft (by omega) (by omega)) ?_
 rintro _ τ ⟨rfl,Og,bF⟩
 subst τ
 have hx:=bF.rows hn.2.2
 have cH:=P6 s l
 have xX:Bh s l ws=kU (nN s*nW l+nN s+1) (nN s+3) (nN s+1) (pG s l) ((nm (nN s) (nW l) (fun v=>ik s v) ws (nN s)).set (nN s*nW l+nN s) (nN s:Int)) (pG s l).length:=rfl
 rw[gi]at xX
 generalize pG s l=ls at hx cH xX
 refine cj (S:=Nat) (fun w=>[(0,mK p),(7,.ptr b7 0),(85,.ai (.slice (.int .i64)) ls),(86,.int .i64 ls.length),(87,.int .i64 w)]) (fun w=>ca p q (kU (nN s*nW l+nN s+1) (nN s+3) (nN s+1) ls (us.set (nN s*nW l+nN s) (nN s:Int)) w) ((b7,gP l)::(b4,cd s)::σ)) (fun w=>w≤ls.length) (fun w=>ls.length-w) 0 ⟨bK _,⟨rfl,rfl,rfl,rfl,rfl,trivial⟩,congrArg (fun z=>ca p q z _) (Y6 hs us)⟩ ?_
 intro w g2 E1
 have IB:w≤ls.length:=E1
 clear E1
 refine aq (p:=(w:Int)<(ls.length:Int)) (fun ab=>?_) (fun ay=>?_)
 rotate_left
 ·have ay:w=ls.length:=by omega
  subst ay
  rw[xX]
  exact .drop 2 2 (.done ⟨rfl,rfl,bF⟩)
 have ab:w<ls.length:=by omega
 obtain⟨x,ic⟩:∃x:List Int,ls[w]=x:=⟨_,rfl⟩
 obtain⟨Om,hxz⟩:=hx _ (cD ab)
 rw[ic]at Om hxz
 have hxd:ls.getD w []=x:=by rw[aR,bc ab,ic];rfl
 have Fi:=hs.xR (k:=w) (by omega)
 have cy:kU (nN s*nW l+nN s+1) (nN s+3) (nN s+1) ls (us.set (nN s*nW l+nN s) (nN s:Int)) (w+1)=nY (nN s*nW l+nN s+1+w*(nN s+3)) (nN s+1) x (kU (nN s*nW l+nN s+1) (nN s+3) (nN s+1) ls (us.set (nN s*nW l+nN s) (nN s:Int)) w):=by rw[kU,hxd]
 have uH:nN s*nW l+nN s+1+w*(nN s+3)≤1000000:=by
  have h3:=sx hn.2.2 hw.2
  have h4:w*(nN s+3)≤64*259:=jm (by omega) (by omega)
  omega
 refine aH.mk rfl (cg.mk x (by omega) ((get_some ab).trans (congrArg some ic)) ?_)
 refine aa 2 ?_
 refine aB [] (vf (DA l w _) (congrArg (fun z=>AV.agg [.int .i64 z,.int .i64 (eu l)]) Fi)) ?_
 generalize nN s*nW l+nN s+1+w*(nN s+3)=a at Fi cy uH
 generalize kU (nN s*nW l+nN s+1) (nN s+3) (nN s+1) ls (us.set (nN s*nW l+nN s) (nN s:Int)) w=vs at cy
 intro b16
 refine an 0 ?_
 refine aa 0 ?_
 refine aB [2,2] (Yt (aeP p q vs a (eu l) _) (congrArg (fun z=>ca p q z _) (Y4 uH vs))) ?_
 refine cj (S:=Nat) (fun i=>[(0,mK p),(7,.ptr b7 0),(15,.ai (.int .i64) x),(16,.ptr b16 0),(85,.ai (.slice (.int .i64)) ls),(86,.int .i64 ls.length),(87,.int .i64 w),(98,.ai (.int .i64) x),(99,.int .i64 x.length),(100,.int .i64 i)]) (fun i=>ca p q (kj a (nN s+1) x ((vs.set a 1).set (a+1) 1) i) ((b16,[.int .i64 a,.int .i64 (eu l)])::(b7,gP l)::(b4,cd s)::σ)) (fun i=>i≤x.length) (fun i=>x.length-i) 0 ⟨bK _,⟨rfl,rfl,rfl,rfl,rfl,rfl,rfl,rfl,rfl,rfl,trivial⟩,rfl⟩ ?_
 intro i g3 fi
 have hi:i≤x.length:=fi
 clear fi
 refine aq (p:=(i:Int)<(x.length:Int)) (fun fG=>?_) (fun pN=>?_)
 ·have fG:i<x.length:=by omega
  obtain⟨z,hz⟩:∃z,x[i]=z:=⟨_,rfl⟩
  have ib:=hxz z (hz▸cD fG)
  have hzd:x.getD i 0=z:=by rw[aR,bc fG,hz];rfl
  have WK:kj a (nN s+1) x ((vs.set a 1).set (a+1) 1) (i+1)=(kj a (nN s+1) x ((vs.set a 1).set (a+1) 1) i).set (a+2+(1+i) % (nN s+1)) z:=by rw[kj,hzd]
  have sW:=Y5 hs (i:=i) uH (by omega)
  generalize kj a (nN s+1) x ((vs.set a 1).set (a+1) 1) i=ys at WK
  have ao:gZ ys (wr (wr ((a:Int)+2)+(wr (1+(i:Int))).tmod (eu l))) (wu z)=kj a (nN s+1) x ((vs.set a 1).set (a+1) 1) (i+1):=by
   rw[sW,aam (by omega) (by omega),WK]
  refine aH.mk rfl (cg.mk z (by omega) ((get_some fG).trans (congrArg some hz)) ?_)
  refine .sched [7] (upto [7] 16 0) (by kernel_rfl) ?_
  refine aa 2 ?_
  refine aa 3 ?_
  refine aI [] (MS l _) ?_
  refine aH.mk (by rw[hs.room.1];omega) ?_
  refine fj.mk hStore_ ?_
  refine⟨_,mStore_,?_⟩
  refine aB [] (aStore p q _ _ _ _) ?_
  exact aZ (i+1) (by show x.length-(i+1)<x.length-i;omega) fG ⟨rfl,rfl,rfl,rfl,rfl,rfl,rfl,rfl,rfl,bu (by omega),trivial⟩ (aJ (congrArg (fun z=>ca p q z _) ao))
 have pN:i=x.length:=by omega
 subst pN
 refine aa 2 ?_
 refine⟨_,mStore_,?_⟩
 refine aB [] (aStore p q _ _ _ _) ?_
 exact aZ (w+1) (by show ls.length-(w+1)<ls.length-w;omega) ab ⟨rfl,rfl,rfl,rfl,bu (by omega),trivial⟩ (.drop 2 1 (aJ (congrArg (fun z=>ca p q z _) ((aan uH x vs (by omega)).trans cy.symm))))
set_option maxHeartbeats 4000000
theorem adb{α β:Type}(rs:List α)(L:List β)(i:Nat)(x:β)(h:i<rs.length):rs.zip (L.set i x)=(rs.zip L).set i (rs[i],x):=by
 refine List.ext_getElem (by simp) fun k h1 h2=>?_
 rw[JV]
 simp only[List.getElem_zip,JV]
 split
 ·rename_i he;subst he;rfl
 ·rfl
set_option maxHeartbeats 4000000
abbrev ec:Sh:=.field (.int .i64) (.field (.int .i64) .nil)
theorem ahc(W:AWorld)(lb:Nat)(af:List (Int×Int×Unit))(s0:W.S)(σ:Hp)(hn:W.L.length≤100000)(hs:af.length≤100000)(hf:W.free (W.abs s0))(l0:∀a k,W.tell a k=a):
  ACalls Tryz.prog 101 [W.mv,.ae lb 0 W.L.length 1,.ai ec af] ((lb,W.L)::(W.B s0++σ)) (LR W af (W.abs s0) [(lb,W.L)] σ):=by
 refine aA Tryz.func101 ?_
 intro aG
 refine .perm _ (nU (a:=(aG,[.aj,.aj,.int .i64 0])) (l₁:=(lb,W.L)::W.B s0) (l₂:=σ)) (ahj W lb af s0 ((aG,[.aj,.aj,.int .i64 0])::σ) hn hs hf l0) ?_
 rintro x σ' ⟨s',h1,rfl,rfl⟩
 refine⟨_,(nU (a:=(aG,[.aj,.aj,.int .i64 0])) (l₁:=(lb,W.L)::W.B s') (l₂:=σ)).symm,?_⟩
 refine an 0 ?_
 refine aa 0 ?_
 exact .drop 0 1 (.done ⟨s',h1,rfl,rfl⟩)
theorem Wm(sv:AV)(u:Int)(dn:List Bool)(σ:Hp)(hn:dn.length≤1000000):ACalls Tryz.prog 42 [.agg [sv,.ai .bool dn,.int .i64 u]] σ (aE (.bool (dn.all id)) σ):=by
 refine aA Tryz.func42 ?_
 intro aG
 refine aa 0 ?_
 refine cj (S:=Nat) (fun s=>[(6,.ai .bool dn),(7,.int .i64 dn.length),(8,.int .i64 s)]) (fun _=>(aG,[sv,.ai .bool dn,.int .i64 u])::σ) (fun s=>s≤dn.length∧(dn.take s).all id=true) (fun s=>dn.length-s) 0 ⟨⟨bK _,rfl⟩,⟨rfl,rfl,rfl,trivial⟩,rfl⟩ ?_
 rintro k g ⟨hk,cf⟩
 refine aq (fun h=>?_) (fun h=>?_)
 ·have h:(k:Int)<dn.length:=h
  have mQ:k<dn.length:=by omega
  cases hd:dn[k] with
  |true=>
   refine aH.mk rfl (cg.mk true (by omega) ((get_some mQ).trans (congrArg some hd)) ?_)
   refine aZ (k+1) ?_ ⟨mQ,?_⟩ ⟨rfl,rfl,bu (by omega),trivial⟩ (aJ rfl)
   ·show dn.length-(k+1)<dn.length-k;omega
   ·rw[fQ mQ,Ca,cf,hd];rfl
  |false=>
   refine aH.mk rfl (cg.mk false (by omega) ((get_some mQ).trans (congrArg some hd)) ?_)
   exact .drop 0 1 (.done ⟨congrArg AV.bool (Vx mQ hd).symm,rfl⟩)
 ·have h:¬(k:Int)<dn.length:=h
  exact .drop 0 1 (.done ⟨congrArg AV.bool (by rw[← eZ (show dn.length≤k by omega)];exact cf.symm),rfl⟩)
set_option maxHeartbeats 4000000
theorem ACalls.Wo{P:Program}{f:FuncId}{xs:List AV}{σ σ2:Hp}{R R':AV→Hp→Prop}(h:ACalls P f xs σ2 R)(hp:σ2.Perm σ)(go:∀r σ',R r σ'→∃ej,ej.Perm σ'∧R' r ej):ACalls P f xs σ R':=
 Gv (.perm R hp h go)
structure WZ where
 r:Nat
 c:AV
 acc:Hp
 x:WS
 rd:zw c acc x.now
def x9(s:Sy)(l:Lay)(y:(Nat×Nat)×WZ):Hp:=WB s l y.1.1 y.1.2 y.2.r y.2.c y.2.acc y.2.x
def eA(s:Sy)(l:Lay)(I:List (Nat×Nat))(Z:List WZ):Hp:=(I.zip Z).flatMap (x9 s l)
structure WA where
 W:List WS
 ws:List Int
structure sh where
 ws:List Int
 Z:List WZ
def sh.abs(t:sh):WA:=⟨t.Z.map (·.x),t.ws⟩
def dQ(s:Sy)(l:Lay)(a:WA)(i:Nat)(d:Int):WA×Bool:=match a.W[i]? with
 |some x=>(⟨a.W.set i (dv bj s l i x d a.ws).1,(dv bj s l i x d a.ws).2.1⟩,(dv bj s l i x d a.ws).2.2)
 |none=>(a,true)
structure tV(s:Sy)(l:Lay)(a:WA):Prop where
 len:(a.W.length:Int)=l.k
 fl:pS s l a.ws
 wv:∀(i:Nat) (x:WS),a.W[i]?=some x→WV s l i x
theorem AF{s:Sy}{l:Lay}{a:WA}{i:Nat}{d:Int}{x:WS}(h:a.W[i]?=some x):dQ s l a i d=(⟨a.W.set i (dv bj s l i x d a.ws).1,(dv bj s l i x d a.ws).2.1⟩,(dv bj s l i x d a.ws).2.2):=by
 unfold dQ;rw[h]
theorem tV.step{s:Sy}{l:Lay}{a:WA}(hs:LS s l)(h:tV s l a)(i:Nat)(d:Int):tV s l (dQ s l a i d).1:=by
 cases hx:a.W[i]? with
 |none=>unfold dQ;rw[hx];exact h
 |some x=>
  rw[AF hx]
  have hi:=(bQ.1 hx).1
  have hl:=h.len
  obtain⟨h1,h2,h3⟩:=adh (d:=d) hs ⟨by omega,by omega⟩ h.fl.2 (h.wv i x hx)
  refine⟨?_,⟨h2.trans h.fl.1,h1⟩,fun j y hy=>?_⟩
  ·show ((a.W.set i _).length:Int)=l.k
   rw[ck];exact hl
  ·have hy:(a.W.set i (dv bj s l i x d a.ws).1)[j]?=some y:=hy
   rw[dY]at hy
   by_cases eQ:i=j
   ·subst eQ
    rw[ag rfl,ag hi]at hy
    cases hy
    exact h3
   ·rw[ah eQ]at hy
    exact h.wv j y hy
section
variable {s:Sy} {l:Lay} {p q:Nat} {I:List (Nat×Nat)}
theorem TG{Z:List WZ}{i:Nat}(hi:i<I.length)(hz:i<Z.length):(eA s l I Z).Perm (WB s l I[i].1 I[i].2 Z[i].r Z[i].c Z[i].acc Z[i].x++((I.zip Z).eraseIdx i).flatMap (x9 s l)):=by
 have h:i<(I.zip Z).length:=by simp;omega
 have h1:=QV (f:=x9 s l) h
 have e:(I.zip Z)[i]=(I[i],Z[i]):=by simp
 rw[e]at h1
 exact h1
theorem aaX{Z:List WZ}{i:Nat}(hi:i<I.length)(hz:i<Z.length)(y:WZ):(eA s l I (Z.set i y)).Perm (WB s l I[i].1 I[i].2 y.r y.c y.acc y.x++((I.zip Z).eraseIdx i).flatMap (x9 s l)):=by
 have h:i<(I.zip Z).length:=by simp;omega
 have h1:=aaj (f:=x9 s l) h (I[i],y)
 rw[← adb _ _ _ _ hi]at h1
 exact h1
theorem wzP{X Y:Hp}(b:Hp)(h:X.Perm (b++Y))(ws:List Int)(σ:Hp):(ca p q ws X++σ).Perm (b++ca p q ws (Y++σ)):=by
 have h1:(ca p q ws X++σ).Perm (ca p q ws (b++Y)++σ):=List.Perm.append_right σ (List.Perm.append_left [_,_] h)
 refine h1.trans ?_
 show ([(p,ur q ws.length),(q,bB ws)]++((b++Y)++σ)).Perm (b++([(p,ur q ws.length),(q,bB ws)]++(Y++σ)))
 rw[dN]
 exact nf [[(p,ur q ws.length),(q,bB ws)],b,Y] σ (a:=[0,1,2]) (b:=[1,0,2]) (by decide)
theorem ah8{t:sh}{i:Nat}{d:Int}(σ:Hp)(hs:LS s l)(hi:i<I.length)(hI:I[i].1=i)(hk:(I.length:Int)=l.k)(hf:tV s l t.abs):ACalls Tryz.prog 390 [.ptr I[i].2 0,mK p,.int .i64 d] (ca p q t.ws (eA s l I t.Z)++σ) (fun x σ'=>∃t':sh,t'.abs=(dQ s l t.abs i d).1∧x=.bool (dQ s l t.abs i d).2∧σ'=ca p q t'.ws (eA s l I t'.Z)++σ):=by
 have hz:i<t.Z.length:=by
  have h1:=hf.len
  have h2:((t.Z.map (·.x)).length:Int)=l.k:=h1
  rw[cb]at h2;omega
 have hW:t.abs.W[i]?=some t.Z[i].x:=by
  show (t.Z.map (·.x))[i]?=_
  rw[eU,bc hz];rfl
 have hB:=wzP (p:=p) (q:=q) _ (TG (s:=s) (l:=l) hi hz) t.ws σ
 have Jm:=fun (ws:List Int) (y:WZ)=>wzP (p:=p) (q:=q) _ (aaX (s:=s) (l:=l) hi hz y) ws σ
 have ye:=hf.wv i _ hW
 rw[hI]at hB Jm
 have ao:=AF (s:=s) (l:=l) (d:=d) hW
 have j7:∀(y:WZ),(t.Z.set i y).map (·.x)=t.abs.W.set i y.x:=fun y=>by show _=(t.Z.map (·.x)).set i y.x;rw[nS]
 rw[ao]
 refine (aij p q I[i].2 t.Z[i].r t.Z[i].c t.Z[i].acc s l i t.Z[i].x d t.ws (((I.zip t.Z).eraseIdx i).flatMap (x9 s l)++σ) hs.fit hf.fl.2.a64 (ye.ok hs) t.Z[i].rd (x':=(dv bj s l i t.Z[i].x d t.ws).1) (ws':=(dv bj s l i t.Z[i].x d t.ws).2.1) (b:=(dv bj s l i t.Z[i].x d t.ws).2.2) rfl).Wo hB.symm ?_
 rintro _ _ ⟨r',c',bN,nM,rfl,rfl⟩
 refine⟨_,Jm _ ⟨r',c',bN,(dv bj s l i t.Z[i].x d t.ws).1,nM⟩,⟨(dv bj s l i t.Z[i].x d t.ws).2.1,t.Z.set i ⟨r',c',bN,(dv bj s l i t.Z[i].x d t.ws).1,nM⟩⟩,?_,rfl,rfl⟩
 exact congrArg (fun z=>WA.mk z _) (j7 _)
end
theorem mWorker_ : Meth Tryz.prog 168 "Step" 390 := fun a w => by kernel_rfl
def DE(s:Sy)(l:Lay)(hs:LS s l)(p q:Nat)(I:List (Nat×Nat))(hI:∀i (h:i<I.length),I[i].1=i)(hk:(I.length:Int)=l.k):AWorld where
 A:=WA
 S:=sh
 abs:=sh.abs
 B t:=ca p q t.ws (eA s l I t.Z)
 L:=I.map fun y=>.iface 168 (.ptr y.2 0)
 mt:=94
 mp:=p
 step:=dQ s l
 tell a _:=a
 free:=tV s l
 keeps a i d h _:=h.step hs i d
 told _ _ h:=h
 mach i h:=by
  have hi:i<I.length:=by simpa using h
  refine .inr ⟨168,I[i].2,by simp,_,mWorker_,fun t d σ hf=>?_⟩
  refine (ah8 (p:=p) (q:=q) (t:=t) (d:=d) σ hs hi (hI i hi) hk hf).mono ?_
  rintro _ _ ⟨t',h1,rfl,rfl⟩
  exact⟨t',h1,rfl,rfl⟩
set_option maxHeartbeats 4000000
def vM(l:Lay)(ws:List Int)(n:Nat):List (List Int):=(List.range n).map fun v:Nat=>pP (aS l v) ws (cw l.words)
theorem Yu(bl bm p q v:Nat)(l:Lay)(ws:List Int)(τ:Hp):ACalls Tryz.prog 105 [.int .i64 v,.ptr bl 0,.ptr bm 0] ((bl,gP l)::(bm,[mK p])::ca p q ws τ) (aE (.ai (.int .u64) (pP (aS l v) ws (cw l.words))) ((bl,gP l)::(bm,[mK p])::ca p q ws τ)):=by
 refine aA Tryz.func105 ?_
 refine .quiet (by kernel_rfl) ?_
 refine aa 0 ?_
 refine aI [] (H0 l v _) ?_
 refine aa 1 ?_
 refine aI [3,3] (air p q ws _ _ _ _) ?_
 exact .done ⟨rfl,rfl⟩
theorem Q6(p q:Nat)(l:Lay)(n:Nat)(ws:List Int)(σ:Hp)(hn:l.n=n)(kD:n≤100000):ACalls Tryz.prog 43 [mK p,.agg (gP l)] (ca p q ws σ) (aE (.ai (.slice (.int .u64)) (vM l ws n)) (ca p q ws σ)):=by
 refine aA Tryz.func43 ?_
 intro bm
 intro bl
 refine aa 0 ?_
 have hE:=fun τ=>agk 105 [.ptr bl 0,.ptr bm 0] ((bl,gP l)::(bm,[mK p])::ca p q ws []) τ (fun v:Nat=>pP (aS l v) ws (cw l.words)) n kD (fun i _ τ=>Yu bl bm p q i l ws τ)
 rw[← hn]at hE
 refine aB [] (hE _) ?_
 exact .drop 0 2 (.done ⟨rfl,rfl⟩)
def dS(mv:AV)(l:Lay)(wv st dn:AV)(us:Int):List AV:=[mv,.int .i64 l.what,.int .i64 l.words,.int .i64 l.n,.int .i64 l.k,wv,st,dn,.int .i64 us]
def pW(w:Nat):AV:=.ptr w 0
def iW(w:Nat):AV:=.iface 168 (.ptr w 0)
theorem ag6(bs bp i:Nat)(s:Sy)(l:Lay)(mv wv st dn:AV)(us:Int)(τ:Hp)(hf:Fit s)(he:cx s l.k=0)(hL:iI s l.k=l)(h1:(i:Int)<l.k):ACalls Tryz.prog 99 [.int .i64 i,.ptr bs 0,.ptr bp 0] ((bs,cd s)::(bp,dS mv l wv st dn us)::τ) (fun r σ'=>∃w,r=.ptr w 0∧σ'=WB s l i w 0 .aj [] nE++((bs,cd s)::(bp,dS mv l wv st dn us)::τ)):=by
 refine aA Tryz.func99 ?_
 refine aa 0 ?_
 refine aa 1 ?_
 (refine .mk [] _ (agd s l i _ hf he hL (by omega) h1) ?_;rintro _ _ ⟨w,rfl,rfl⟩)
 exact .done ⟨w,rfl,rfl⟩
theorem ag5(bp lw i n:Nat)(L:List Nat)(l:Lay)(mv st dn:AV)(us:Int)(τ:Hp)(hl:L.length=n)(hi:i<n):ACalls Tryz.prog 103 [.int .i64 i,.ptr bp 0] ((bp,dS mv l (.ae lw 0 n 1) st dn us)::(lw,L.map pW)::τ) (aE (iW (L.getD i 0)) ((bp,dS mv l (.ae lw 0 n 1) st dn us)::(lw,L.map pW)::τ)):=by
 have hg:(L.map pW)[0+((i:Int)).toNat*1]?=some (.ptr (L.getD i 0) 0):=by
  rw[bU,eo,dK,eU,bc (by omega),aR,bc (by omega)];rfl
 refine aA Tryz.func103 ?_
 refine aa 0 ?_
 refine aK ?_
 refine aT 1 rfl (iY rfl hg) ?_
 exact .done ⟨rfl,rfl⟩
def cO(L:List Nat):List (Nat×Nat):=(List.range L.length).zip L
def jh:WZ:=⟨0,.aj,[],nE,trivial⟩
theorem C6(L:List Nat):∀i (h:i<(cO L).length),(cO L)[i].1=i:=fun i h=>by simp[cO]
theorem C5(L:List Nat):(cO L).length=L.length:=by simp[cO]
theorem ac9(L:List Nat):(cO L).map (fun y=>AV.iface 168 (.ptr y.2 0))=L.map iW:=by
 unfold cO
 have:(fun y:Nat×Nat=>AV.iface 168 (.ptr y.2 0))=iW ∘ Prod.snd:=rfl
 rw[this,← List.map_map,List.map_snd_zip (by simp)]
theorem aaW(s:Sy)(l:Lay)(L:List Nat)(w:Nat):eA s l (cO (L++[w])) (List.replicate (L++[w]).length jh)=eA s l (cO L) (List.replicate L.length jh)++WB s l L.length w 0 .aj [] nE:=by
 have e1:cO (L++[w])=cO L++[(L.length,w)]:=by
  unfold cO
  rw[List.length_append,List.length_singleton,List.range_succ,List.zip_append (by simp)];rfl
 have e2:List.replicate (L++[w]).length jh=List.replicate L.length jh++[jh]:=by
  rw[bG,se,List.replicate_succ']
 unfold eA
 rw[e1,e2,List.zip_append (by rw[fZ,C5]),tc]
 rfl
set_option maxHeartbeats 4000000
theorem im(l:List Int)(i j:Nat)(x:Int):(l.set i x).getD j 0=if i=j∧j<l.length then x else l.getD j 0:=by
 rw[aR,dY,aR]
 by_cases h:i=j
 ·subst h
  by_cases h2:i<l.length
  ·simp[h2]
  ·simp[h2]
 ·simp[h]
theorem Vc{a c m:Nat}(h1:a<c)(h2:c-a<m):¬a % m=c % m:=fun h=>by
 have h3:=Nat.sub_mod_eq_zero_of_mod_eq h.symm
 have h4:=Nat.le_of_dvd (by omega) (Nat.dvd_of_mod_eq_zero h3)
 omega
theorem pv{n:Nat}(h:n<9000000000000000000):wr (n:Int)=n:=by
 show IntKind.i64.wrap _=_
 rw[IntKind.wrap_i64];omega
theorem DR{n:Nat}(h:n<9000000000000000000):wu (n:Int)=n:=by
 show IntKind.u64.wrap _=_
 rw[IntKind.wrap_u64];omega
theorem xF{bs:Nat}(h:bs<1000000000):gF (bs:Int)=((bs+1:Nat):Int):=by
 unfold gF
 exact pv (n:=bs+1) (by omega)
theorem G2{bs:Nat}(h:bs<1000000000)(cap:Int)(i:Nat):lA (bs:Int) cap (i:Nat)=((bs+2+i % rm cap:Nat):Int):=by
 have hr:=vJ cap
 have hm:i % rm cap<rm cap:=mW _ (by omega)
 unfold lA
 rw[show ((bs:Int)+2)=((bs+2:Nat):Int) by omega,pv (by omega),← Int.natCast_emod,pv (by omega),← p8]
 exact pv (by omega)
theorem sw(ws:List Int)(a:Nat):gD ws (a:Int)=ws.getD a 0:=n5
theorem DS(ws:List Int)(a:Nat)(x:Int):gZ ws (a:Int) x=ws.set a x:=lq x
theorem HM{ws:List Int}{a:Nat}(h:a<ws.length)(o x:Int):(nA ws (a:Int) o=decide (ws.getD a 0=o))∧iX ws (a:Int) o x=if ws.getD a 0=o then ws.set a x else ws:=by
 have e:nA ws (a:Int) o=decide (ws.getD a 0=o):=by
  unfold nA
  rw[CR (by omega) (by omega),n5]
  rfl
 refine⟨e,?_⟩
 unfold iX
 rw[e,lq]
 by_cases h2:ws.getD a 0=o
 ·rw[ag h2,ag (aY h2)]
 ·rw[ah h2,b9 h2,ah Cg]
abbrev Own:Type:=Option (Bool×DQ)
def ug:Own→Nat
 |some (true,q)=>if 2≤q.at_ then 1 else 0
 |_=>0
structure DB(bs:Nat)(cap:Int)(ws:List Int)(lo T:Nat)(c:List Int):Prop where
 len:bs+2+rm cap≤ws.length
 top:ws.getD bs 0=(T:Int)
 t1:1≤T
 bot:ws.getD (bs+1) 0=((T+c.length-lo:Nat):Int)
 fits:c.length≤rm cap
 cu:∀i (h:i<c.length),ws.getD (bs+2+(T+i) % rm cap) 0=c[i]
structure Ip(bs:Nat)(cap:Int)(ws:List Int)(T:Nat)(c:List Int)(q:DQ):Prop where
 base:q.base=bs
 cp:q.cap=cap
 on:q.ended=false
 no:q.ok=false
 Ah:q.at_≤3
 b:1≤q.at_→q.b=((T+c.length:Nat):Int)
 room:2≤q.at_→c.length<rm cap
 put:q.at_=3→ws.getD (bs+2+(T+c.length) % rm cap) 0=q.n
structure zE(bs:Nat)(cap:Int)(Th:DQ→Prop)(T:Nat)(c:List Int)(q:DQ):Prop where
 base:q.base=bs
 cp:q.cap=cap
 on:q.ended=false
 Kr:q.at_≤5
 no:q.at_≤4→q.ok=false
 b:1≤q.at_→q.b=((T+c.length-1:Nat):Int)
 a3:q.at_=3→∃t:Nat,q.t=t∧t≤T∧(t<T+c.length-1→1≤c.length∧∀z,Th z→z.ended=false→2≤z.at_→z.t<((T+c.length-1:Nat):Int))
 a4:q.at_=4→q.t=q.b∧c.length≤1∧∀x∈c,x=q.x
 a5:q.at_=5→c=[]
structure ThO(bs:Nat)(cap:Int)(T:Nat)(c:List Int)(z:DQ):Prop where
 base:z.base=bs
 cp:z.cap=cap
 no:z.ok=false
 Ah:z.at_≤3
 t:1≤z.at_→∃t:Nat,z.t=t∧t≤T∧(2≤z.at_→t=T→0<c.length)∧(z.at_=3→t=T→c.head?=some z.x)
def I3(bs:Nat)(cap:Int)(ws:List Int)(Th:DQ→Prop)(T:Nat)(c:List Int):Own→Prop
 |none=>True
 |some (false,q)=>Ip bs cap ws T c q
 |some (true,q)=>zE bs cap Th T c q
structure DI(bs:Nat)(cap:Int)(ws:List Int)(own:Own)(Th:DQ→Prop)(T:Nat)(c:List Int):Prop where
 db:DB bs cap ws (ug own) T c
 ow:I3 bs cap ws Th T c own
 th:∀z,Th z→z.ended=false→ThO bs cap T c z
theorem DB.F5{bs:Nat}{cap:Int}{ws ws':List Int}{lo T:Nat}{c:List Int}(h:DB bs cap ws lo T c)(hl:ws'.length=ws.length)(he:∀a,bs≤a→a<bs+2+rm cap→ws'.getD a 0=ws.getD a 0):DB bs cap ws' lo T c:=by
 have hr:=vJ cap
 refine⟨by rw[hl];exact h.len,by rw[he _ (by omega) (by omega)];exact h.top,h.t1,by rw[he _ (by omega) (by omega)];exact h.bot,h.fits,fun i hi=>?_⟩
 have hm:(T+i) % rm cap<rm cap:=mW _ (by omega)
 rw[he _ (by omega) (by omega)]
 exact h.cu i hi
theorem DI.F5{bs:Nat}{cap:Int}{ws ws':List Int}{own:Own}{Th:DQ→Prop}{T:Nat}{c:List Int}(h:DI bs cap ws own Th T c)(hl:ws'.length=ws.length)(he:∀a,bs≤a→a<bs+2+rm cap→ws'.getD a 0=ws.getD a 0):DI bs cap ws' own Th T c:=by
 have hr:=vJ cap
 refine⟨h.db.F5 hl he,?_,h.th⟩
 have ho:=h.ow
 match own with
 |none=>trivial
 |some (false,q)=>
  have ho:Ip bs cap ws T c q:=ho
  refine⟨ho.base,ho.cp,ho.on,ho.no,ho.Ah,ho.b,ho.room,fun h3=>?_⟩
  have hm:(T+c.length) % rm cap<rm cap:=mW _ (by omega)
  rw[he _ (by omega) (by omega)]
  exact ho.put h3
 |some (true,q)=>exact ho
theorem I3.qw{bs:Nat}{cap:Int}{ws:List Int}{own:Own}{Th Ga:DQ→Prop}{T:Nat}{c:List Int}(h:I3 bs cap ws Th T c own)(hT:∀z,Ga z→z.ended=false→2≤z.at_→Th z):I3 bs cap ws Ga T c own:=by
 match own with
 |none=>trivial
 |some (false,q)=>exact h
 |some (true,q)=>
  have h:zE bs cap Th T c q:=h
  refine⟨h.base,h.cp,h.on,h.Kr,h.no,h.b,fun h3=>?_,h.a4,h.a5⟩
  obtain⟨t,h1,h2,h4⟩:=h.a3 h3
  exact⟨t,h1,h2,fun h5=>⟨(h4 h5).1,fun z h6 h7 h8=>(h4 h5).2 z (hT z h6 h7 h8) h7 h8⟩⟩
theorem DI.qw{bs:Nat}{cap:Int}{ws:List Int}{own:Own}{Th Ga:DQ→Prop}{T:Nat}{c:List Int}(h:DI bs cap ws own Th T c)(hT:∀z,Ga z→Th z):DI bs cap ws own Ga T c:=
 ⟨h.db,h.ow.qw fun z hz _ _=>hT z hz,fun z hz=>h.th z (hT z hz)⟩
theorem DI.BJ{bs:Nat}{cap:Int}{ws:List Int}{own:Own}{Th:DQ→Prop}{T:Nat}{c:List Int}(h:DI bs cap ws own Th T c){z:DQ}(h0:z.base=bs)(h1:z.cap=cap)(h2:z.ok=false)(h3:z.at_=0):DI bs cap ws own (fun x=>Th x∨x=z) T c:=by
 refine⟨h.db,h.ow.qw fun x hx _ ha=>?_,fun x hx ic=>?_⟩
 ·rcases hx with hx | rfl
  ·exact hx
  ·omega
 ·rcases hx with hx | rfl
  ·exact h.th x hx ic
  ·exact⟨h0,h1,h2,by omega,fun h4=>by omega⟩
theorem DI.push{bs:Nat}{cap:Int}{ws:List Int}{Th:DQ→Prop}{T:Nat}{c:List Int}(h:DI bs cap ws none Th T c){z:DQ}(h0:z.base=bs)(h1:z.cap=cap)(h2:z.ok=false)(h3:z.at_=0)(h4:z.ended=false):DI bs cap ws (some (false,z)) Th T c:=
 ⟨h.db,⟨h0,h1,h4,h2,by omega,fun _=>by omega,fun _=>by omega,fun _=>by omega⟩,h.th⟩
theorem DI.pop{bs:Nat}{cap:Int}{ws:List Int}{Th:DQ→Prop}{T:Nat}{c:List Int}(h:DI bs cap ws none Th T c){z:DQ}(h0:z.base=bs)(h1:z.cap=cap)(h2:z.ok=false)(h3:z.at_=0)(h4:z.ended=false):DI bs cap ws (some (true,z)) Th T c:=by
 refine⟨?_,⟨h0,h1,h4,by omega,fun _=>h2,fun _=>by omega,fun _=>by omega,fun _=>by omega,fun _=>by omega⟩,h.th⟩
 rw[show ug (some (true,z))=0 by simp[ug,h3]]
 exact h.db
theorem DB.more{bs:Nat}{cap:Int}{ws:List Int}{T:Nat}{c:List Int}(h:DB bs cap ws 0 T c){n:Int}(hf:c.length<rm cap)(hn:ws.getD (bs+2+(T+c.length) % rm cap) 0=n):DB bs cap (ws.set (bs+1) ((T+c.length+1:Nat):Int)) 0 T (c++[n]):=by
 have hr:=vJ cap
 have hl:=h.len
 refine⟨by simpa using hl,?_,h.t1,?_,by simp;omega,fun i hi=>?_⟩
 ·rw[im,ah (by omega)];exact h.top
 ·rw[im,if_pos ⟨rfl,by omega⟩];simp;omega
 ·have hm:(T+i) % rm cap<rm cap:=mW _ (by omega)
  rw[im,ah (by omega)]
  simp only[bG,se]at hi
  by_cases hic:i<c.length
  ·rw[List.getElem_append_left hic];exact h.cu i hic
  ·obtain rfl:i=c.length:=by omega
   simpa using hn
theorem adH{bs:Nat}{cap:Int}{ws ws':List Int}{q q':DQ}{e:Bool}{Th:DQ→Prop}{T:Nat}{c:List Int}(h:DI bs cap ws (some (false,q)) Th T c)(eE:bs<1000000000)(hN:T+c.length<4000000000000000000)(hs:gn bj q ws=(q',ws',e)):
  ws'.length=ws.length∧(∀a,¬(bs≤a∧a<bs+2+rm cap)→ws'.getD a 0=ws.getD a 0)∧q'.n=q.n∧q'.base=q.base∧((e=false∧DI bs cap ws' (some (false,q')) Th T c)∨(e=true∧q'.ok=false∧rm cap≤c.length∧DI bs cap ws' none Th T c)∨(e=true∧q'.ok=true∧c.length<rm cap∧DI bs cap ws' none Th T (c++[q.n]))):=by
 have hr:=vJ cap
 have ho:Ip bs cap ws T c q:=h.ow
 have fx:DB bs cap ws 0 T c:=h.db
 have hl:=fx.len
 obtain⟨base,jf,n,ok,ended,at_,b,t,x⟩:=q
 obtain⟨e1,e2,e3,e4,h3,hb,oo,uh⟩:=ho
 dsimp only at e1 e2 e3 e4 h3 hb oo uh hs
 subst e1 e2 e3 e4
 have h3:at_=0∨at_=1∨at_=2∨at_=3:=by omega
 rcases h3 with rfl | rfl | rfl | rfl
 ·simp only[gn,xF eE,sw,fx.bot]at hs
  simp at hs
  obtain⟨rfl,rfl,rfl⟩:=hs
  exact⟨rfl,fun _ _=>rfl,rfl,rfl,.inl ⟨rfl,fx,⟨rfl,rfl,rfl,rfl,by simp,fun _=>rfl,fun h=>absurd h (by simp),fun h=>absurd h (by simp)⟩,h.th⟩⟩
 ·have hb:=hb (aM _)
  subst hb
  have e1:wr (wu (((T+c.length:Nat):Int)-(T:Int)))=(c.length:Nat):=by
   rw[show ((T+c.length:Nat):Int)-(T:Int)=(c.length:Nat) by omega,DR (by omega),pv (by omega)]
  by_cases hf:rm jf≤c.length
  ·simp only[gn,sw,fx.top,e1]at hs
   simp[hf]at hs
   obtain⟨rfl,rfl,rfl⟩:=hs
   exact⟨rfl,fun _ _=>rfl,rfl,rfl,.inr (.inl ⟨rfl,rfl,hf,fx,trivial,h.th⟩)⟩
  ·simp only[gn,sw,fx.top,e1]at hs
   simp[hf]at hs
   obtain⟨rfl,rfl,rfl⟩:=hs
   exact⟨rfl,fun _ _=>rfl,rfl,rfl,.inl ⟨rfl,fx,⟨rfl,rfl,rfl,rfl,by simp,fun _=>rfl,fun _=>by omega,fun h=>absurd h (by simp)⟩,h.th⟩⟩
 ·have hb:=hb (by omega)
  have oo:=oo (aM _)
  subst hb
  have hm:(T+c.length) % rm jf<rm jf:=mW _ (by omega)
  simp only[gn,G2 eE,DS]at hs
  simp at hs
  obtain⟨rfl,rfl,rfl⟩:=hs
  have hd:DB bs jf (ws.set (bs+2+(T+c.length) % rm jf) n) 0 T c:=by
   refine⟨by simpa using hl,?_,fx.t1,?_,fx.fits,fun i hi=>?_⟩
   ·rw[im,ah (by omega)];exact fx.top
   ·rw[im,ah (by omega)];exact fx.bot
   ·have:=Vc (a:=T+i) (c:=T+c.length) (m:=rm jf) (by omega) (by omega)
    rw[im,ah (by omega)];exact fx.cu i hi
  refine⟨by simp,fun a ha=>?_,rfl,rfl,.inl ⟨rfl,hd,⟨rfl,rfl,rfl,rfl,by simp,fun _=>rfl,fun _=>oo,fun _=>?_⟩,h.th⟩⟩
  ·rw[im,ah (by omega)]
  ·rw[im,ag ⟨rfl,by omega⟩]
 ·have hb:=hb (by omega)
  have oo:=oo (by omega)
  have uh:=uh rfl
  subst hb
  have e1:wu (((T+c.length:Nat):Int)+1)=((T+c.length+1:Nat):Int):=DR (n:=T+c.length+1) (by omega)
  simp only[gn,xF eE,e1,DS]at hs
  simp only[lS,↓reduceIte,Nat.reduceEqDiff,Prod.mk.injEq]at hs
  obtain⟨rfl,rfl,rfl⟩:=hs
  refine⟨by simp,fun a ha=>?_,rfl,rfl,.inr (.inr ⟨rfl,rfl,oo,fx.more oo uh,trivial,fun z hz gh=>?_⟩)⟩
  ·rw[im,ah (by omega)]
  ·have:=h.th z hz gh
   refine⟨this.base,this.cp,this.no,this.Ah,fun h1=>?_⟩
   obtain⟨t,a1,a2,a3,a4⟩:=this.t h1
   refine⟨t,a1,a2,fun _ _=>by simp,fun h5 h6=>?_⟩
   have:=a4 h5 h6
   cases c with
   |nil=>cases this
   |cons y c=>exact this
theorem afq{bs:Nat}{cap:Int}{ws ws':List Int}{q q':DQ}{e:Bool}{Th:DQ→Prop}{T:Nat}{c:List Int}(h:DI bs cap ws (some (true,q)) Th T c)(eE:bs<1000000000)(hN:T+c.length<4000000000000000000)(hs:fq bj q ws=(q',ws',e)):
  ws'.length=ws.length∧(∀a,¬(bs≤a∧a<bs+2+rm cap)→ws'.getD a 0=ws.getD a 0)∧q'.base=q.base∧
  ((e=false∧(q.at_=5→False)∧(q'.at_=5→q'.ok=false)∧DI bs cap ws' (some (true,q')) Th T c)∨
   (e=false∧q'.at_=5∧q'.ok=true∧c=[q'.x]∧DI bs cap ws' (some (true,q')) Th (T+1) [])∨
   (e=true∧q'.ok=false∧(q.at_=5→q.ok=false)∧c=[]∧DI bs cap ws' none Th T c)∨
   (e=true∧q'.ok=true∧q.at_=3∧∃c',c=c'++[q'.n]∧DI bs cap ws' none Th T c')∨
   (e=true∧q'.ok=true∧q.at_=5∧q.ok=true∧q'.n=q.x∧c=[]∧DI bs cap ws' none Th T [])):=by
 have hr:=vJ cap
 have ho:zE bs cap Th T c q:=h.ow
 have fx:=h.db
 have hl:=fx.len
 have E2:=fx.t1
 have pO:=fx.fits
 obtain⟨base,jf,n,ok,ended,at_,b,t,x⟩:=q
 obtain⟨e1,e2,e3,h5,kg,hb,ha3,ha4,ha5⟩:=ho
 dsimp only at e1 e2 e3 h5 kg hb ha3 ha4 ha5 hs
 subst e1 e2 e3
 have h5:at_=0∨at_=1∨at_=2∨at_=3∨at_=4∨at_=5:=by omega
 have ahM:((T+c.length:Nat):Int)-1=((T+c.length-1:Nat):Int):=by omega
 have D5:wu (((T+c.length-1:Nat):Int)+1)=((T+c.length:Nat):Int):=by
  rw[show ((T+c.length-1:Nat):Int)+1=((T+c.length:Nat):Int) by omega,DR (by omega)]
 rcases h5 with rfl | rfl | rfl | rfl | rfl | rfl
 ·have kg:ok=false:=kg (by omega)
  subst kg
  have hd:DB bs jf ws 0 T c:=fx
  have hbt:=hd.bot
  have e1:wu (((T+c.length:Nat):Int)-1)=((T+c.length-1:Nat):Int):=by rw[ahM,DR (by omega)]
  simp only[fq,xF eE,sw,hbt,Nat.sub_zero,e1]at hs
  simp at hs
  obtain⟨rfl,rfl,rfl⟩:=hs
  exact⟨rfl,fun _ _=>rfl,rfl,.inl ⟨rfl,by simp,by simp,hd,⟨rfl,rfl,rfl,by simp,fun _=>rfl,fun _=>rfl,fun h=>absurd h (by simp),fun h=>absurd h (by simp),fun h=>absurd h (by simp)⟩,h.th⟩⟩
 ·have kg:ok=false:=kg (by omega)
  subst kg
  have hd:DB bs jf ws 0 T c:=fx
  have hb:=hb (aM _)
  subst hb
  simp only[fq,xF eE,DS]at hs
  simp only[lS,↓reduceIte,Nat.reduceEqDiff,Prod.mk.injEq]at hs
  simp at hs
  obtain⟨rfl,rfl,rfl⟩:=hs
  refine⟨by simp,fun a ha=>?_,rfl,.inl ⟨rfl,by simp,by simp,⟨by simpa using hl,?_,E2,?_,pO,fun i hi=>?_⟩,⟨rfl,rfl,rfl,by simp,fun _=>rfl,fun _=>rfl,fun h=>absurd h (by simp),fun h=>absurd h (by simp),fun h=>absurd h (by simp)⟩,h.th⟩⟩
  ·rw[im,ah (by omega)]
  ·rw[im,ah (by omega)];exact hd.top
  ·rw[im,ag ⟨rfl,by omega⟩];rfl
  ·have hm:(T+i) % rm jf<rm jf:=mW _ (by omega)
   rw[im,ah (by omega)];exact hd.cu i hi
 ·have kg:ok=false:=kg (by omega)
  subst kg
  have hd:DB bs jf ws 1 T c:=fx
  have hb:=hb (by omega)
  subst hb
  simp only[fq,sw,hd.top]at hs
  simp at hs
  obtain⟨rfl,rfl,rfl⟩:=hs
  refine⟨rfl,fun _ _=>rfl,rfl,.inl ⟨rfl,by simp,by simp,hd,⟨rfl,rfl,rfl,by simp,fun _=>rfl,fun _=>rfl,fun _=>⟨T,rfl,Nat.le_refl _,fun h5=>⟨by omega,fun z hz gh mh=>?_⟩⟩,fun h=>absurd h (by simp),fun h=>absurd h (by simp)⟩,h.th⟩⟩
  obtain⟨t,a1,a2,_⟩:=(h.th z hz gh).t (by omega)
  rw[a1];omega
 ·have kg:ok=false:=kg (by omega)
  subst kg
  have hd:DB bs jf ws 1 T c:=fx
  have hb:=hb (by omega)
  subst hb
  obtain⟨tt,rfl,BU,ff⟩:=ha3 rfl
  by_cases h1:T+c.length-1<tt
  ·have hc:c=[]:=iS.1 (by omega)
   subst hc
   simp only[fq,pv (n:=T+([]:List Int).length-1) (by omega),pv (n:=tt) (by omega),xF eE,DS,D5]at hs
   have h1:T-1<tt:=h1
   simp[h1]at hs
   obtain⟨rfl,rfl,rfl⟩:=hs
   refine⟨by simp,fun a ha=>?_,rfl,.inr (.inr (.inl ⟨rfl,rfl,by simp,rfl,⟨by simpa using hl,?_,E2,?_,pO,fun i hi=>absurd hi (by simp)⟩,trivial,h.th⟩))⟩
   ·rw[im,ah (by omega)]
   ·rw[im,ah (by omega)];exact hd.top
   ·rw[im,ag ⟨rfl,by omega⟩];rfl
  ·have e1:¬((T+c.length-1:Nat):Int)<(tt:Int):=by omega
   by_cases h2:tt<T+c.length-1
   ·have e2:(tt:Int)<((T+c.length-1:Nat):Int):=by omega
    simp only[fq,pv (n:=T+c.length-1) (by omega),pv (n:=tt) (by omega),ah e1,ag e2,G2 eE,sw]at hs
    simp only[lS,↓reduceIte,Nat.reduceEqDiff,Prod.mk.injEq]at hs
    obtain⟨rfl,rfl,rfl⟩:=hs
    obtain⟨gU,sS⟩:=ff h2
    have aO:c≠[]:=fun h=>by subst h;simp at gU
    have Nf:ws.getD (bs+2+(T+c.length-1) % rm jf) 0=c.getLast aO:=by
     rw[show T+c.length-1=T+(c.length-1) by omega,hd.cu (c.length-1) (by omega),List.getLast_eq_getElem]
    refine⟨rfl,fun _ _=>rfl,rfl,.inr (.inr (.inr (.inl ⟨rfl,rfl,rfl,c.dropLast,?_,⟨hl,hd.top,E2,?_,by simp;omega,fun i hi=>?_⟩,trivial,fun z hz gh=>?_⟩)))⟩
    ·dsimp only
     rw[Nf]
     exact (List.dropLast_concat_getLast aO).symm
    ·rw[hd.bot,List.length_dropLast]
     show ((T+c.length-1:Nat):Int)=((T+(c.length-1)-0:Nat):Int)
     omega
    ·rw[List.getElem_dropLast]
     exact hd.cu i (by simp at hi;omega)
    ·have iP:=h.th z hz gh
     refine⟨iP.base,iP.cp,iP.no,iP.Ah,fun mh=>?_⟩
     obtain⟨t,a1,a2,a3,a4⟩:=iP.t mh
     have hz4:2≤z.at_→(t:Int)<((T+c.length-1:Nat):Int):=fun h=>a1▸sS z hz gh h
     refine⟨t,a1,a2,fun h6 h7=>?_,fun h6 h7=>?_⟩
     ·have:=hz4 h6;simp;omega
     ·have:=hz4 (by omega)
      have h8:=a4 h6 h7
      match c,h8,gU,this,h7 with
      | [y],_,_,h9,FB=>simp at h9;omega
      |y::y2::c,h8,_,_,_=>exact h8
   ·have e2:¬(tt:Int)<((T+c.length-1:Nat):Int):=by omega
    simp only[fq,pv (n:=T+c.length-1) (by omega),pv (n:=tt) (by omega),ah e1,ah e2,G2 eE,sw]at hs
    simp only[lS,↓reduceIte,Nat.reduceEqDiff,Prod.mk.injEq]at hs
    obtain⟨rfl,rfl,rfl⟩:=hs
    refine⟨rfl,fun _ _=>rfl,rfl,.inl ⟨rfl,by simp,by simp,hd,⟨rfl,rfl,rfl,by simp,fun _=>rfl,fun _=>rfl,fun h=>absurd h (by simp),fun _=>⟨?_,by omega,fun y hy=>?_⟩,fun h=>absurd h (by simp)⟩,h.th⟩⟩
    ·show (tt:Int)=((T+c.length-1:Nat):Int);omega
    ·have ey:c.length≤1:=by omega
     match c,ey,hy with
     | [y2],_,hy=>
      have:=hd.cu 0 (by simp)
      simp at hy this
      subst hy
      show y=ws.getD (bs+2+(T+1-1) % rm jf) 0
      rw[gp7,aR]
      exact this.symm
 ·have kg:ok=false:=kg (by omega)
  subst kg
  have hd:DB bs jf ws 1 T c:=fx
  have hb:=hb (by omega)
  subst hb
  obtain⟨rfl,gU,hx⟩:=ha4 rfl
  obtain⟨k1,k2⟩:=HM (ws:=ws) (a:=bs) (by omega) ((T+c.length-1:Nat):Int) ((T+c.length:Nat):Int)
  rw[hd.top]at k1 k2
  simp only[fq,D5,k1,k2]at hs
  match c,gU with
  | [],_=>
   have h2:¬((T:Int)=((T+([]:List Int).length-1:Nat):Int)):=by simp;omega
   simp only[ah h2,b9 h2]at hs
   simp only[lS,↓reduceIte,Nat.reduceEqDiff,Prod.mk.injEq]at hs
   obtain⟨rfl,rfl,rfl⟩:=hs
   exact⟨rfl,fun _ _=>rfl,rfl,.inl ⟨rfl,by simp,fun _=>rfl,hd,⟨rfl,rfl,rfl,by simp,fun _=>rfl,fun _=>rfl,fun h=>absurd h (by simp),fun h=>absurd h (by simp),fun _=>rfl⟩,h.th⟩⟩
  | [y],_=>
   have h2:((T:Int)=((T+([y]:List Int).length-1:Nat):Int)):=by simp
   obtain rfl:y=x:=hx y (by simp)
   simp only[ag h2,aY h2]at hs
   simp only[lS,↓reduceIte,Nat.reduceEqDiff,Prod.mk.injEq]at hs
   obtain⟨rfl,rfl,rfl⟩:=hs
   refine⟨by simp,fun a ha=>?_,rfl,.inr (.inl ⟨rfl,rfl,rfl,rfl,⟨by simpa using hl,?_,by omega,?_,by simp,fun i hi=>absurd hi (by simp)⟩,⟨rfl,rfl,rfl,by simp,fun h=>absurd h (by simp),fun _=>by simp,fun h=>absurd h (by simp),fun h=>absurd h (by simp),fun _=>rfl⟩,fun z hz gh=>?_⟩)⟩
   ·rw[im,ah (by omega)]
   ·rw[im,if_pos ⟨rfl,by omega⟩];simp
   ·rw[im,if_neg (by omega),hd.bot];simp[ug]
   ·have iP:=h.th z hz gh
    refine⟨iP.base,iP.cp,iP.no,iP.Ah,fun mh=>?_⟩
    obtain⟨t,a1,a2,a3,a4⟩:=iP.t mh
    exact⟨t,a1,by omega,fun _ h=>by omega,fun _ h=>by omega⟩
 ·have hd:DB bs jf ws 1 T c:=fx
  have hb:=hb (by omega)
  have hc:=ha5 rfl
  subst hc hb
  simp only[fq,D5,xF eE,DS]at hs
  simp only[lS,↓reduceIte,Nat.reduceEqDiff,Prod.mk.injEq]at hs
  obtain⟨rfl,rfl,rfl⟩:=hs
  have mj:DI bs jf (ws.set (bs+1) ((T+([]:List Int).length:Nat):Int)) none Th T []:=by
   refine⟨⟨by simpa using hl,?_,E2,?_,by simp,fun i hi=>absurd hi (by simp)⟩,trivial,h.th⟩
   ·rw[im,ah (by omega)];exact hd.top
   ·rw[im,ag ⟨rfl,by omega⟩];rfl
  refine⟨by simp,fun a ha=>by rw[im,if_neg (by omega)],rfl,?_⟩
  cases ok with
  |true=>exact .inr (.inr (.inr (.inr ⟨rfl,rfl,rfl,rfl,rfl,rfl,mj⟩)))
  |false=>exact .inr (.inr (.inl ⟨rfl,rfl,fun _=>rfl,rfl,mj⟩))
theorem ab8{bs:Nat}{cap:Int}{ws ws':List Int}{q q':DQ}{e:Bool}{own:Own}{Th:DQ→Prop}{T:Nat}{c:List Int}(h:DI bs cap ws own Th T c)(hq:Th q)(lQ:q.ended=false)(eE:bs<1000000000)(hN:T+c.length<4000000000000000000)(hs:gA bj q ws=(q',ws',e)):
  ws'.length=ws.length∧(∀a,¬(bs≤a∧a<bs+2+rm cap)→ws'.getD a 0=ws.getD a 0)∧q'.base=q.base∧
  ((e=false∧q'.ended=false∧DI bs cap ws' own (fun z=>Th z∨z=q') T c)∨(e=true∧q'.ok=false∧DI bs cap ws' own Th T c)∨(e=true∧q'.ok=true∧∃c',c=q'.n::c'∧DI bs cap ws' own Th (T+1) c')):=by
 have hr:=vJ cap
 have hz:=h.th q hq lQ
 have fx:=h.db
 have hl:=fx.len
 have E2:=fx.t1
 have pO:=fx.fits
 have zy:=fx.top
 have BB:=fx.bot
 have sS:=h.th
 have jC:=h.ow
 obtain⟨base,jf,n,ok,ended,at_,b,t,x⟩:=q
 obtain⟨e1,e2,e3,h3,ht⟩:=hz
 dsimp only at e1 e2 e3 h3 ht hs lQ
 subst e1 e2 e3 lQ
 have h3:at_=0∨at_=1∨at_=2∨at_=3:=by omega
 have ff:ug own≤1:=by unfold ug;split <;> (try split) <;> omega
 rcases h3 with rfl | rfl | rfl | rfl
 ·simp only[gA,sw,zy]at hs
  simp at hs
  obtain⟨rfl,rfl,rfl⟩:=hs
  refine⟨rfl,fun _ _=>rfl,rfl,.inl ⟨rfl,rfl,fx,jC.qw fun z hz _ ha=>?_,fun z hz gh=>?_⟩⟩
  ·rcases hz with hz | rfl
   ·exact hz
   ·simp at ha
  ·rcases hz with hz | rfl
   ·exact sS z hz gh
   ·exact⟨rfl,rfl,rfl,by simp,fun _=>⟨T,rfl,Nat.le_refl _,fun h=>absurd h (by simp),fun h=>absurd h (by simp)⟩⟩
 ·obtain⟨tt,rfl,BU,_,_⟩:=ht (aM _)
  clear ht
  have hbw:=pv (n:=T+c.length-ug own) (Ch (Nat.sub_le _ _) (FG hN (by decide)))
  have htw:=pv (n:=tt) (Ch BU (Ch (FN T c.length) (FG hN (by decide))))
  by_cases h1:T+c.length-ug own≤tt
  ·simp only[gA,xF eE,sw,BB,hbw,htw]at hs
   simp[h1]at hs
   obtain⟨rfl,rfl,rfl⟩:=hs
   exact⟨rfl,fun _ _=>rfl,rfl,.inr (.inl ⟨rfl,rfl,h⟩)⟩
  ·simp only[gA,xF eE,sw,BB,hbw,htw]at hs
   simp[h1]at hs
   obtain⟨rfl,rfl,rfl⟩:=hs
   refine⟨rfl,fun _ _=>rfl,rfl,.inl ⟨rfl,rfl,fx,?_,fun z hz gh=>?_⟩⟩
   ·match own,jC,h1 with
    |none,_,_=>trivial
    |some (false,p),hp,_=>exact hp
    |some (true,p),hp,h1=>
     have hp:zE bs jf Th T c p:=hp
     refine⟨hp.base,hp.cp,hp.on,hp.Kr,hp.no,hp.b,fun p3=>?_,hp.a4,hp.a5⟩
     obtain⟨t3,b1,b2,b3⟩:=hp.a3 p3
     refine⟨t3,b1,b2,fun h5=>⟨(b3 h5).1,fun z hz gh mh=>?_⟩⟩
     rcases hz with hz | rfl
     ·exact (b3 h5).2 z hz gh mh
     ·have e1:ug (some (true,p))=1:=by simp[ug,p3]
      rw[e1]at h1
      show (tt:Int)<((T+c.length-1:Nat):Int)
      omega
   ·rcases hz with hz | rfl
    ·exact sS z hz gh
    ·exact⟨rfl,rfl,rfl,by simp,fun _=>⟨tt,rfl,BU,fun _ h6=>by omega,fun h=>absurd h (by simp)⟩⟩
 ·obtain⟨tt,rfl,BU,ha,_⟩:=ht (by decide)
  clear ht
  have ha:=ha (aM _)
  simp only[gA,G2 eE,sw]at hs
  simp only[lS,↓reduceIte,Nat.reduceEqDiff,Prod.mk.injEq]at hs
  obtain⟨rfl,rfl,rfl⟩:=hs
  refine⟨rfl,fun _ _=>rfl,rfl,.inl ⟨rfl,rfl,fx,?_,fun z hz gh=>?_⟩⟩
  ·match own,jC with
   |none,_=>trivial
   |some (false,p),hp=>exact hp
   |some (true,p),hp=>
    have hp:zE bs jf Th T c p:=hp
    refine⟨hp.base,hp.cp,hp.on,hp.Kr,hp.no,hp.b,fun p3=>?_,hp.a4,hp.a5⟩
    obtain⟨t3,b1,b2,b3⟩:=hp.a3 p3
    refine⟨t3,b1,b2,fun h5=>⟨(b3 h5).1,fun z hz gh mh=>?_⟩⟩
    rcases hz with hz | rfl
    ·exact (b3 h5).2 z hz gh mh
    ·have h9:(tt:Int)<((T+c.length-1:Nat):Int):=(b3 h5).2 _ hq rfl (aM _)
     exact h9
  ·rcases hz with hz | rfl
   ·exact sS z hz gh
   ·refine⟨rfl,rfl,rfl,by simp,fun _=>⟨tt,rfl,BU,fun _ h6=>ha h6,fun _ h6=>?_⟩⟩
    have hc:=ha h6
    subst h6
    have:ws.getD (bs+2+tt % rm jf) 0=c[0]:=fx.cu 0 hc
    show c.head?=some (ws.getD (bs+2+tt % rm jf) 0)
    rw[this,List.head?_eq_getElem?,bc hc]
 ·obtain⟨tt,rfl,BU,ha,hb⟩:=ht (by decide)
  clear ht
  have ha:=ha (by omega)
  have hb:=hb rfl
  have e0:wu ((tt:Int)+1)=((tt+1:Nat):Int):=DR (n:=tt+1) (by omega)
  obtain⟨k1,k2⟩:=HM (ws:=ws) (a:=bs) (by omega) (tt:Int) ((tt+1:Nat):Int)
  rw[zy]at k1 k2
  simp only[gA,e0,k1,k2]at hs
  by_cases h1:(T:Int)=tt
  ·simp only[ag h1,aY h1]at hs
   simp only[lS,↓reduceIte,Nat.reduceEqDiff,Prod.mk.injEq]at hs
   obtain⟨rfl,rfl,rfl⟩:=hs
   obtain rfl:tt=T:=by omega
   have hc:=ha rfl
   have hx:=hb rfl
   match c,hc,hx,pO,fx,sS,jC,BB with
   |y::c,_,hx,pO,fx,sS,jC,BB=>
    obtain rfl:y=x:=by simpa using hx
    simp only[fO]at pO BB
    refine⟨by simp,fun a ha=>by rw[im,if_neg (by omega)],rfl,.inr (.inr ⟨rfl,rfl,c,rfl,⟨by simpa using hl,?_,by omega,?_,by omega,fun i hi=>?_⟩,?_,fun z hz gh=>?_⟩)⟩
    ·rw[im,ag ⟨rfl,by omega⟩]
    ·rw[im,ah (by omega),BB];congr 1;omega
    ·rw[im,ah (by omega),show tt+1+i=tt+(i+1) by omega]
     exact fx.cu (i+1) (by simp;omega)
    ·match own,jC with
     |none,_=>trivial
     |some (false,p),hp=>
      have hp:Ip bs jf ws tt (y::c) p:=hp
      have el:tt+(y::c).length=tt+1+c.length:=by simp;omega
      refine⟨hp.base,hp.cp,hp.on,hp.no,hp.Ah,fun h=>by rw[hp.b h,el],fun h=>by have:=hp.room h;simp at this;omega,fun h=>?_⟩
      have:=hp.put h
      rw[el]at this
      rw[im,ah (by omega)];exact this
     |some (true,p),hp=>
      have hp:zE bs jf Th tt (y::c) p:=hp
      have el:tt+(y::c).length=tt+1+c.length:=by simp;omega
      refine⟨hp.base,hp.cp,hp.on,hp.Kr,hp.no,fun h=>by rw[hp.b h,el],fun h=>?_,fun h=>?_,fun h=>absurd (hp.a5 h) (by simp)⟩
      ·obtain⟨t3,b1,b2,b3⟩:=hp.a3 h
       rw[el]at b3
       refine⟨t3,b1,by omega,fun h5=>⟨?_,(b3 h5).2⟩⟩
       have:=(b3 h5).2 _ hq rfl (by simp)
       have:(tt:Int)<((tt+1+c.length-1:Nat):Int):=this
       omega
      ·obtain⟨b1,b2,b3⟩:=hp.a4 h
       simp at b2
       subst b2
       exact⟨b1,by simp,by simp⟩
    ·have iP:=sS z hz gh
     refine⟨iP.base,iP.cp,iP.no,iP.Ah,fun mh=>?_⟩
     obtain⟨t,a1,a2,a3,a4⟩:=iP.t mh
     exact⟨t,a1,by omega,fun _ h=>by omega,fun _ h=>by omega⟩
  ·simp only[ah h1,b9 h1]at hs
   simp only[lS,↓reduceIte,Nat.reduceEqDiff,Prod.mk.injEq]at hs
   obtain⟨rfl,rfl,rfl⟩:=hs
   exact⟨rfl,fun _ _=>rfl,rfl,.inr (.inl ⟨rfl,rfl,h⟩)⟩
set_option maxHeartbeats 4000000
theorem Cw{what w:Int}(h:what=1∨what=2∨what=3){i:Nat}{x:Int}(hx:fL what w i x):dx what x x=x:=by
 obtain⟨rP,ic⟩:=hx
 obtain⟨a,rfl⟩:=mn rP.1
 have ha:a<18446744073709551616:=by have:=rP.2;omega
 rcases h with rfl | rfl | rfl
 ·rw[show dx 1 (a:Int) a=bits .or .u64 (a:Int) a from rfl,tk ha ha,Nat.or_self]
 ·rw[show dx 2 (a:Int) a=bits .and .u64 (a:Int) a from rfl,si ha ha,Nat.and_self]
 ·rw[ag rfl]at ic
  rw[rr,xl ic ic,AM]
theorem Yx{what w:Int}(h:what=1∨what=2∨what=3){i:Nat}{x y:Int}(hx:fL what w i x)(hy:fL what w i y):dx what x y=dx what y x:=by
 obtain⟨rP,ic⟩:=hx
 obtain⟨uv,wC⟩:=hy
 obtain⟨a,rfl⟩:=mn rP.1
 obtain⟨b,rfl⟩:=mn uv.1
 have ha:a<18446744073709551616:=by have:=rP.2;omega
 have hb:b<18446744073709551616:=by have:=uv.2;omega
 rcases h with rfl | rfl | rfl
 ·show bits .or .u64 (a:Int) b=bits .or .u64 (b:Int) a
  rw[tk ha hb,tk hb ha,Nat.or_comm]
 ·show bits .and .u64 (a:Int) b=bits .and .u64 (b:Int) a
  rw[si ha hb,si hb ha,Nat.and_comm]
 ·rw[ag rfl]at ic wC
  rw[rr,rr,xl ic wC,xl wC ic,Hw]
theorem XJ{what w:Int}(h:what=1∨what=2∨what=3){i:Nat}{x y z:Int}(hx:fL what w i x)(hy:fL what w i y)(hz:fL what w i z):dx what (dx what x y) z=dx what x (dx what y z):=by
 have aN:=(Cx h hx hy).2
 have EX:=(Cx h hy hz).2
 obtain⟨rP,ic⟩:=hx
 obtain⟨uv,wC⟩:=hy
 obtain⟨BO,gh⟩:=hz
 obtain⟨a,rfl⟩:=mn rP.1
 obtain⟨b,rfl⟩:=mn uv.1
 obtain⟨c,rfl⟩:=mn BO.1
 have ha:a<18446744073709551616:=by have:=rP.2;omega
 have hb:b<18446744073709551616:=by have:=uv.2;omega
 have hc:c<18446744073709551616:=by have:=BO.2;omega
 rcases h with rfl | rfl | rfl
 ·have h1:a ||| b<2 ^ 64:=JY ha hb
  have h2:b ||| c<2 ^ 64:=JY hb hc
  show bits .or .u64 (bits .or .u64 (a:Int) b) c=bits .or .u64 (a:Int) (bits .or .u64 (b:Int) c)
  rw[tk ha hb,tk hb hc,tk h1 hc,tk ha h2,Nat.or_assoc]
 ·have h1:a &&& b≤a:=FL
  have h2:b &&& c≤b:=FL
  show bits .and .u64 (bits .and .u64 (a:Int) b) c=bits .and .u64 (a:Int) (bits .and .u64 (b:Int) c)
  rw[si ha hb,si hb hc,si (by omega) hc,si ha (by omega),Nat.and_assoc]
 ·rw[ag rfl]at ic wC gh aN EX
  rw[rr]at aN EX
  rw[rr,rr,rr,rr]
  rw[xl aN gh,xl ic EX,xl ic wC,xl wC gh,S9]
theorem sy(a:List Int)(i:Nat):a.getD i 0=wd a i:=by rw[aR];rfl
section
variable {s:Sy} {l:Lay} (hs:LS s l)
include hs
theorem LS.Nv:ft s.what s.w=(nW l:Int):=by have:=hs.words;have:=hs.ww;omega
theorem LS.rG{a:List Int}:eF s.what s.w a↔(a.length=nW l∧∀i,i<nW l→fL s.what s.w i (a.getD i 0)):=by
 rw[Gz hs.ia.uu,hs.Nv]
 constructor
 ·rintro⟨h1,h2⟩
  have h1:a.length=nW l:=by omega
  exact⟨h1,fun i hi=>by rw[sy];exact h2 i (by omega)⟩
 ·rintro⟨h1,h2⟩
  exact⟨by omega,fun i hi=>by rw[← sy];exact h2 i (by omega)⟩
theorem LS.yd{a b:List Int}(ha:eF s.what s.w a)(hb:eF s.what s.w b):dy s.what s.w a b↔∀i,i<nW l→dx s.what (a.getD i 0) (b.getD i 0)=b.getD i 0:=by
 have la:=((hs.rG).1 ha).1
 have lb:=((hs.rG).1 hb).1
 constructor
 ·intro h i hi
  rw[sy,sy,← y7 (by omega) (by omega),h.2.2]
 ·intro h
  refine⟨ha,hb,AR ?_ fun i hi=>?_⟩
  ·rw[iU (by omega)];omega
  ·rw[iU (by omega)]at hi
   rw[y7 hi (by omega),← sy,← sy]
   exact h i (by omega)
theorem LS.Wq{v:Nat}(hv:v<nN s){y:List Int}(hy:eF s.what s.w y):eF s.what s.w (jO s y v):=
 (Lu hs.fit hs.ia (dy.refl hy) (v:=v) (by have:=hs.nn;omega)).1
end
def wA(s:Sy)(v:Nat):List Nat:=(ar s.n s.aL v).map Int.toNat
theorem afC{s:Sy}{v u:Nat}(h:u∈wA s v):u<nN s:=by
 obtain⟨z,hz,rfl⟩:=cY.1 h
 obtain⟨hz,_⟩:=ki.1 hz
 obtain⟨i,hi,rfl⟩:=cY.1 hz
 rw[bU]
 exact fA.1 hi
theorem UZ{s:Sy}{v:Int}{z:Int}(h:z∈ar s.n s.aL v):∃u:Nat,z=u∧u<nN s:=by
 obtain⟨hz,_⟩:=ki.1 h
 obtain⟨i,hi,rfl⟩:=cY.1 hz
 exact⟨i,rfl,fA.1 hi⟩
def cJ(s:Sy)(l:Lay)(hs:LS s l):SX.AP where
 n:=nN s
 W:=nW l
 k:=l.k.toNat
 nx:=wA s
 jw:=dx s.what
 out v y:=jO s y v
 ok i z:=fL s.what s.w i z
 DT _ h:=afC h
 idem h:=Cw hs.vH h
 comm h1 h2:=Yx hs.vH h1 h2
 assoc h1 h2 h3:=XJ hs.vH h1 h2 h3
 Ob h1 h2:=Cx hs.vH h1 h2
 H8 hv h1 h2:=(hs.rG).1 (hs.Wq hv ((hs.rG).2 ⟨h1,h2⟩))
 mono:=fun {v y z} hv h1 h2 h3 h4 h5=>by
  have hy:=(hs.rG).2 ⟨h1,h3⟩
  have hz:=(hs.rG).2 ⟨h2,h4⟩
  have hl:=Lu hs.fit hs.ia ((hs.yd hy hz).2 h5) (v:=v) (by have:=hs.nn;omega)
  exact (hs.yd hl.1 hl.2.1).1 hl
def zN(does:Int)(node:Nat)(out:List Int)(u:Nat)(r:List Nat):SX.Ph:=
 if does=0 then .idle 0 0
 else if does=1 then .idle 1 0
 else if does=2 then .idle 2 0
 else if does=3 then .clear node
 else if does=4 then .read node []
 else if does=5 then .join node out u r 0 none false
 else if does=6 then .take node out u r
 else if does=7 then .push node out u r 0
 else .dA node
def phN(does:Int)(node:Nat)(out:List Int)(u:Nat)(r:List Nat):Nw→SX.Ph
 |.none=>zN does node out u r
 |.pop q=>if q.at_=5∧q.ok=true then .held q.x.toNat else .idle 0 q.at_
 |.cc z=>.idle 1 z.at_
 |.quiet _=>.idle 2 0
 |.clear _=>.clear node
 |.read y=>.read node y
 |.join j=>.join node out u r j.at_ (if j.fv=true then some j.x else none) j.changed
 |.take t=>if t.jH=true then .add node out u r else .take node out u r
 |.push q=>.push node out u r q.at_
 |.dA _=>.dA node
def dw(x:WS):SX.Ph:=if x.en=true then .done else phN x.does x.node.toNat x.out (x.nx.headD 0).toNat (x.nx.tail.map Int.toNat) x.now
theorem SJ(l:Lay)(who d:Int)(x:WS):dw ⟨x.ev,x.jo,x.en,x.does,km l who x d,x.node,x.has,x.nx,x.out⟩=dw x:=by
 unfold dw
 dsimp only
 congr 1
 unfold km
 cases hn:x.now with
 |none=>
  dsimp only
  show _=zN _ _ _ _ _
  unfold zN
  by_cases h0:x.does=0
  ·rw[IW h0,ag h0];rfl
  by_cases h1:x.does=1
  ·rw[IV h1,ah h0,ag h1];rfl
  by_cases h2:x.does=2
  ·rw[IU h2,ah h0,ah h1,ag h2];rfl
  by_cases h3:x.does=3
  ·rw[IT h3,ah h0,ah h1,ah h2,ag h3];rfl
  by_cases h4:x.does=4
  ·rw[IS h4,ah h0,ah h1,ah h2,ah h3,ag h4];rfl
  by_cases h5:x.does=5
  ·rw[IQ h5,ah h0,ah h1,ah h2,ah h3,ah h4,ag h5];rfl
  by_cases h6:x.does=6
  ·rw[IP h6,ah h0,ah h1,ah h2,ah h3,ah h4,ah h5,ag h6];rfl
  by_cases h7:x.does=7
  ·rw[IN h7,ah h0,ah h1,ah h2,ah h3,ah h4,ah h5,ah h6,ag h7];rfl
  rw[IM h0 h1 h2 h3 h4 h5 h6 h7,ah h0,ah h1,ah h2,ah h3,ah h4,ah h5,ah h6,ah h7];rfl
 |_=>rfl
theorem Dl{ev jo:Int}{does node:Int}{has:Bool}{nx out:List Int}(hd:does=if nx.length=0 then 8 else 5):dw ⟨ev,jo,false,does,.none,node,has,nx,out⟩=SX.eB node.toNat out (nx.map Int.toNat):=by
 subst hd
 cases nx with
 |nil=>rfl
 |cons u r=>rfl
abbrev gK(s:Sy)(l:Lay)(j:Nat):Nat:=nN s*nW l+nN s+1+j*(nN s+3)
def sC:Nw→Own
 |.pop q=>some (true,q)
 |.push q=>some (false,q)
 |_=>none
def lG(W:List WS)(j:Nat):Own:=match W[j]? with
 |some x=>sC x.now
 |none=>none
def lJ(s:Sy)(l:Lay)(W:List WS)(j:Nat)(z:DQ):Prop:=∃(i:Nat) (x:WS),W[i]?=some x∧x.now=.cc z∧z.base=(gK s l j:Int)
abbrev jy(c:List Nat):List Int:=c.map fun v:Nat=>(v:Int)
def bO(s:Sy)(l:Lay)(W:List WS)(ws:List Int)(D:List (List Nat)):SX.AS where
 cell v i:=if v<nN s∧i<nW l then ws.getD (v*nW l+i) 0 else 0
 flag v:=decide (v<nN s∧¬ws.getD (nN s*nW l+v) 0=0)
 aD:=(ws.getD (nN s*nW l+nN s) 0).toNat
 dq:=D
 ph:=W.map dw
 ev:=SX.aF (fun x=>x.ev.toNat) W
 jo:=SX.aF (fun x=>x.jo.toNat) W
structure RJ(s:Sy)(l:Lay)(hs:LS s l)(W:List WS)(ws:List Int)(D:List (List Nat))(T:Nat→Nat)(M:Nat):Prop where
 len:(W.length:Int)=l.k
 fl:ws.length=nF l
 kK:0≤ws.getD (nN s*nW l+nN s) 0
 dl:D.length=W.length
 di:∀(j:Nat) (c:List Nat),D[j]?=some c→DI (gK s l j) (eu l) ws (lG W j) (lJ s l W j) (T j) (jy c)
 top:∀j,T j≤M
 ev:∀x∈W,0≤x.ev∧x.ev≤M∧0≤x.jo∧x.jo≤M
 jn:∀x∈W,∀j,x.now=.join j→j.fv=true→dx j.what j.x (wd j.a j.at_)≠j.x
 pn:∀x∈W,∀q,x.now=.push q→q.n=x.nx.headD 0
 ti:SX.TI (cJ s l hs) (bO s l W ws D)
theorem AK{W:List WS}{i:Nat}{x:WS}(h:W[i]?=some x):lG W i=sC x.now:=by unfold lG;rw[h]
theorem Lt{W:List WS}{i:Nat}(hi:i<W.length)(x:WS)(j:Nat):lG (W.set i x) j=if i=j then sC x.now else lG W j:=by
 unfold lG
 rw[dY]
 by_cases h:i=j
 ·subst h;rw[ag rfl,ag hi,ag rfl]
 ·rw[ah h,ah h]
theorem n0{α:Type}{W:List α}{i:Nat}{x:α}(h:W[i]?=some x):W.set i x=W:=by
 refine Aa fun j=>?_
 rw[dY]
 by_cases hj:i=j
 ·subst hj;rw[ag rfl,ag (bQ.1 h).1,h]
 ·rw[ah hj]
theorem Hg{s:Sy}{l:Lay}{W:List WS}{i:Nat}{x:WS}{j:Nat}{z:DQ}(h:lJ s l (W.set i x) j z):lJ s l W j z∨(x.now=.cc z∧z.base=(gK s l j:Int)):=by
 obtain⟨k,y,hy,h1,h2⟩:=h
 rw[dY]at hy
 by_cases hk:i=k
 ·subst hk
  rw[ag rfl]at hy
  split at hy
  ·cases hy;exact .inr ⟨h1,h2⟩
  ·cases hy
 ·rw[ah hk]at hy
  exact .inl ⟨k,y,hy,h1,h2⟩
theorem Vq{N b i j:Nat}(h:i≠j){a:Nat}(h1:b+i*(N+3)≤a)(h2:a<b+i*(N+3)+2+(N+1)):¬(b+j*(N+3)≤a∧a<b+j*(N+3)+2+(N+1)):=by
 rintro⟨h3,h4⟩
 rcases Nat.lt_or_gt_of_ne h with h5 | h5
 ·have:=iR (N+3) (show i+1≤j by omega)
  rw[lR]at this
  omega
 ·have:=iR (N+3) (show j+1≤i by omega)
  rw[lR]at this
  omega
theorem An{α:Type}{W:List α}{i:Nat}{x y:α}(h:y∈W.set i x):y∈W∨y=x:=qb h
section
variable {s:Sy} {l:Lay} {hs:LS s l} {W:List WS} {ws:List Int} {D:List (List Nat)} {T:Nat→Nat} {M:Nat}
theorem RJ.fin(hR:RJ s l hs W ws D T M){i:Nat}{x x':WS}(hx:W[i]?=some x){ws':List Int}{D':List (List Nat)}{T':Nat→Nat}(gG:ws'.length=ws.length)(hc:0≤ws'.getD (nN s*nW l+nN s) 0)(ek:D'.length=D.length)
  (kG:∀(j:Nat) (c:List Nat),D'[j]?=some c→DI (gK s l j) (eu l) ws' (lG (W.set i x') j) (lJ s l (W.set i x') j) (T' j) (jy c))
  (zy:∀j,T' j≤M+1) (k8:x'.ev=x.ev∨x'.ev=x.ev+1) (mR:x'.jo=x.jo∨x'.jo=x.jo+1) (zU:∀j,x'.now=.join j→j.fv=true→dx j.what j.x (wd j.a j.at_)≠j.x) (sV:∀q,x'.now=.push q→q.n=x'.nx.headD 0)
  (qL:SX.Tr (cJ s l hs) (bO s l W ws D) i (bO s l (W.set i x') ws' D')):RJ s l hs (W.set i x') ws' D' T' (M+1)∧SX.Tr (cJ s l hs) (bO s l W ws D) i (bO s l (W.set i x') ws' D'):=by
 have h0:=hR.ev x (bH hx)
 refine⟨⟨by rw[ck];exact hR.len,gG.trans hR.fl,hc,by rw[ck,ek];exact hR.dl,kG,zy,fun y hy=>?_,fun y hy=>?_,fun y hy=>?_,hR.ti.step qL⟩,qL⟩
 ·rcases An hy with hy | rfl
  ·have:=hR.ev y hy;omega
  ·omega
 ·rcases An hy with hy | rfl
  ·exact hR.jn y hy
  ·exact zU
 ·rcases An hy with hy | rfl
  ·exact hR.pn y hy
  ·exact sV
theorem xJ(hR:RJ s l hs W ws D T M){i:Nat}{x x':WS}(hx:W[i]?=some x){ws':List Int}{c':List Nat}{T':Nat}(gG:ws'.length=ws.length)
  (je:∀a,¬(gK s l i≤a∧a<gK s l i+2+rm (eu l))→ws'.getD a 0=ws.getD a 0) (NK:∀z,x'.now≠.cc z)
  (hD:DI (gK s l i) (eu l) ws' (sC x'.now) (lJ s l W i) T' (jy c')):∀(j:Nat) (c:List Nat),(D.set i c')[j]?=some c→DI (gK s l j) (eu l) ws' (lG (W.set i x') j) (lJ s l (W.set i x') j) (if j=i then T' else T j) (jy c):=by
 intro j c hj
 have hi:=(bQ.1 hx).1
 have sS:∀z,lJ s l (W.set i x') j z→lJ s l W j z:=fun z hz=>by
  rcases Hg hz with h | h
  ·exact h
  ·exact absurd h.1 (NK z)
 rw[Lt hi]
 rw[dY]at hj
 by_cases h:i=j
 ·subst h
  rw[ag rfl,ag (by rw[hR.dl];exact hi)]at hj
  cases hj
  rw[ag rfl,ag rfl]
  exact hD.qw sS
 ·rw[ah h]at hj
  rw[ah h,ah (fun e=>h e.symm)]
  refine ((hR.di j c hj).F5 gG fun a h1 h2=>?_).qw sS
  rw[hs.room.2]at h2 je
  exact je a (Vq (fun e=>h e.symm) h1 h2)
theorem pj(hR:RJ s l hs W ws D T M){i:Nat}{x x':WS}(hx:W[i]?=some x){ws':List Int}(gG:ws'.length=ws.length)
  (je:∀a,nN s*nW l+nN s+1≤a→ws'.getD a 0=ws.getD a 0) (NK:∀z,x'.now≠.cc z) (ho:sC x.now=sC x'.now) :
  ∀(j:Nat) (c:List Nat),D[j]?=some c→DI (gK s l j) (eu l) ws' (lG (W.set i x') j) (lJ s l (W.set i x') j) (T j) (jy c):=by
 intro j c hj
 have hi:=(bQ.1 hx).1
 have e:lG (W.set i x') j=lG W j:=by
  rw[Lt hi]
  by_cases h:i=j
  ·subst h;rw[ag rfl,AK hx,ho]
  ·rw[ah h]
 rw[e]
 refine ((hR.di j c hj).F5 gG fun a h1 h2=>je a (by unfold gK at h1;omega)).qw fun z hz=>?_
 rcases Hg hz with h | h
 ·exact h
 ·exact absurd h.1 (NK z)
theorem HS(hR:RJ s l hs W ws D T M){i v:Nat}{x x':WS}{q':DQ}(hx:W[i]?=some x)(hv:v<D.length){ws':List Int}{c':List Nat}{T':Nat}(gG:ws'.length=ws.length)
  (je:∀a,¬(gK s l v≤a∧a<gK s l v+2+rm (eu l))→ws'.getD a 0=ws.getD a 0) (ao:(x'.now=.cc q'∧q'.base=(gK s l v:Int))∨∀z,x'.now≠.cc z) (ho:sC x.now=sC x'.now)
  (hD:DI (gK s l v) (eu l) ws' (lG W v) (fun z=>lJ s l W v z∨(x'.now=.cc z∧z=q')) T' (jy c')):∀(j:Nat) (c:List Nat),(D.set v c')[j]?=some c→DI (gK s l j) (eu l) ws' (lG (W.set i x') j) (lJ s l (W.set i x') j) (if j=v then T' else T j) (jy c):=by
 intro j c hj
 have hi:=(bQ.1 hx).1
 have e:lG (W.set i x') j=lG W j:=by
  rw[Lt hi]
  by_cases h:i=j
  ·subst h;rw[ag rfl,AK hx,ho]
  ·rw[ah h]
 rw[e]
 rw[dY]at hj
 by_cases h:v=j
 ·subst h
  rw[ag rfl,ag hv]at hj
  cases hj
  rw[ag rfl]
  refine hD.qw fun z hz=>?_
  rcases Hg hz with h | h
  ·exact .inl h
  ·refine .inr ⟨h.1,?_⟩
   rcases ao with h2 | h2
   ·have:=h.1.symm.trans h2.1
    cases this;rfl
   ·exact absurd h.1 (h2 z)
 ·rw[ah h]at hj
  rw[ah (fun e=>h e.symm)]
  refine ((hR.di j c hj).F5 gG fun a h1 h2=>?_).qw fun z hz=>?_
  ·rw[hs.room.2]at h2 je
   exact je a (Vq (fun e=>h e.symm) h1 h2)
  ·rcases Hg hz with h3 | h3
   ·exact h3
   ·rcases ao with h2 | h2
    ·have h4:=h3.1.symm.trans h2.1
     cases h4
     have h5:=h3.2.symm.trans h2.2
     have h6:j*(nN s+3)=v*(nN s+3):=by unfold gK at h5;omega
     exact absurd (Nat.eq_of_mul_eq_mul_right (by omega) h6).symm h
    ·exact absurd h3.1 (h2 z)
theorem Bn{A B:SX.AS}(h1:∀v i,A.cell v i=B.cell v i)(h2:∀v,A.flag v=B.flag v)(h3:A.aD=B.aD)(h4:A.dq=B.dq)(h5:A.ph=B.ph)(h6:A.ev=B.ev)(h7:A.jo=B.jo):A=B:=by
 obtain⟨a1,a2,a3,a4,a5,a6,a7⟩:=A
 obtain⟨b1,b2,b3,b4,b5,b6,b7⟩:=B
 obtain rfl:a1=b1:=funext fun v=>funext fun i=>h1 v i
 obtain rfl:a2=b2:=funext h2
 cases h3;cases h4;cases h5;cases h6;cases h7;rfl
theorem vh{f:WS→Nat}{i:Nat}{x x':WS}(hx:W[i]?=some x)(h:f x'=f x):SX.aF f (W.set i x')=SX.aF f W:=by
 have:=SX.eW f W i x x' hx
 omega
theorem lY{i:Nat}{x x':WS}(hx:W[i]?=some x){ws':List Int}(ff:∀a,a<nN s*nW l+nN s+1→ws'.getD a 0=ws.getD a 0)(k8:x'.ev=x.ev)(mR:x'.jo=x.jo)(D':List (List Nat)):
  bO s l (W.set i x') ws' D' = { bO s l W ws D with dq:=D',ph:=(bO s l W ws D).ph.set i (dw x') }:=by
 refine Bn (fun v j=>?_) (fun v=>?_) ?_ rfl ?_ ?_ ?_
 ·show (if _ then _ else _)=(if _ then _ else _)
  by_cases h:v<nN s∧j<nW l
  ·have:=tA h.1 h.2
   rw[ag h,ag h,ff _ (by omega)]
  ·rw[ah h,ah h]
 ·show decide _=decide _
  by_cases h:v<nN s
  ·rw[ff _ (by omega)]
  ·rw[b9 (fun e=>h e.1),b9 (fun e=>h e.1)]
 ·show (ws'.getD _ 0).toNat=(ws.getD _ 0).toNat
  rw[ff _ (by omega)]
 ·show (W.set i x').map dw=(W.map dw).set i (dw x')
  rw[nS]
 ·exact vh hx (by rw[k8])
 ·exact vh hx (by rw[mR])
theorem mA{i:Nat}{x:WS}(hx:W[i]?=some x):(bO s l W ws D).ph[i]?=some (dw x):=by
 show (W.map dw)[i]?=_
 rw[eU,hx];rfl
theorem Ty{i:Nat}{x x':WS}(hx:W[i]?=some x){ws':List Int}{u:Nat}{z:Int}(hu:u<nN s)(hl:nN s*nW l+u<ws.length)(hw:ws'=ws.set (nN s*nW l+u) z)(k8:x'.ev=x.ev)(mR:x'.jo=x.jo):
  bO s l (W.set i x') ws' D = { bO s l W ws D with flag:=fun v=>if v=u then decide (¬z=0) else (bO s l W ws D).flag v,ph:=(bO s l W ws D).ph.set i (dw x') }:=by
 subst hw
 refine Bn (fun v j=>?_) (fun v=>?_) ?_ rfl ?_ ?_ ?_
 ·show (if _ then _ else _)=(if _ then _ else _)
  by_cases h:v<nN s∧j<nW l
  ·have:=tA h.1 h.2
   rw[ag h,ag h,jY,ah (by omega)]
  ·rw[ah h,ah h]
 ·show decide _=if v=u then _ else decide _
  by_cases h:v=u
  ·subst h
   rw[ag rfl,jY,ag ⟨rfl,hl⟩]
   simp[hu]
  ·rw[ah h,jY,ah (by omega)]
 ·show ((ws.set _ _).getD _ 0).toNat=(ws.getD _ 0).toNat
  rw[jY,ah (by omega)]
 ·show (W.set i x').map dw=(W.map dw).set i (dw x')
  rw[nS]
 ·exact vh hx (by rw[k8])
 ·exact vh hx (by rw[mR])
theorem UM{i:Nat}{x x':WS}(hx:W[i]?=some x){ws':List Int}{z:Int}(hl:nN s*nW l+nN s<ws.length)(hw:ws'=ws.set (nN s*nW l+nN s) z)(k8:x'.ev=x.ev)(mR:x'.jo=x.jo):
  bO s l (W.set i x') ws' D = { bO s l W ws D with aD:=z.toNat,ph:=(bO s l W ws D).ph.set i (dw x') }:=by
 subst hw
 refine Bn (fun v j=>?_) (fun v=>?_) ?_ rfl ?_ ?_ ?_
 ·show (if _ then _ else _)=(if _ then _ else _)
  by_cases h:v<nN s∧j<nW l
  ·have:=tA h.1 h.2
   rw[ag h,ag h,jY,ah (by omega)]
  ·rw[ah h,ah h]
 ·show decide _=decide _
  by_cases h:v<nN s
  ·rw[jY,ah (by omega)]
  ·rw[b9 (fun e=>h e.1),b9 (fun e=>h e.1)]
 ·show ((ws.set _ _).getD _ 0).toNat=z.toNat
  rw[jY,ag ⟨rfl,hl⟩]
 ·show (W.set i x').map dw=(W.map dw).set i (dw x')
  rw[nS]
 ·exact vh hx (by rw[k8])
 ·exact vh hx (by rw[mR])
theorem acN{i:Nat}{x x':WS}(hx:W[i]?=some x){ws':List Int}{u j:Nat}{z:Int}(hu:u<nN s)(hj:j<nW l)(hl:u*nW l+j<ws.length)(hw:ws'=ws.set (u*nW l+j) z)(k8:x'.ev=x.ev)(k:Nat)(mR:x'.jo.toNat=x.jo.toNat+k):
  bO s l (W.set i x') ws' D = { bO s l W ws D with cell:=SX.dm (bO s l W ws D).cell u j z,ph:=(bO s l W ws D).ph.set i (dw x'),jo:=(bO s l W ws D).jo+k }:=by
 subst hw
 have h0:=tA hu hj
 refine Bn (fun v t=>?_) (fun v=>?_) ?_ rfl ?_ ?_ ?_
 ·show (if _ then _ else _)=SX.dm _ _ _ _ _ _
  unfold SX.dm
  by_cases h:v<nN s∧t<nW l
  ·rw[ag h,jY]
   by_cases e:v=u∧t=j
   ·obtain⟨rfl,rfl⟩:=e
    rw[ag ⟨rfl,hl⟩,ag ⟨rfl,rfl⟩]
   ·rw[ah e,ah fun h2=>e (Tv h.2 hj h2.1.symm)]
    show _=if _ then _ else _
    rw[ag h]
  ·rw[ah h,ah (fun e=>h (by rw[e.1,e.2];exact⟨hu,hj⟩))]
   show _=if _ then _ else _
   rw[ah h]
 ·show decide _=decide _
  rw[jY,ah (by omega)]
 ·show ((ws.set _ _).getD _ 0).toNat=(ws.getD _ 0).toNat
  rw[jY,ah (by omega)]
 ·show (W.set i x').map dw=(W.map dw).set i (dw x')
  rw[nS]
 ·exact vh hx (by rw[k8])
 ·show SX.aF _ _=SX.aF _ _+k
  have:=SX.eW (fun x:WS=>x.jo.toNat) W i x x' hx
  omega
theorem afX{i:Nat}{x x':WS}(hx:W[i]?=some x)(k8:x'.ev.toNat=x.ev.toNat+1)(mR:x'.jo=x.jo):
  bO s l (W.set i x') ws D = { bO s l W ws D with ph:=(bO s l W ws D).ph.set i (dw x'),ev:=(bO s l W ws D).ev+1 }:=by
 refine Bn (fun _ _=>rfl) (fun _=>rfl) rfl rfl ?_ ?_ ?_
 ·show (W.set i x').map dw=(W.map dw).set i (dw x')
  rw[nS]
 ·show SX.aF _ _=SX.aF _ _+1
  have:=SX.eW (fun x:WS=>x.ev.toNat) W i x x' hx
  omega
 ·exact vh hx (by rw[mR])
theorem afW{i:Nat}{x x':WS}(hx:W[i]?=some x)(k8:x'.ev=x.ev)(k:Nat)(mR:x'.jo.toNat=x.jo.toNat+k):
  bO s l (W.set i x') ws D = { bO s l W ws D with ph:=(bO s l W ws D).ph.set i (dw x'),jo:=(bO s l W ws D).jo+k }:=by
 refine Bn (fun _ _=>rfl) (fun _=>rfl) rfl rfl ?_ ?_ ?_
 ·show (W.set i x').map dw=(W.map dw).set i (dw x')
  rw[nS]
 ·exact vh hx (by rw[k8])
 ·show SX.aF _ _=SX.aF _ _+k
  have:=SX.eW (fun x:WS=>x.jo.toNat) W i x x' hx
  omega
end
end Go.Proofs.YtnikdflhefijbaaGreat
