import Derived.Test.YtnikdflhefijbaaGreatBn18
import Derived.Test.YtnikdflhefijbaaGreatBn16
import Derived.Test.YtnikdflhefijbaaGreatBn11
import Derived.Test.YtnikdflhefijbaaGreatBn10
import Derived.Test.YtnikdflhefijbaaGreatBn14
import Derived.Test.YtnikdflhefijbaaGreatBn7
import Derived.Test.YtnikdflhefijbaaGreatBn8
import Derived.Test.YtnikdflhefijbaaGreatBn12
import Derived.Test.YtnikdflhefijbaaGreatBn1
namespace Go.Proofs.YtnikdflhefijbaaGreat
open Go.RowKit
set_option maxRecDepth 100000
set_option maxHeartbeats 4000000
def sj(x:Int)(p:List Int)(o:List Int):List Int:=p.foldl (fun o a=>o.set a.toNat x) o
theorem JZ(x:Int):∀(p o:List Int),(sj x p o).length=o.length
 | [],_=>rfl
 |a::p,o=>by
  show (sj x p (o.set a.toNat x)).length=_
  rw[JZ x p,cN]
theorem aa5(x:Int)(p o:List Int)(a:Int):sj x (p++[a]) o=(sj x p o).set a.toNat x:=by unfold sj;rw[tV];rfl
def rp(n k:Nat)(Q:List (List Int)):Nat→List Int
 | 0=>List.replicate n 0
 |j+1=>sj (((k*((Q.take j).flatten.length) / n:Nat)):Int) (Q.getD j []) (rp n k Q j)
theorem zL(n k:Nat)(Q:List (List Int)):∀j,(rp n k Q j).length=n
 | 0=>fZ
 |j+1=>by unfold rp;rw[JZ];exact zL n k Q j
def lK(n k:Nat)(l:List bE):List Int:=rp n k (kl n l) (kl n l).length
theorem VG(k:Nat)(σ:Hp)(h1:1≤k)(h2:k≤64):ACalls Tryz.prog 214 [.int .i64 k] σ (aE (.bool true) σ):=by
 refine az Tryz.func214 ?_
 refine aq (fun _=>?_) (fun c=>absurd (show (1:Int)≤k by omega) c)
 refine aq (fun _=>?_) (fun c=>absurd (show (k:Int)≤64 by omega) c)
 exact .done ⟨rfl,rfl⟩
theorem Pz(Q:List (List Int))(j:Nat):(Q.take j).flatten.length≤Q.flatten.length:=by
 have e:Q.flatten=(Q.take j).flatten++(Q.drop j).flatten:=by rw[← gm4,E7]
 rw[e,bP];omega
structure agG(n:Nat)(Q:List (List Int)):Prop where
 node:∀p∈Q,∀x∈p,0≤x∧x<(n:Int)
 flat:Q.flatten.length≤600
 len:Q.length≤600
theorem ac9{k a n:Nat}(hk:k≤64)(ha:a≤600)(_hn:1≤n):IntKind.i64.wrap ((IntKind.i64.wrap ((k:Int)*(a:Nat))).tdiv (n:Int))=((k*a / n:Nat):Int):=by
 have h1:(k:Int)*(a:Nat)=((k*a:Nat):Int):=by simp
 have h2:k*a≤64*600:=tS hk ha
 have h3:k*a / n≤k*a:=Nat.div_le_self _ _
 have h4:IntKind.i64.wrap ((k*a:Nat):Int)=((k*a:Nat):Int):=by rw[IntKind.wrap_i64];omega
 have h5:(((k*a:Nat):Int)).tdiv (n:Int)=((k*a / n:Nat):Int):=rfl
 rw[h1,h4,h5]
 clear h4 h5
 generalize k*a / n=q at h3
 generalize k*a=m at h2 h3
 rw[IntKind.wrap_i64]
 omega
theorem adM{n:Nat}{l:List bE}{P:List (List Int)}(h:oI n l P)(hr:∀e∈l,(0≤e.1∧e.1<(n:Int))∧0≤e.2.1∧e.2.1<(n:Int))(hn:n≤256):agG n (kl n l):=by
 have hO:=(GH h hr P.length (a8 _)).1
 rw[LD h hr]at hO
 have hm:∀p∈kl n l,p∈P:=fun p hp=>by
  obtain⟨i,_,hi⟩:=(hO.mem p).1 hp
  exact cq hi
 have gl:=FZ n _ hO.nd fun x hx=>by
  obtain⟨p,hp,rq⟩:=oT.1 hx
  exact h.ok.node p (hm p hp) x rq
 have hll:=PN (Q:=kl n l) fun p hp=>mW.2 (h.ok.ne p (hm p hp))
 exact⟨fun p hp=>h.ok.node p (hm p hp),by omega,by omega⟩
theorem adi(n:Nat)(l:List bE)(k:Nat)(σ:Hp)(hl:l.length≤100000)(dT:fq n l=true)(h1:1≤k)(h2:k≤64):ACalls Tryz.prog 216 [.int .i64 n,.af dB l,.int .i64 k] σ (aE (.tup [.af (.int .i64) (lK n k l),.int .i64 0]) σ):=by
 have hn:1≤n∧n≤256:=by
  unfold fq at dT
  simp only[bR,decide_eq_true_eq]at dT
  omega
 have Bo:∀e∈l,(0≤e.1∧e.1<(n:Int))∧0≤e.2.1∧e.2.1<(n:Int):=fun e he=>by
  unfold fq at dT
  simp only[bR,fy]at dT
  have:=dT.2 e he
  exact⟨kP.1 this.1,kP.1 this.2⟩
 refine az Tryz.func216 ?_
 refine ay [] (VG k _ h1 h2) ?_
 refine .mk [] _ (ad8 n l _ hl dT) ?_
 rintro _ τ ⟨rfl,Ng,P,hP⟩
 subst τ
 have hQ:=adM hP Bo hn.2
 unfold lK
 generalize kl n l=Q at hQ
 have hQl:=hQ.len
 have hnT:((n:Nat):Int).toNat=n:=bM n
 refine aZ ?_
 intro bo
 refine cc (S:=Nat) (fun x=>[(0,.int .i64 n),(2,.int .i64 k),(10,.ae bo 0 n 1),(11,.int .i64 ((Q.take x).flatten.length:Nat)),(30,.af (.slice (.int .i64)) Q),(31,.int .i64 Q.length),(32,.int .i64 x)]) (fun x=>(bo,an (rp n k Q x))::σ) (fun x=>x≤Q.length) (fun x=>Q.length-x) 0 ⟨bD _,⟨rfl,rfl,rfl,rfl,rfl,rfl,rfl,trivial⟩,by rw[show an (rp n k Q 0)=cM [.int .i64 0] n from (x9 n).symm];rfl⟩ ?_
 intro j g hj
 have hj:j≤Q.length:=hj
 have IM:(Q.take j).flatten.length≤600:=fx (Pz Q j) hQ.flat
 refine aq (p:=(j:Int)<Q.length) (fun ab=>?_) (fun au=>?_)
 ·have ab:j<Q.length:=by omega
  obtain⟨p,hp⟩:∃p,Q[j]?=some p:=⟨Q[j]'ab,bF ab⟩
  have IP:=hQ.node p (cq hp)
  have sy:p.length≤600:=fx (List.Sublist.length_le (List.sublist_flatten_of_mem (cq hp))) hQ.flat
  have hx:IntKind.i64.wrap ((IntKind.i64.wrap ((k:Int)*((Q.take j).flatten.length:Nat))).tdiv (n:Int))=((k*(Q.take j).flatten.length / n:Nat):Int):=ac9 (by omega) (by omega) (by omega)
  have hu:rp n k Q (j+1)=sj ((k*(Q.take j).flatten.length / n:Nat):Int) p (rp n k Q j):=by
   show sj _ (Q.getD j []) _=_
   rw[bg,hp];rfl
  have nO:=zL n k Q j
  have fK:(Q.take (j+1)).flatten.length=(Q.take j).flatten.length+p.length:=by
   rw[List.take_succ_eq_append_getElem ab,List.flatten_append,List.length_append,show Q[j]=p from Option.some.inj ((List.getElem?_eq_getElem ab).symm.trans hp)];simp
  generalize rp n k Q j=o at hu nO
  generalize hX:((k*(Q.take j).flatten.length / n:Nat):Int)=X at hx hu
  refine aI.mk rfl (bL.mk p (by omega) (by rw[bM];exact hp) ?_)
  refine cc (S:=Nat) (fun y=>[(0,.int .i64 n),(2,.int .i64 k),(10,.ae bo 0 n 1),(11,.int .i64 ((Q.take j).flatten.length:Nat)),(13,.af (.int .i64) p),(30,.af (.slice (.int .i64)) Q),(31,.int .i64 Q.length),(32,.int .i64 j),(36,.af (.int .i64) p),(37,.int .i64 p.length),(38,.int .i64 y)]) (fun y=>(bo,an (sj X (p.take y) o))::σ) (fun y=>y≤p.length) (fun y=>p.length-y) 0 ⟨bD _,⟨rfl,rfl,rfl,rfl,rfl,rfl,rfl,rfl,rfl,rfl,rfl,trivial⟩,rfl⟩ ?_
  intro y g2 hy
  have hy:y≤p.length:=hy
  refine aq (p:=(y:Int)<p.length) (fun gE=>?_) (fun hg2=>?_)
  ·have gE:y<p.length:=by omega
   have hz:=IP _ (cj gE)
   have Es:=JZ X (p.take y) o
   refine aI.mk rfl (bL.mk p[y] (by omega) (get_some gE) ?_)
   refine ei ?_
   refine aM ?_
   refine da 0 rfl (nk rfl _ hz.1 (by omega)) ?_
   exact bj (y+1) (by show p.length-(y+1)<p.length-y;omega) gE ⟨rfl,rfl,rfl,rfl,rfl,rfl,rfl,rfl,rfl,rfl,aY (by omega),trivial⟩ (aJ (by rw[hx,fL gE,aa5];rfl))
  ·have hg2:p.length=y:=by omega
   subst hg2
   rw[gn]
   exact bj (j+1) (by show Q.length-(j+1)<Q.length-j;omega) ab ⟨rfl,rfl,rfl,(by show AV.int .i64 (IntKind.i64.wrap ((((Q.take j).flatten.length:Nat):Int)+((p.length:Nat):Int)))=.int .i64 (((Q.take (j+1)).flatten.length:Nat):Int);rw[fK,IntKind.wrap_i64];exact aV (by omega)),rfl,rfl,aY (by omega),trivial⟩ (aJ (by rw[hu]))
 ·have au:Q.length=j:=by omega
  subst au
  refine .cJ 0 bo 0 n 1 _ (.int .i64) (rp n k Q Q.length) rfl (by rw[gM,eG (by rw[jy,zL,dO];exact a8 _)];exact ui _) ⟨zL n k Q _,rfl,by decide⟩ (cE .here (.refl _)) (.done ⟨rfl,rfl⟩)
set_option maxHeartbeats 4000000
def nu(L:List Int):Nat→List Int
 | 0=>L
 |i+1=>((nu L i).set i ((nu L i).getD (L.length-1-i) 0)).set (L.length-1-i) ((nu L i).getD i 0)
theorem Fu(L:List Int):∀i,(nu L i).length=L.length
 | 0=>rfl
 |i+1=>by unfold nu;rw[cN,cN];exact Fu L i
theorem QT(l:List Int)(a:Nat)(v:Int)(t:Nat)(ha:a<l.length):(l.set a v).getD t 0=if a=t then v else l.getD t 0:=by
 rw[bg,e8]
 by_cases h:a=t
 ·subst h;rw[ah rfl,ah ha,ah rfl];rfl
 ·rw[ag h,ag h,bg]
theorem SL(L:List Int):∀i,2*i≤L.length+1→∀t,t<L.length→(nu L i).getD t 0=if t<i∨L.length-i≤t then L.getD (L.length-1-t) 0 else L.getD t 0
 | 0,_,t,ht=>by
  rw[ag (by omega)];rfl
 |i+1,hi,t,ht=>by
  have hl:=Fu L i
  have ih:=SL L i (by omega)
  have h0:0<L.length:=by omega
  have e1:L.length-1-i<((nu L i).set i ((nu L i).getD (L.length-1-i) 0)).length:=by rw[cN,hl];omega
  unfold nu
  rw[QT _ _ _ _ e1]
  by_cases hm:i<L.length
  ·rw[QT _ _ _ _ (by rw[hl];exact hm),ih i hm,ih (L.length-1-i) (by omega),ih t ht]
   repeat' split
   all_goals first | rfl | (exfalso;omega) | (congr 1;omega)
  ·omega
theorem Z8{L:List Int}{i:Nat}(h1:2*i≤L.length+1)(h2:L.length≤2*i+1):nu L i=L.reverse:=by
 have hl:=Fu L i
 refine BL (by rw[hl,sI]) fun t h3 h4=>?_
 have ht:t<L.length:=by omega
 have:=SL L i h1 t ht
 rw[bg,bF h3,bg,bF (show L.length-1-t<L.length by omega),bg,bF ht]at this
 rw[List.getElem_reverse]
 have this:(nu L i)[t]=if t<i∨L.length-i≤t then L[L.length-1-t] else L[t]:=this
 rw[this]
 split
 ·rfl
 ·have e:t=L.length-1-t:=by omega
  congr 1
theorem abd(b:Nat)(L:List Int)(q:Nat)(σ:Hp)(hq:L.length=q)(hl:q≤1000000):ACalls Tryz.prog 217 [.ae b 0 q 1] ((b,an L)::σ) (aE (.tup []) ((b,an L.reverse)::σ)):=by
 refine az Tryz.func217 ?_
 refine cc (S:=Nat) (fun i=>[(0,.ae b 0 q 1),(2,.int .i64 i),(3,.int .i64 ((q:Int)-1-i))]) (fun i=>(b,an (nu L i))::σ) (fun i=>2*i≤q+1) (fun i=>q+1-i) 0 ⟨by omega,⟨rfl,rfl,aV (by rw[IntKind.wrap_i64];omega),trivial⟩,rfl⟩ ?_
 intro i g hi
 have hi:2*i≤q+1:=hi
 have fR:=Fu L i
 refine aq (p:=(i:Int)<(q:Int)-1-i) (fun ab=>?_) (fun au=>?_)
 ·have hj:((q:Int)-1-(i:Int)).toNat=L.length-1-i:=by omega
  refine .sched [] (upto [] 16 0) (by kernel_rfl) ?_
  refine aM ?_
  refine aT 0 rfl (e9 rfl (by omega) (by omega)) ?_
  refine aM ?_
  refine aT 0 rfl (e9 rfl (by omega) (by omega)) ?_
  refine aM ?_
  refine da 0 rfl (nk rfl _ (by omega) (by omega)) ?_
  refine aM ?_
  refine da 0 rfl (nk rfl _ (by omega) (by rw[cN];omega)) ?_
  refine bj (i+1) (by show q+1-(i+1)<q+1-i;omega) (by show 2*(i+1)≤q+1;omega) ⟨rfl,aV (by rw[IntKind.wrap_i64];omega),aV (by rw[IntKind.wrap_i64];omega),trivial⟩ (aJ ?_)
  show (b,an (((nu L i).set ((i:Nat):Int).toNat ((nu L i).getD ((q:Int)-1-(i:Int)).toNat 0)).set ((q:Int)-1-(i:Int)).toNat ((nu L i).getD ((i:Nat):Int).toNat 0)))::σ=(b,an (nu L (i+1)))::σ
  rw[hj,bM]
  rfl
 ·rw[Z8 (by omega) (by omega)]
  exact .done ⟨rfl,rfl⟩
set_option maxHeartbeats 4000000
def mD(k:Nat)(ow al:List Int):List (List Int):=(List.range k).map fun u:Nat=>al.filter fun x=>decide (ow.getD x.toNat 0=(u:Int))
theorem xP(k:Nat)(ow al:List Int):(mD k ow al).length=k:=by unfold mD;rw[cm,pN]
theorem B5{k:Nat}{ow al:List Int}{u:Nat}(h:u<k):(mD k ow al)[u]?=some (al.filter fun x=>decide (ow.getD x.toNat 0=(u:Int))):=by
 unfold mD
 rw[fo,tX h];rfl
theorem Wr{k:Nat}{ow al:List Int}{z:Int}{w:Nat}{rl:List Int}(hz:ow.getD z.toNat 0=(w:Int))(hr:(mD k ow al)[w]?=some rl):mD k ow (al++[z])=(mD k ow al).set w (rl++[z]):=by
 have hw:w<k:=by
  have:=(cg.1 hr).1
  rw[xP]at this
  exact this
 refine zo fun i=>?_
 rw[e8,xP]
 rcases vP i k with hi | hi
 ·rw[B5 hi,B5 hi,BG]
  by_cases e:w=i
  ·subst e
   rw[ah rfl,ah hw]
   rw[B5 hw]at hr
   rw[← Option.some.inj hr,List.filter_cons,if_pos (by rw[hz];simp),List.filter_nil]
  ·rw[if_neg e,List.filter_cons,if_neg (by rw[hz];simp;omega),List.filter_nil,List.append_nil]
 ·rw[tZ (by rw[xP];exact hi),ag (by omega),tZ (by rw[xP];exact hi)]
theorem Ym(A:List jT)(r r2:jT)(B:List jT):kX (A++r2::B)=(kX (A++r::B)).set A.length r2.2.2:=by
 unfold kX
 rw[cO,cO,JC _ _ (by rw[cm];exact a8 _),cm,pL]
 rfl
theorem Z5(A:List jT)(r:jT)(B:List jT):(kX (A++r::B))[A.length]?=some r.2.2:=by
 unfold kX
 rw[cO,iX (by rw[cm];exact a8 _),cm,pL]
 rfl
theorem Uu(bx:Nat)(ow:List Int)(x w:Int)(σ:Hp)(hx:0≤x)(hw:ow[x.toNat]?=some w):ACalls Tryz.prog 219 [.int .i64 x,.ptr bx 0] ((bx,[.af (.int .i64) ow])::σ) (aE (.int .i64 w) ((bx,[.af (.int .i64) ow])::σ)):=by
 refine az Tryz.func219 ?_
 refine aa 0 ?_
 refine aI.mk rfl (bL.mk w hx hw ?_)
 exact .done ⟨rfl,rfl⟩
theorem aeE(n k bx:Nat)(ow al:List Int)(σ:Hp)(mR:1≤k)(dX:k≤64)(NS:al.length≤100000)(hr:∀x∈al,0≤x∧x<(n:Int))(nO:ow.length=n)(jG:∀i:Nat,i<n→0≤ow.getD i 0∧ow.getD i 0<(k:Int)):ACalls Tryz.prog 218 [.af (.int .i64) al,.int .i64 k,.fn (.func 219) [] [.ptr bx 0]] ((bx,[.af (.int .i64) ow])::σ) (fun r σ'=>∃ls:List (List Int),r=.af (.slice (.int .i64)) ls∧σ'=(bx,[.af (.int .i64) ow])::σ∧ls=mD k ow al):=by
 refine Xb ?_
 refine az Tryz.func218 ?_
 refine aZ ?_
 intro bo
 refine .dI (.pull [1] (.refl _)) ?_
 refine cc (S:=Nat×List jT) (fun s=>[(2,.fn (.func 219) [] [.ptr bx 0]),(7,.ae bo 0 k 1),(12,.af (.int .i64) al),(13,.int .i64 al.length),(14,.int .i64 s.1)]) (fun s=>(bx,[.af (.int .i64) ow])::(bo,j8 s.2)::(lG s.2++σ)) (fun s=>s.1≤al.length∧(∀r∈s.2,yz r)∧kX s.2=mD k ow (al.take s.1)) (fun s=>al.length-s.1) (0,List.replicate k (.aj,[],[])) ⟨⟨bD _,fun r hr=>.inl (by rw[BK hr];exact⟨rfl,rfl,rfl⟩),?_⟩,⟨rfl,rfl,rfl,rfl,rfl,trivial⟩,?_⟩ ?_
 ·refine zo fun i=>?_
  show (kX (List.replicate k (.aj,[],[])))[i]?=_
  unfold kX
  rw[fo,vU]
  rcases vP i k with hi | hi
  ·rw[ah hi,B5 hi];rfl
  ·rw[ag (by omega),tZ (by rw[xP];exact hi)];rfl
 ·show _=(bx,[AV.af (.int .i64) ow])::(bo,j8 (List.replicate k (.aj,[],[])))::(lG (List.replicate k (.aj,[],[]))++σ)
  rw[← Z9,Yq];rfl
 rintro⟨j,rs⟩ g ⟨xw,Ev,hL0⟩
 have hj:j≤al.length:=xw
 have ho:∀r∈rs,yz r:=Ev
 have hL:kX rs=mD k ow (al.take j):=hL0
 clear xw Ev hL0
 have vF:rs.length=k:=by
  have:=congrArg List.length hL
  rw[xP]at this
  exact (cm _).symm.trans this
 refine aq (p:=(j:Int)<al.length) (fun ab=>?_) (fun au=>?_)
 rotate_left
 ·have au:¬(j:Int)<al.length:=au
  rw[eG (by omega)]at hL
  subst vF
  exact .perm ((List.Perm.cons _ nS).trans (List.Perm.swap _ _ _)) (.done ⟨bo,rs,rfl,rfl,ho,hL⟩)
 have ab:j<al.length:=by omega
 obtain⟨z,hz⟩:∃z,al[j]=z:=⟨_,rfl⟩
 have gY:=hr z (hz▸cj ab)
 have hzi:al[((j:Nat):Int).toNat]?=some z:=by rw[bM,bF ab,hz]
 have fK:al.take (j+1)=al.take j++[z]:=by rw[fL ab,hz]
 obtain⟨w,hw⟩:∃w:Nat,ow.getD z.toNat 0=(w:Int):=⟨(ow.getD z.toNat 0).toNat,by have:=jG z.toNat (by omega);omega⟩
 have sq:w<k:=by have:=jG z.toNat (by omega);omega
 have hzw:ow[z.toNat]?=some (w:Int):=by rw[← hw,bg,bF (by omega)];rfl
 obtain⟨A,r,B,rfl,hA⟩:∃A r B,rs=A++r::B∧w=A.length:=⟨rs.take w,rs[w]'(by omega),rs.drop (w+1),by simp,by rw[List.length_take];omega⟩
 obtain⟨c,acc,rl⟩:=r
 have hAw:((w:Nat):Int)=A.length:=by rw[hA]
 rw[Kg]
 have NN:=Z6 A (c,acc,rl) B hAw
 have kI:=fun r2=>Yn A (c,acc,rl) r2 B hAw
 have MD:(mD k ow (al.take j))[w]?=some rl:=by rw[← hL,hA];exact Z5 A (c,acc,rl) B
 have iu:=Wr hw MD
 rw[← fK]at iu
 generalize hC:j8 (A++(c,acc,rl)::B)=C at NN kI
 have mM:yz (c,acc,rl):=ho _ (jJ _ (ck ..))
 have hCl:C.length=k:=by rw[← hC,Yo];exact vF
 have hrb:rl.length≤100000:=by
  rw[B5 sq]at MD
  rw[← Option.some.inj MD]
  exact fx (Fa _ _) (by rw[zq];omega)
 have ik:∀v' aU,Acc 1 (rl.length+1) v' aU (an rl++[.int .i64 z])→j+1≤al.length∧(∀r∈A++(.via v',aU,rl++[z])::B,yz r)∧kX (A++(.via v',aU,rl++[z])::B)=mD k ow (al.take (j+1)):=fun v' aU h'=>by
  have gE:(rl++[z]:List Int).length=rl.length+1:=bP
  refine⟨ab,fun r hr=>?_,?_⟩
  ·rcases bV.1 hr with hr | hr
   ·exact ho r (gN _ hr)
   ·rcases eF.1 hr with rfl | hr
    ·refine .inr ⟨v',rfl,?_⟩
     show Acc 1 (rl++[z]:List Int).length v' aU (an (rl++[z]))
     rw[gE,show an (rl++[z])=an rl++[.int .i64 z] from cO]
     exact h'
    ·exact ho r (jJ _ (cW _ hr))
  ·rw[iu,← hL,hA];exact Ym A (c,acc,rl) (.via v',aU,rl++[z]) B
 refine aI.mk rfl (bL.mk z (by omega) hzi ?_)
 refine ay [] (Uu bx ow z w _ gY.1 hzw) ?_
 refine ay [] (Uu bx ow z w _ gY.1 hzw) ?_
 refine aM ?_
 rcases mM with ⟨q1,q2,q3⟩ | ⟨v,q1,q2⟩
 ·have q1:c=.aj:=q1
  have q2:acc=[]:=q2
  have q3:rl=[]:=q3
  subst q1
  subst q2
  subst q3
  refine aT 1 rfl (jc rfl NN) ?_
  intro aG
  refine ic ((aG,[.int .i64 z])::(bx,[.af (.int .i64) ow])::(bo,C)::lG A) (Acc.nil (e:=1)) (.ae 0 aG 0 1 _ rfl (cD rfl)) rfl (by omega) (by decide) (by decide) (fun v' aU h'=>?_)
  refine aM ?_
  refine da 2 rfl ((uA rfl rfl (by omega)).trans (congrArg some (kI (.via v',aU,[]++[z])))) ?_
  exact bj (j+1,A++(.via v',aU,[]++[z])::B) (by show al.length-(j+1)<al.length-j;omega) (ik v' aU h') ⟨rfl,rfl,rfl,rfl,aY (by omega),trivial⟩ (.drop 0 1 (aJ (by rw[Kg];rfl)))
 ·have q1:c=.via v:=q1
  have q2:Acc 1 rl.length v acc (an rl):=q2
  subst q1
  refine aT 1 rfl (jc rfl NN) ?_
  intro aG
  refine ic (k:=rl.length) (n:=1) ((aG,[.int .i64 z])::(bx,[.af (.int .i64) ow])::(bo,C)::lG A) q2 (.ae 0 aG 0 1 _ rfl (cD rfl)) rfl (by omega) (by decide) (by decide) (fun v' aU h'=>?_)
  refine aM ?_
  refine da 2 rfl ((uA rfl rfl (by omega)).trans (congrArg some (kI (.via v',aU,rl++[z])))) ?_
  exact bj (j+1,A++(.via v',aU,rl++[z])::B) (by show al.length-(j+1)<al.length-j;omega) (ik v' aU h') ⟨rfl,rfl,rfl,rfl,aY (by omega),trivial⟩ (.drop 0 1 (aJ (by rw[Kg];rfl)))
theorem QD{k:Nat}{x:Int}(hx:0≤x∧x<(k:Int)):∀(p o:List Int),(∀i:Nat,i<o.length→0≤o.getD i 0∧o.getD i 0<(k:Int))→∀i:Nat,i<o.length→0≤(sj x p o).getD i 0∧(sj x p o).getD i 0<(k:Int)
 | [],_,h=>h
 |a::p,o,h=>by
  have ih:=QD hx p (o.set a.toNat x) fun i hi=>by
   rw[cN]at hi
   rw[bg,e8]
   by_cases e:a.toNat=i
   ·subst e;rw[ah rfl,ah hi];exact hx
   ·rw[ag e,← bg];exact h i hi
  rw[cN]at ih
  exact ih
theorem QC{n k:Nat}{Q:List (List Int)}(hk:1≤k)(aS:∀p∈Q,p≠[])(gl:Q.flatten.length≤n):∀j,j≤Q.length→∀i:Nat,i<n→0≤(rp n k Q j).getD i 0∧(rp n k Q j).getD i 0<(k:Int)
 | 0,_,i,hi=>by
  show 0≤(List.replicate n (0:Int)).getD i 0∧(List.replicate n (0:Int)).getD i 0<(k:Int)
  rw[bg,vU,ah hi]
  show (0:Int)≤0∧(0:Int)<k
  omega
 |j+1,hj,i,hi=>by
  have ih:=QC hk aS gl j (by omega)
  have ab:j<Q.length:=hj
  have tI:=mW.2 (aS _ (cj ab))
  have h1:=Pz Q (j+1)
  rw[List.take_succ_eq_append_getElem ab,List.flatten_append,List.length_append,show [Q[j]].flatten=Q[j] by simp]at h1
  have ha:(Q.take j).flatten.length<n:=by omega
  have hx:k*(Q.take j).flatten.length / n<k:=by
   refine Nat.div_lt_of_lt_mul ?_
   rw[Bt n k]
   exact Nat.mul_lt_mul_of_pos_left ha (by omega)
  have hl:=zL n k Q j
  refine QD (k:=k) ⟨Jm _,Int.ofNat_lt.2 hx⟩ _ _ (fun i hi=>ih i (by omega)) i (by omega)
theorem Xt{n k:Nat}{l:List bE}(hk:1≤k)(aS:∀p∈kl n l,p≠[])(gl:(kl n l).flatten.length≤n):∀i:Nat,i<n→0≤(lK n k l).getD i 0∧(lK n k l).getD i 0<(k:Int):=QC hk aS gl _ (a8 _)
def yI(n k:Nat)(l:List bE)(fr:List Int):List (List Int):=mD k (lK n k l) (oG n l fr).reverse
theorem aeq(n:Nat)(l:List bE)(fr:List Int)(k:Nat)(σ:Hp)(hl:l.length≤100000)(hf:fr.length≤100000)(dT:fq n l=true)(tM:∀x∈fr,0≤x∧x<(n:Int))(h1:1≤k)(h2:k≤64):ACalls Tryz.prog 160 [.int .i64 n,.af dB l,.af (.int .i64) fr,.int .i64 k] σ (fun r σ'=>r=.tup [.af (.slice (.int .i64)) (yI n k l fr),.int .i64 0]∧σ'=σ∧kh n (oG n l fr)∧(∀i:Nat,i<n→0≤(lK n k l).getD i 0∧(lK n k l).getD i 0<(k:Int))∧kh n (kl n l).flatten∧kh n (qa n l fr)):=by
 have hn:1≤n∧n≤256:=by
  unfold fq at dT
  simp only[bR,decide_eq_true_eq]at dT
  omega
 refine az Tryz.func160 ?_
 refine ay [] (VG k _ h1 h2) ?_
 refine .mk [] _ (adj n l fr _ hl hf dT tM) ?_
 rintro _ _ ⟨ba,rfl,rfl,hA,aS,gl,Es⟩
 have jG:=Xt (k:=k) h1 aS (Bs gl.len)
 refine ay [] (adi n l k _ hl dT h1 h2) ?_
 intro bx
 refine ai 0 ?_
 have hlen:=hA.len
 unfold yI
 have nO:(lK n k l).length=n:=zL n k _ _
 generalize lK n k l=ow at jG nO
 generalize oG n l fr=L at hA hlen
 refine ay [1] (abd ba L _ _ rfl (by omega)) ?_
 refine .cJ (args':=[.af (.int .i64) L.reverse,.int .i64 k,.fn (.func 219) [] [.ptr bx 0]]) 0 ba 0 L.length 1 _ (.int .i64) L.reverse rfl (by rw[gM,eG (by rw[jy,sI,dO];exact a8 _)];exact ui _) ⟨sI,rfl,by decide⟩ (cE .here (.refl _)) ?_
 refine .mk [] _ (aeE n k bx ow L.reverse _ h1 h2 (by rw[sI];omega) (fun x hx=>hA.rg x (xH.1 hx)) nO jG) ?_
 rintro _ _ ⟨ls,rfl,rfl,rfl⟩
 exact .drop 0 1 (.done ⟨rfl,rfl,hA,jG,gl,Es⟩)
def om(b:Nat)(a ws:List Int):Nat→List Int
 | 0=>ws
 |i+1=>(om b a ws i).set (b+i) (wd a i)
theorem JP(b:Nat)(a ws:List Int)(k:Nat):(om b a ws k).length=ws.length:=by
 induction k with
 |zero=>rfl
 |succ k ih=>rw[om,cN,ih]
theorem QA{b:Nat}{a ws:List Int}:∀(k:Nat),b+k≤1000000000→AQ (b:Int) a ws k=om b a ws k
 | 0,_=>rfl
 |k+1,h=>by
  rw[AQ,om,QA k (by omega),show wr ((b:Int)+(k:Int))=((b+k:Nat):Int) from (iM (by omega) (by omega)).trans (tT b k).symm]
  exact lC _
def np(N W:Nat)(st:Nat→List Int)(ws:List Int):Nat→List Int
 | 0=>ws
 |v+1=>(om (v*W) (st v) (np N W st ws v) W).set (N*W+v) 1
theorem zE(N W:Nat)(st:Nat→List Int)(ws:List Int)(k:Nat):(np N W st ws k).length=ws.length:=by
 induction k with
 |zero=>rfl
 |succ k ih=>rw[np,cN,JP,ih]
def kr(b r:Nat)(x ws:List Int):Nat→List Int
 | 0=>ws
 |i+1=>(kr b r x ws i).set (b+2+(1+i) % r) (x.getD i 0)
theorem P5(b r:Nat)(x ws:List Int)(k:Nat):(kr b r x ws k).length=ws.length:=by
 induction k with
 |zero=>rfl
 |succ k ih=>rw[kr,cN,ih]
theorem Ti(b r:Nat)(x ws:List Int)(y:Int):∀k,kr b r x (ws.set (b+1) y) k=(kr b r x ws k).set (b+1) y
 | 0=>rfl
 |k+1=>by rw[kr,kr,Ti b r x ws y k,List.set_comm _ _ (by omega)]
def nU(b r:Nat)(x ws:List Int):List Int:=kr b r x ((ws.set b 1).set (b+1) ((1+x.length:Nat):Int)) x.length
theorem XR(b r:Nat)(x ws:List Int):(nU b r x ws).length=ws.length:=by rw[nU,P5,cN,cN]
theorem aaP(b r:Nat)(x ws:List Int):(kr b r x ((ws.set b 1).set (b+1) 1) x.length).set (b+1) ((1+x.length:Nat):Int)=nU b r x ws:=by
 rw[← Ti,List.set_set];rfl
def lh(b0 d r:Nat)(ls:List (List Int))(ws:List Int):Nat→List Int
 | 0=>ws
 |w+1=>nU (b0+w*d) r (ls.getD w []) (lh b0 d r ls ws w)
theorem Pn(b0 d r:Nat)(ls:List (List Int))(ws:List Int)(k:Nat):(lh b0 d r ls ws k).length=ws.length:=by
 induction k with
 |zero=>rfl
 |succ k ih=>rw[lh,XR,ih]
def yF(N W:Nat)(st:Nat→List Int)(ls:List (List Int))(ws:List Int):List Int:=
 lh (N*W+N+1) (N+3) (N+1) ls ((np N W st ws N).set (N*W+N) (N:Int)) ls.length
theorem We(N W:Nat)(st:Nat→List Int)(ls:List (List Int))(ws:List Int):(yF N W st ls ws).length=ws.length:=by rw[yF,Pn,cN,zE]
theorem Am(x:List Int)(i a:Nat)(z:Int)(hi:i<x.length):(x.set i z).getD a 0=if a=i then z else x.getD a 0:=by
 rw[bg,bg,e8]
 by_cases h:a=i
 ·subst h;rw[ah rfl,ah hi,ah rfl];rfl
 ·rw[ag (fun e=>h e.symm),ag h]
theorem qO(x:List Int)(i a:Nat)(z:Int)(h:a≠i):(x.set i z).getD a 0=x.getD a 0:=by
 rw[bg,bg,e8,ag (fun e=>h e.symm)]
theorem Rz{b:Nat}{l ws:List Int}{a:Nat}:∀k,b+k≤a→(om b l ws k).getD a 0=ws.getD a 0
 | 0,_=>rfl
 |k+1,h=>by rw[om,qO _ _ _ _ (by omega)];exact Rz k (by omega)
set_option maxHeartbeats 4000000
def nt(s:Sy)(l:Lay):List (List Int):=yI (nN s) l.k.toNat s.aW s.entry
def yE(s:Sy)(l:Lay)(ws:List Int):List Int:=yF (nN s) (nW l) (fun v=>gv s v) (nt s l) ws
theorem Z7{s:Sy}(hg:Good s):fq s.n s.aW=true:=by
 unfold fq
 have h1:=hg.n1
 have h2:=hg.n2
 have h3:=hg.el
 simp only[bR,decide_eq_true_eq,fy]
 exact⟨⟨⟨h1,h2⟩,h3⟩,fun e he=>⟨kP.2 (hg.uX e he).1,kP.2 (hg.uX e he).2⟩⟩
theorem Pa(s:Sy)(l:Lay):(nt s l).length=l.k.toNat:=xP _ _ _
theorem Xc{f:FuncId}{xs:List AV}{σ ki σ2:Hp}{x:AV}(h:ACalls Tryz.prog f xs σ (aE x ki))(e:ki=σ2):ACalls Tryz.prog f xs σ (aE x σ2):=e▸h
theorem Y6{s:Sy}{l:Lay}(hs:LS s l){v:Nat}(hv:v<nN s)(us x:List Int):ig (AQ (aX l v) x us (cw l.words)) (wr (cX l+(v:Nat))) 1=(om (v*nW l) x us (nW l)).set (nN s*nW l+v) 1:=by
 have h1:=hs.nn
 have h2:=hs.ww
 have h3:=rW h1.2.2 h2.2
 have h4:(v+1)*nW l≤nN s*nW l:=lY _ hv
 rw[qC]at h4
 rw[hs.U2 hv,hs.AF hv,QA _ (by show _+nW l≤_;omega)]
 exact lC _
theorem XO{s:Sy}{l:Lay}(hs:LS s l)(us:List Int):ig us (du l) (wu s.n)=us.set (nN s*nW l+nN s) (nN s:Int):=by
 have h1:=hs.nn
 rw[hs.count,lC,show wu s.n=(nN s:Int) by show IntKind.u64.wrap s.n=_;rw[IntKind.wrap_u64];omega]
theorem XM{a:Nat}(ha:a≤1000000)(us:List Int):ig (ig us (a:Int) 1) (gK (a:Int)) 1=(us.set a 1).set (a+1) 1:=by
 rw[lC,show gK (a:Int)=((a+1:Nat):Int) from (iM (by omega) (by omega)).trans (tT a 1).symm,lC]
theorem XN{s:Sy}{l:Lay}(hs:LS s l){a i:Nat}(ha:a≤1000000)(hi:i≤1000000):wr (wr ((a:Int)+2)+(wr (1+(i:Int))).tmod (eg l))=((a+2+(1+i) % (nN s+1):Nat):Int):=by
 have h1:=hs.nn
 have hm:=mT (1+i) (show 0<nN s+1 by omega)
 rw[iM (z:=(a:Int)+2) (by omega) (by omega),iM (z:=1+(i:Int)) (by omega) (by omega),hs.room.1,show (1+(i:Int)).tmod ((nN s+1:Nat):Int)=(((1+i) % (nN s+1):Nat):Int) by rw[show (1+(i:Int))=((1+i:Nat):Int) by omega];rfl]
 rw[iM (by omega) (by omega)]
 omega
theorem Y5{a r:Nat}(ha:a≤1000000)(x us:List Int)(hx:x.length≤1000000):ig (kr a r x ((us.set a 1).set (a+1) 1) x.length) (wr ((a:Int)+1)) (wu (wr (1+(x.length:Int))))=nU a r x us:=by
 rw[iM (z:=(a:Int)+1) (by omega) (by omega),iM (z:=1+(x.length:Int)) (by omega) (by omega),show wu (1+(x.length:Int))=((1+x.length:Nat):Int) by show IntKind.u64.wrap _=_;rw[IntKind.wrap_u64];omega,show (a:Int)+1=((a+1:Nat):Int) by omega,lC]
 exact aaP _ _ _ _
theorem Y4{us:List Int}{b:Nat}{z:Int}(hz:0≤z)(fJ:z≤1000000):ig us (b:Int) (wu z)=us.set b z:=by
 rw[lC,show wu z=z by show IntKind.u64.wrap _=_;rw[IntKind.wrap_u64];omega]
structure j7(s:Sy)(l:Lay):Prop where
 all:kh (nN s) (oG (nN s) s.aW s.entry)
 own:∀i:Nat,i<nN s→0≤(lK (nN s) l.k.toNat s.aW).getD i 0∧(lK (nN s) l.k.toNat s.aW).getD i 0<(l.k.toNat:Int)
 flat:kh (nN s) (kl (nN s) s.aW).flatten
 post:kh (nN s) (qa (nN s) s.aW s.entry)
theorem j7.rows{s:Sy}{l:Lay}(h:j7 s l)(hn:nN s≤256):∀x∈nt s l,x.length≤256∧∀z∈x,0≤z∧z<(nN s:Int):=by
 intro x hx
 unfold nt yI mD at hx
 obtain⟨u,_,rfl⟩:=dP.1 hx
 have hlen:=Fa (fun y=>decide ((lK (nN s) l.k.toNat s.aW).getD y.toNat 0=(u:Int))) (oG (nN s) s.aW s.entry).reverse
 rw[sI]at hlen
 have:=h.all.len
 exact⟨by omega,fun z hz=>h.all.rg z (xH.1 (nQ.1 hz).1)⟩
theorem ad7(s:Sy)(l:Lay)(k:Nat)(σ:Hp)(hf:Fit s)(hg:Good s)(hk:l.k=k)(h1:1≤k)(h2:k≤64):ACalls Tryz.prog 160 [.int .i64 s.n,.af dB s.aW,.af (.int .i64) s.entry,.int .i64 k] σ (fun r σ'=>r=.tup [.af (.slice (.int .i64)) (nt s l),.int .i64 0]∧σ'=σ∧j7 s l):=by
 have hn:s.n=(nN s:Int):=by have:=hg.n1;unfold nN;omega
 have hr:=Z7 hg
 have he:=hg.ent
 have dX:k=l.k.toNat:=by omega
 subst dX
 unfold nt
 rw[hn]at hr he ⊢
 refine (aeq (nN s) s.aW s.entry l.k.toNat σ hf.DW hf.AT hr he h1 h2).mono ?_
 rintro _ _ ⟨rfl,rfl,hA,jG,gl,Es⟩
 exact⟨rfl,rfl,hA,jG,gl,Es⟩
theorem adp(s:Sy)(k:Nat)(p q:Nat)(ws:List Int)(σ:Hp)(hf:Fit s)(he:dv s k=0)(eD:nF (iB s k)≤ws.length):ACalls Tryz.prog 97 [mL p,.agg (bU s),.int .i64 k] (cd p q ws σ) (fun r σ'=>r=.int .i64 0∧σ'=cd p q (yE s (iB s k) ws) σ∧j7 s (iB s k)):=by
 obtain⟨hs,EO⟩:=Ay hf he
 obtain⟨xo,fJ,mh⟩:=hs.size
 obtain⟨hc,mR,dX⟩:=KH he
 have hg:=Lp hc
 have hn:=hs.nn
 have hw:=hs.ww
 have fg:=hs.low
 have hN:=hs.n
 refine az Tryz.func97 ?_
 obtain⟨l,hl⟩:∃l,iB s k=l:=⟨_,rfl⟩
 have e1:AV.tup [.agg (gV (iB s k)),.int .i64 (dv s k)]=.tup [.agg (gV l),.int .i64 (dv s k)]:=by rw[hl]
 rw[hl]at hs EO xo fJ mh hw fg hN eD ⊢
 generalize hE:dv s k=E at e1 he
 intro b4
 refine aa 0 ?_
 refine ay [] (x8 (Ho s k _ hf) (hE▸e1)) ?_
 intro b7
 refine ai 0 ?_
 refine ew (fun c3=>?_) (fun c3=>?_)
 ·have c3:¬(dv s (↑k:Int)=0):=by simpa using c3
  exact absurd (hE.trans he) c3
 refine ay [] (dK _ _ _) ?_
 refine .sched [1,3] (upto [1,3] 5 0) (by kernel_rfl) ?_
 refine⟨_,mLen_,?_⟩
 refine aL [3,3] (VH p q ws _) ?_
 refine aa 0 ?_
 refine aL [] (Uw _ _) ?_
 refine aq (p:=(ws.length:Int)<iY l l.k) (fun c4=>?_) (fun c4=>?_)
 ·omega
 refine aa 1 ?_
 refine cc (S:=Nat) (fun v=>[(0,mL p),(2,.int .i64 k),(4,.ptr b4 0),(7,.ptr b7 0),(36,.int .i64 s.n),(37,.int .i64 v)]) (fun v=>(b7,gV l)::(b4,bU s)::cd p q (np (nN s) (nW l) (fun v=>gv s v) ws v) σ) (fun v=>v≤nN s) (fun v=>nN s-v) 0 ⟨bD _,⟨rfl,rfl,rfl,rfl,rfl,rfl,trivial⟩,rfl⟩ ?_
 intro v g ru
 have hv:v≤nN s:=ru
 clear ru
 have vC:=zE (nN s) (nW l) (fun v=>gv s v) ws v
 refine aq (p:=(v:Int)<s.n) (fun ab=>?_) (fun au=>?_)
 ·have ab:v<nN s:=by omega
  have qd:jd s v=0:=(F4 hc ⟨by omega,by omega⟩).symm
  refine aa 1 ?_
  refine ay [] (Zv s v _ hf) ?_
  rw[CG qd]
  refine aa 0 ?_
  refine ay [] (Hq l v _) ?_
  refine ay [3,3] (agy p q _ _ _ _ _ _) ?_
  refine .sched [2] (upto [2] 10 0) (by kernel_rfl) ?_
  refine aa 2 ?_
  refine aL [] (Lv l _) ?_
  refine fi.mk hStore_ ?_
  refine⟨_,mStore_,?_⟩
  refine ay [] (aStore p q _ _ _ _) ?_
  exact bj (v+1) (by show nN s-(v+1)<nN s-v;omega) ab ⟨rfl,rfl,rfl,rfl,rfl,aY (by omega),trivial⟩ (.pull [3,3] (aJ (congrArg (fun z=>_::_::cd p q z σ) (Y6 hs ab _ _))))
 have au:v=nN s:=by omega
 subst au
 obtain⟨us,gZ⟩:∃us,np (nN s) (nW l) (fun v=>gv s v) ws (nN s)=us:=⟨_,rfl⟩
 rw[gZ]at vC ⊢
 refine .sched [2] (upto [2] 11 0) (by kernel_rfl) ?_
 refine aa 0 ?_
 refine aL [] (Lv l _) ?_
 refine aa 1 ?_
 refine fi.mk hStore_ ?_
 refine⟨_,mStore_,?_⟩
 refine ay [3,3] (aStore p q _ _ _ _) ?_
 refine aa 3 ?_
 refine aa 3 ?_
 refine aa 3 ?_
 refine .mk [] _ (ad7 s l k _ hf hg EO (by omega) (by omega)) ?_
 rintro _ τ ⟨rfl,Ng,bO⟩
 subst τ
 have hx:=bO.rows hn.2.2
 have dg:=Pa s l
 have xf:yE s l ws=lh (nN s*nW l+nN s+1) (nN s+3) (nN s+1) (nt s l) ((np (nN s) (nW l) (fun v=>gv s v) ws (nN s)).set (nN s*nW l+nN s) (nN s:Int)) (nt s l).length:=rfl
 rw[gZ]at xf
 generalize nt s l=ls at hx dg xf
 refine cc (S:=Nat) (fun w=>[(0,mL p),(7,.ptr b7 0),(85,.af (.slice (.int .i64)) ls),(86,.int .i64 ls.length),(87,.int .i64 w)]) (fun w=>cd p q (lh (nN s*nW l+nN s+1) (nN s+3) (nN s+1) ls (us.set (nN s*nW l+nN s) (nN s:Int)) w) ((b7,gV l)::(b4,bU s)::σ)) (fun w=>w≤ls.length) (fun w=>ls.length-w) 0 ⟨bD _,⟨rfl,rfl,rfl,rfl,rfl,trivial⟩,congrArg (fun z=>cd p q z _) (XO hs us)⟩ ?_
 intro w g2 Ek
 have H0:w≤ls.length:=Ek
 clear Ek
 refine aq (p:=(w:Int)<(ls.length:Int)) (fun ab=>?_) (fun au=>?_)
 rotate_left
 ·have au:w=ls.length:=by omega
  subst au
  rw[xf]
  exact .drop 2 2 (.done ⟨rfl,rfl,bO⟩)
 have ab:w<ls.length:=by omega
 obtain⟨x,ir⟩:∃x:List Int,ls[w]=x:=⟨_,rfl⟩
 obtain⟨Nl,hxz⟩:=hx _ (cj ab)
 rw[ir]at Nl hxz
 have hxd:ls.getD w []=x:=by rw[bg,bF ab,ir];rfl
 have ED:=hs.w7 (k:=w) (by omega)
 have cQ:lh (nN s*nW l+nN s+1) (nN s+3) (nN s+1) ls (us.set (nN s*nW l+nN s) (nN s:Int)) (w+1)=nU (nN s*nW l+nN s+1+w*(nN s+3)) (nN s+1) x (lh (nN s*nW l+nN s+1) (nN s+3) (nN s+1) ls (us.set (nN s*nW l+nN s) (nN s:Int)) w):=by rw[lh,hxd]
 have tP:nN s*nW l+nN s+1+w*(nN s+3)≤1000000:=by
  have h3:=rW hn.2.2 hw.2
  have h4:w*(nN s+3)≤64*259:=tS (by omega) (by omega)
  omega
 refine aI.mk rfl (bL.mk x (by omega) ((get_some ab).trans (congrArg some ir)) ?_)
 refine aa 2 ?_
 refine ay [] (x8 (CS l w _) (congrArg (fun z=>AV.agg [.int .i64 z,.int .i64 (eg l)]) ED)) ?_
 generalize nN s*nW l+nN s+1+w*(nN s+3)=a at ED cQ tP
 generalize lh (nN s*nW l+nN s+1) (nN s+3) (nN s+1) ls (us.set (nN s*nW l+nN s) (nN s:Int)) w=vs at cQ
 intro b16
 refine ai 0 ?_
 refine aa 0 ?_
 refine ay [2,2] (Xc (ade p q vs a (eg l) _) (congrArg (fun z=>cd p q z _) (XM tP vs))) ?_
 refine cc (S:=Nat) (fun i=>[(0,mL p),(7,.ptr b7 0),(15,.af (.int .i64) x),(16,.ptr b16 0),(85,.af (.slice (.int .i64)) ls),(86,.int .i64 ls.length),(87,.int .i64 w),(98,.af (.int .i64) x),(99,.int .i64 x.length),(100,.int .i64 i)]) (fun i=>cd p q (kr a (nN s+1) x ((vs.set a 1).set (a+1) 1) i) ((b16,[.int .i64 a,.int .i64 (eg l)])::(b7,gV l)::(b4,bU s)::σ)) (fun i=>i≤x.length) (fun i=>x.length-i) 0 ⟨bD _,⟨rfl,rfl,rfl,rfl,rfl,rfl,rfl,rfl,rfl,rfl,trivial⟩,rfl⟩ ?_
 intro i g3 gk
 have hi:i≤x.length:=gk
 clear gk
 refine aq (p:=(i:Int)<(x.length:Int)) (fun dy=>?_) (fun ji=>?_)
 ·have dy:i<x.length:=by omega
  obtain⟨z,hz⟩:∃z,x[i]=z:=⟨_,rfl⟩
  have iq:=hxz z (hz▸cj dy)
  have hzd:x.getD i 0=z:=by rw[bg,bF dy,hz];rfl
  have Vv:kr a (nN s+1) x ((vs.set a 1).set (a+1) 1) (i+1)=(kr a (nN s+1) x ((vs.set a 1).set (a+1) 1) i).set (a+2+(1+i) % (nN s+1)) z:=by rw[kr,hzd]
  have sy:=XN hs (i:=i) tP (by omega)
  generalize kr a (nN s+1) x ((vs.set a 1).set (a+1) 1) i=ys at Vv
  have ao:ig ys (wr (wr ((a:Int)+2)+(wr (1+(i:Int))).tmod (eg l))) (wu z)=kr a (nN s+1) x ((vs.set a 1).set (a+1) 1) (i+1):=by
   rw[sy,Y4 (by omega) (by omega),Vv]
  refine aI.mk rfl (bL.mk z (by omega) ((get_some dy).trans (congrArg some hz)) ?_)
  refine .sched [7] (upto [7] 16 0) (by kernel_rfl) ?_
  refine aa 2 ?_
  refine aa 3 ?_
  refine aL [] (LU l _) ?_
  refine aI.mk (by rw[hs.room.1];omega) ?_
  refine fi.mk hStore_ ?_
  refine⟨_,mStore_,?_⟩
  refine ay [] (aStore p q _ _ _ _) ?_
  exact bj (i+1) (by show x.length-(i+1)<x.length-i;omega) dy ⟨rfl,rfl,rfl,rfl,rfl,rfl,rfl,rfl,rfl,aY (by omega),trivial⟩ (aJ (congrArg (fun z=>cd p q z _) ao))
 have ji:i=x.length:=by omega
 subst ji
 refine aa 2 ?_
 refine⟨_,mStore_,?_⟩
 refine ay [] (aStore p q _ _ _ _) ?_
 exact bj (w+1) (by show ls.length-(w+1)<ls.length-w;omega) ab ⟨rfl,rfl,rfl,rfl,aY (by omega),trivial⟩ (.drop 2 1 (aJ (congrArg (fun z=>cd p q z _) ((Y5 tP x vs (by omega)).trans cQ.symm))))
set_option maxHeartbeats 4000000
theorem abx{α β:Type}(rs:List α)(L:List β)(i:Nat)(x:β)(h:i<rs.length):rs.zip (L.set i x)=(rs.zip L).set i (rs[i],x):=by
 refine List.ext_getElem (by simp) fun k h1 h2=>?_
 rw[Jh]
 simp only[List.getElem_zip,Jh]
 split
 ·rename_i he;subst he;rfl
 ·rfl
set_option maxHeartbeats 4000000
abbrev ft:Sh:=.field (.int .i64) (.field (.int .i64) .nil)
theorem afn(W:AWorld)(lb:Nat)(aC:List (Int×Int×Unit))(s0:W.S)(σ:Hp)(hn:W.L.length≤100000)(hs:aC.length≤100000)(hf:W.free (W.abs s0))(l7:∀a k,W.tell a k=a):
  ACalls Tryz.prog 101 [W.mv,.ae lb 0 W.L.length 1,.af ft aC] ((lb,W.L)::(W.B s0++σ)) (KW W aC (W.abs s0) [(lb,W.L)] σ):=by
 refine az Tryz.func101 ?_
 intro aG
 refine .perm _ (nS (a:=(aG,[.aj,.aj,.int .i64 0])) (l₁:=(lb,W.L)::W.B s0) (l₂:=σ)) (aft W lb aC s0 ((aG,[.aj,.aj,.int .i64 0])::σ) hn hs hf l7) ?_
 rintro x σ' ⟨s',h1,rfl,rfl⟩
 refine⟨_,(nS (a:=(aG,[.aj,.aj,.int .i64 0])) (l₁:=(lb,W.L)::W.B s') (l₂:=σ)).symm,?_⟩
 refine ai 0 ?_
 refine aa 0 ?_
 exact .drop 0 1 (.done ⟨s',h1,rfl,rfl⟩)
theorem Vc(sv:AV)(u:Int)(dn:List Bool)(σ:Hp)(hn:dn.length≤1000000):ACalls Tryz.prog 42 [.agg [sv,.af .bool dn,.int .i64 u]] σ (aE (.bool (dn.all id)) σ):=by
 refine az Tryz.func42 ?_
 intro aG
 refine aa 0 ?_
 refine cc (S:=Nat) (fun s=>[(6,.af .bool dn),(7,.int .i64 dn.length),(8,.int .i64 s)]) (fun _=>(aG,[sv,.af .bool dn,.int .i64 u])::σ) (fun s=>s≤dn.length∧(dn.take s).all id=true) (fun s=>dn.length-s) 0 ⟨⟨bD _,rfl⟩,⟨rfl,rfl,rfl,trivial⟩,rfl⟩ ?_
 rintro k g ⟨hk,cH⟩
 refine aq (fun h=>?_) (fun h=>?_)
 ·have h:(k:Int)<dn.length:=h
  have mQ:k<dn.length:=by omega
  cases hd:dn[k] with
  |true=>
   refine aI.mk rfl (bL.mk true (by omega) ((get_some mQ).trans (congrArg some hd)) ?_)
   refine bj (k+1) ?_ ⟨mQ,?_⟩ ⟨rfl,rfl,aY (by omega),trivial⟩ (aJ rfl)
   ·show dn.length-(k+1)<dn.length-k;omega
   ·rw[fL mQ,Bv,cH,hd];rfl
  |false=>
   refine aI.mk rfl (bL.mk false (by omega) ((get_some mQ).trans (congrArg some hd)) ?_)
   exact .drop 0 1 (.done ⟨congrArg AV.bool (Up mQ hd).symm,rfl⟩)
 ·have h:¬(k:Int)<dn.length:=h
  exact .drop 0 1 (.done ⟨congrArg AV.bool (by rw[← eG (show dn.length≤k by omega)];exact cH.symm),rfl⟩)
set_option maxHeartbeats 4000000
theorem ACalls.Ve{P:Program}{f:FuncId}{xs:List AV}{σ σ2:Hp}{R R':AV→Hp→Prop}(h:ACalls P f xs σ2 R)(hp:σ2.Perm σ)(go:∀r σ',R r σ'→∃eb,eb.Perm σ'∧R' r eb):ACalls P f xs σ R':=
 x5 (.perm R hp h go)
structure WZ where
 r:Nat
 c:AV
 acc:Hp
 x:WS
 rd:yN c acc x.now
def xk(s:Sy)(l:Lay)(y:(Nat×Nat)×WZ):Hp:=WB s l y.1.1 y.1.2 y.2.r y.2.c y.2.acc y.2.x
def eB(s:Sy)(l:Lay)(I:List (Nat×Nat))(Z:List WZ):Hp:=(I.zip Z).flatMap (xk s l)
structure WA where
 W:List WS
 ws:List Int
structure rI where
 ws:List Int
 Z:List WZ
def rI.abs(t:rI):WA:=⟨t.Z.map (·.x),t.ws⟩
def fF(s:Sy)(l:Lay)(a:WA)(i:Nat)(d:Int):WA×Bool:=match a.W[i]? with
 |some x=>(⟨a.W.set i (dC bG s l i x d a.ws).1,(dC bG s l i x d a.ws).2.1⟩,(dC bG s l i x d a.ws).2.2)
 |none=>(a,true)
structure uQ(s:Sy)(l:Lay)(a:WA):Prop where
 len:(a.W.length:Int)=l.k
 fl:pC s l a.ws
 wv:∀(i:Nat) (x:WS),a.W[i]?=some x→WV s l i x
theorem Gg{s:Sy}{l:Lay}{a:WA}{i:Nat}{d:Int}{x:WS}(h:a.W[i]?=some x):fF s l a i d=(⟨a.W.set i (dC bG s l i x d a.ws).1,(dC bG s l i x d a.ws).2.1⟩,(dC bG s l i x d a.ws).2.2):=by
 unfold fF;rw[h]
theorem uQ.step{s:Sy}{l:Lay}{a:WA}(hs:LS s l)(h:uQ s l a)(i:Nat)(d:Int):uQ s l (fF s l a i d).1:=by
 cases hx:a.W[i]? with
 |none=>unfold fF;rw[hx];exact h
 |some x=>
  rw[Gg hx]
  have hi:=(cg.1 hx).1
  have hl:=h.len
  obtain⟨h1,h2,h3⟩:=abD (d:=d) hs ⟨by omega,by omega⟩ h.fl.2 (h.wv i x hx)
  refine⟨?_,⟨h2.trans h.fl.1,h1⟩,fun j y hy=>?_⟩
  ·show ((a.W.set i _).length:Int)=l.k
   rw[cN];exact hl
  ·have hy:(a.W.set i (dC bG s l i x d a.ws).1)[j]?=some y:=hy
   rw[e8]at hy
   by_cases ml:i=j
   ·subst ml
    rw[ah rfl,ah hi]at hy
    cases hy
    exact h3
   ·rw[ag ml]at hy
    exact h.wv j y hy
section
variable {s:Sy} {l:Lay} {p q:Nat} {I:List (Nat×Nat)}
theorem Sz{Z:List WZ}{i:Nat}(hi:i<I.length)(hz:i<Z.length):(eB s l I Z).Perm (WB s l I[i].1 I[i].2 Z[i].r Z[i].c Z[i].acc Z[i].x++((I.zip Z).eraseIdx i).flatMap (xk s l)):=by
 have h:i<(I.zip Z).length:=by simp;omega
 have h1:=PZ (f:=xk s l) h
 have e:(I.zip Z)[i]=(I[i],Z[i]):=by simp
 rw[e]at h1
 exact h1
theorem ZG{Z:List WZ}{i:Nat}(hi:i<I.length)(hz:i<Z.length)(y:WZ):(eB s l I (Z.set i y)).Perm (WB s l I[i].1 I[i].2 y.r y.c y.acc y.x++((I.zip Z).eraseIdx i).flatMap (xk s l)):=by
 have h:i<(I.zip Z).length:=by simp;omega
 have h1:=Y1 (f:=xk s l) h (I[i],y)
 rw[← abx _ _ _ _ hi]at h1
 exact h1
theorem wzP{X Y:Hp}(b:Hp)(h:X.Perm (b++Y))(ws:List Int)(σ:Hp):(cd p q ws X++σ).Perm (b++cd p q ws (Y++σ)):=by
 have h1:(cd p q ws X++σ).Perm (cd p q ws (b++Y)++σ):=List.Perm.append_right σ (List.Perm.append_left [_,_] h)
 refine h1.trans ?_
 show ([(p,tE q ws.length),(q,aO ws)]++((b++Y)++σ)).Perm (b++([(p,tE q ws.length),(q,aO ws)]++(Y++σ)))
 rw[dQ]
 exact nf [[(p,tE q ws.length),(q,aO ws)],b,Y] σ (a:=[0,1,2]) (b:=[1,0,2]) (by decide)
theorem afm{t:rI}{i:Nat}{d:Int}(σ:Hp)(hs:LS s l)(hi:i<I.length)(hI:I[i].1=i)(hk:(I.length:Int)=l.k)(hf:uQ s l t.abs):ACalls Tryz.prog 390 [.ptr I[i].2 0,mL p,.int .i64 d] (cd p q t.ws (eB s l I t.Z)++σ) (fun x σ'=>∃t':rI,t'.abs=(fF s l t.abs i d).1∧x=.bool (fF s l t.abs i d).2∧σ'=cd p q t'.ws (eB s l I t'.Z)++σ):=by
 have hz:i<t.Z.length:=by
  have h1:=hf.len
  have h2:((t.Z.map (·.x)).length:Int)=l.k:=h1
  rw[cm]at h2;omega
 have hW:t.abs.W[i]?=some t.Z[i].x:=by
  show (t.Z.map (·.x))[i]?=_
  rw[fo,bF hz];rfl
 have hB:=wzP (p:=p) (q:=q) _ (Sz (s:=s) (l:=l) hi hz) t.ws σ
 have IL:=fun (ws:List Int) (y:WZ)=>wzP (p:=p) (q:=q) _ (ZG (s:=s) (l:=l) hi hz y) ws σ
 have so:=hf.wv i _ hW
 rw[hI]at hB IL
 have ao:=Gg (s:=s) (l:=l) (d:=d) hW
 have k9:∀(y:WZ),(t.Z.set i y).map (·.x)=t.abs.W.set i y.x:=fun y=>by show _=(t.Z.map (·.x)).set i y.x;rw[oS]
 rw[ao]
 refine (agv p q I[i].2 t.Z[i].r t.Z[i].c t.Z[i].acc s l i t.Z[i].x d t.ws (((I.zip t.Z).eraseIdx i).flatMap (xk s l)++σ) hs.fit hf.fl.2.a64 (so.ok hs) t.Z[i].rd (x':=(dC bG s l i t.Z[i].x d t.ws).1) (ws':=(dC bG s l i t.Z[i].x d t.ws).2.1) (b:=(dC bG s l i t.Z[i].x d t.ws).2.2) rfl).Ve hB.symm ?_
 rintro _ _ ⟨r',c',aU,nL,rfl,rfl⟩
 refine⟨_,IL _ ⟨r',c',aU,(dC bG s l i t.Z[i].x d t.ws).1,nL⟩,⟨(dC bG s l i t.Z[i].x d t.ws).2.1,t.Z.set i ⟨r',c',aU,(dC bG s l i t.Z[i].x d t.ws).1,nL⟩⟩,?_,rfl,rfl⟩
 exact congrArg (fun z=>WA.mk z _) (k9 _)
end
theorem mWorker_ : Meth Tryz.prog 168 "Step" 390 := fun a w => by kernel_rfl
def CW(s:Sy)(l:Lay)(hs:LS s l)(p q:Nat)(I:List (Nat×Nat))(hI:∀i (h:i<I.length),I[i].1=i)(hk:(I.length:Int)=l.k):AWorld where
 A:=WA
 S:=rI
 abs:=rI.abs
 B t:=cd p q t.ws (eB s l I t.Z)
 L:=I.map fun y=>.iface 168 (.ptr y.2 0)
 mt:=94
 mp:=p
 step:=fF s l
 tell a _:=a
 free:=uQ s l
 keeps a i d h _:=h.step hs i d
 told _ _ h:=h
 mach i h:=by
  have hi:i<I.length:=by simpa using h
  refine .inr ⟨168,I[i].2,by simp,_,mWorker_,fun t d σ hf=>?_⟩
  refine (afm (p:=p) (q:=q) (t:=t) (d:=d) σ hs hi (hI i hi) hk hf).mono ?_
  rintro _ _ ⟨t',h1,rfl,rfl⟩
  exact⟨t',h1,rfl,rfl⟩
set_option maxHeartbeats 4000000
def ta(l:Lay)(ws:List Int)(n:Nat):List (List Int):=(List.range n).map fun v:Nat=>pA (aX l v) ws (cw l.words)
theorem Xd(bl bm p q v:Nat)(l:Lay)(ws:List Int)(τ:Hp):ACalls Tryz.prog 105 [.int .i64 v,.ptr bl 0,.ptr bm 0] ((bl,gV l)::(bm,[mL p])::cd p q ws τ) (aE (.af (.int .u64) (pA (aX l v) ws (cw l.words))) ((bl,gV l)::(bm,[mL p])::cd p q ws τ)):=by
 refine az Tryz.func105 ?_
 refine .quiet (by kernel_rfl) ?_
 refine aa 0 ?_
 refine aL [] (Hq l v _) ?_
 refine aa 1 ?_
 refine aL [3,3] (agC p q ws _ _ _ _) ?_
 exact .done ⟨rfl,rfl⟩
theorem Qa(p q:Nat)(l:Lay)(n:Nat)(ws:List Int)(σ:Hp)(hn:l.n=n)(tJ:n≤100000):ACalls Tryz.prog 43 [mL p,.agg (gV l)] (cd p q ws σ) (aE (.af (.slice (.int .u64)) (ta l ws n)) (cd p q ws σ)):=by
 refine az Tryz.func43 ?_
 intro bm
 intro bl
 refine aa 0 ?_
 have hE:=fun τ=>aeJ 105 [.ptr bl 0,.ptr bm 0] ((bl,gV l)::(bm,[mL p])::cd p q ws []) τ (fun v:Nat=>pA (aX l v) ws (cw l.words)) n tJ (fun i _ τ=>Xd bl bm p q i l ws τ)
 rw[← hn]at hE
 refine ay [] (hE _) ?_
 exact .drop 0 2 (.done ⟨rfl,rfl⟩)
def dM(mv:AV)(l:Lay)(wv st dn:AV)(us:Int):List AV:=[mv,.int .i64 l.what,.int .i64 l.words,.int .i64 l.n,.int .i64 l.k,wv,st,dn,.int .i64 us]
def pW(w:Nat):AV:=.ptr w 0
def iW(w:Nat):AV:=.iface 168 (.ptr w 0)
theorem aes(bs bp i:Nat)(s:Sy)(l:Lay)(mv wv st dn:AV)(us:Int)(τ:Hp)(hf:Fit s)(he:dv s l.k=0)(hL:iB s l.k=l)(h1:(i:Int)<l.k):ACalls Tryz.prog 99 [.int .i64 i,.ptr bs 0,.ptr bp 0] ((bs,bU s)::(bp,dM mv l wv st dn us)::τ) (fun r σ'=>∃w,r=.ptr w 0∧σ'=WB s l i w 0 .aj [] oJ++((bs,bU s)::(bp,dM mv l wv st dn us)::τ)):=by
 refine az Tryz.func99 ?_
 refine aa 0 ?_
 refine aa 1 ?_
 (refine .mk [] _ (aeC s l i _ hf he hL (by omega) h1) ?_;rintro _ _ ⟨w,rfl,rfl⟩)
 exact .done ⟨w,rfl,rfl⟩
theorem aer(bp lw i n:Nat)(L:List Nat)(l:Lay)(mv st dn:AV)(us:Int)(τ:Hp)(hl:L.length=n)(hi:i<n):ACalls Tryz.prog 103 [.int .i64 i,.ptr bp 0] ((bp,dM mv l (.ae lw 0 n 1) st dn us)::(lw,L.map pW)::τ) (aE (iW (L.getD i 0)) ((bp,dM mv l (.ae lw 0 n 1) st dn us)::(lw,L.map pW)::τ)):=by
 have hg:(L.map pW)[0+((i:Int)).toNat*1]?=some (.ptr (L.getD i 0) 0):=by
  rw[bM,dO,ef,fo,bF (by omega),bg,bF (by omega)];rfl
 refine az Tryz.func103 ?_
 refine aa 0 ?_
 refine aM ?_
 refine aT 1 rfl (jc rfl hg) ?_
 exact .done ⟨rfl,rfl⟩
def cU(L:List Nat):List (Nat×Nat):=(List.range L.length).zip L
def jq:WZ:=⟨0,.aj,[],oJ,trivial⟩
theorem Cs(L:List Nat):∀i (h:i<(cU L).length),(cU L)[i].1=i:=fun i h=>by simp[cU]
theorem Cr(L:List Nat):(cU L).length=L.length:=by simp[cU]
theorem aax(L:List Nat):(cU L).map (fun y=>AV.iface 168 (.ptr y.2 0))=L.map iW:=by
 unfold cU
 have:(fun y:Nat×Nat=>AV.iface 168 (.ptr y.2 0))=iW ∘ Prod.snd:=rfl
 rw[this,← List.map_map,List.map_snd_zip (by simp)]
theorem ZF(s:Sy)(l:Lay)(L:List Nat)(w:Nat):eB s l (cU (L++[w])) (List.replicate (L++[w]).length jq)=eB s l (cU L) (List.replicate L.length jq)++WB s l L.length w 0 .aj [] oJ:=by
 have e1:cU (L++[w])=cU L++[(L.length,w)]:=by
  unfold cU
  rw[List.length_append,List.length_singleton,List.range_succ,List.zip_append (by simp)];rfl
 have e2:List.replicate (L++[w]).length jq=List.replicate L.length jq++[jq]:=by
  rw[bP,sJ,List.replicate_succ']
 unfold eB
 rw[e1,e2,List.zip_append (by rw[fZ,Cr]),vT]
 rfl
set_option maxHeartbeats 4000000
theorem iz(l:List Int)(i j:Nat)(x:Int):(l.set i x).getD j 0=if i=j∧j<l.length then x else l.getD j 0:=by
 rw[bg,e8,bg]
 by_cases h:i=j
 ·subst h
  by_cases h2:i<l.length
  ·simp[h2]
  ·simp[h2]
 ·simp[h]
theorem TW{a c m:Nat}(h1:a<c)(h2:c-a<m):¬a % m=c % m:=fun h=>by
 have h3:=Nat.sub_mod_eq_zero_of_mod_eq h.symm
 have h4:=Nat.le_of_dvd (by omega) (Nat.dvd_of_mod_eq_zero h3)
 omega
theorem qb{n:Nat}(h:n<9000000000000000000):wr (n:Int)=n:=by
 show IntKind.i64.wrap _=_
 rw[IntKind.wrap_i64];omega
theorem C9{n:Nat}(h:n<9000000000000000000):wu (n:Int)=n:=by
 show IntKind.u64.wrap _=_
 rw[IntKind.wrap_u64];omega
theorem wS{bs:Nat}(h:bs<1000000000):gK (bs:Int)=((bs+1:Nat):Int):=by
 unfold gK
 exact qb (n:=bs+1) (by omega)
theorem Gi{bs:Nat}(h:bs<1000000000)(cap:Int)(i:Nat):lE (bs:Int) cap (i:Nat)=((bs+2+i % rm cap:Nat):Int):=by
 have hr:=uJ cap
 have hm:i % rm cap<rm cap:=mT _ (by omega)
 unfold lE
 rw[show ((bs:Int)+2)=((bs+2:Nat):Int) by omega,qb (by omega),← Int.natCast_emod,qb (by omega),← tT]
 exact qb (by omega)
theorem rV(ws:List Int)(a:Nat):gJ ws (a:Int)=ws.getD a 0:=nX
theorem Da(ws:List Int)(a:Nat)(x:Int):ig ws (a:Int) x=ws.set a x:=lC x
theorem Ha{ws:List Int}{a:Nat}(h:a<ws.length)(o x:Int):(nD ws (a:Int) o=decide (ws.getD a 0=o))∧jb ws (a:Int) o x=if ws.getD a 0=o then ws.set a x else ws:=by
 have e:nD ws (a:Int) o=decide (ws.getD a 0=o):=by
  unfold nD
  rw[Cb (by omega) (by omega),nX]
  rfl
 refine⟨e,?_⟩
 unfold jb
 rw[e,lC]
 by_cases h2:ws.getD a 0=o
 ·rw[ah h2,ah (bu h2)]
 ·rw[ag h2,bZ h2,ag BB]
abbrev Own:Type:=Option (Bool×DQ)
def tw:Own→Nat
 |some (true,q)=>if 2≤q.at_ then 1 else 0
 |_=>0
structure DB(bs:Nat)(cap:Int)(ws:List Int)(lo T:Nat)(c:List Int):Prop where
 len:bs+2+rm cap≤ws.length
 top:ws.getD bs 0=(T:Int)
 t1:1≤T
 bot:ws.getD (bs+1) 0=((T+c.length-lo:Nat):Int)
 fits:c.length≤rm cap
 cF:∀i (h:i<c.length),ws.getD (bs+2+(T+i) % rm cap) 0=c[i]
structure HQ(bs:Nat)(cap:Int)(ws:List Int)(T:Nat)(c:List Int)(q:DQ):Prop where
 base:q.base=bs
 cp:q.cap=cap
 on:q.ended=false
 no:q.ok=false
 zB:q.at_≤3
 b:1≤q.at_→q.b=((T+c.length:Nat):Int)
 room:2≤q.at_→c.length<rm cap
 put:q.at_=3→ws.getD (bs+2+(T+c.length) % rm cap) 0=q.n
structure yX(bs:Nat)(cap:Int)(Th:DQ→Prop)(T:Nat)(c:List Int)(q:DQ):Prop where
 base:q.base=bs
 cp:q.cap=cap
 on:q.ended=false
 JH:q.at_≤5
 no:q.at_≤4→q.ok=false
 b:1≤q.at_→q.b=((T+c.length-1:Nat):Int)
 a3:q.at_=3→∃t:Nat,q.t=t∧t≤T∧(t<T+c.length-1→1≤c.length∧∀z,Th z→z.ended=false→2≤z.at_→z.t<((T+c.length-1:Nat):Int))
 a4:q.at_=4→q.t=q.b∧c.length≤1∧∀x∈c,x=q.x
 a5:q.at_=5→c=[]
structure ThO(bs:Nat)(cap:Int)(T:Nat)(c:List Int)(z:DQ):Prop where
 base:z.base=bs
 cp:z.cap=cap
 no:z.ok=false
 zB:z.at_≤3
 t:1≤z.at_→∃t:Nat,z.t=t∧t≤T∧(2≤z.at_→t=T→0<c.length)∧(z.at_=3→t=T→c.head?=some z.x)
def Iu(bs:Nat)(cap:Int)(ws:List Int)(Th:DQ→Prop)(T:Nat)(c:List Int):Own→Prop
 |none=>True
 |some (false,q)=>HQ bs cap ws T c q
 |some (true,q)=>yX bs cap Th T c q
structure DI(bs:Nat)(cap:Int)(ws:List Int)(own:Own)(Th:DQ→Prop)(T:Nat)(c:List Int):Prop where
 db:DB bs cap ws (tw own) T c
 ow:Iu bs cap ws Th T c own
 th:∀z,Th z→z.ended=false→ThO bs cap T c z
theorem DB.Fe{bs:Nat}{cap:Int}{ws ws':List Int}{lo T:Nat}{c:List Int}(h:DB bs cap ws lo T c)(hl:ws'.length=ws.length)(he:∀a,bs≤a→a<bs+2+rm cap→ws'.getD a 0=ws.getD a 0):DB bs cap ws' lo T c:=by
 have hr:=uJ cap
 refine⟨by rw[hl];exact h.len,by rw[he _ (by omega) (by omega)];exact h.top,h.t1,by rw[he _ (by omega) (by omega)];exact h.bot,h.fits,fun i hi=>?_⟩
 have hm:(T+i) % rm cap<rm cap:=mT _ (by omega)
 rw[he _ (by omega) (by omega)]
 exact h.cF i hi
theorem DI.Fe{bs:Nat}{cap:Int}{ws ws':List Int}{own:Own}{Th:DQ→Prop}{T:Nat}{c:List Int}(h:DI bs cap ws own Th T c)(hl:ws'.length=ws.length)(he:∀a,bs≤a→a<bs+2+rm cap→ws'.getD a 0=ws.getD a 0):DI bs cap ws' own Th T c:=by
 have hr:=uJ cap
 refine⟨h.db.Fe hl he,?_,h.th⟩
 have ho:=h.ow
 match own with
 |none=>trivial
 |some (false,q)=>
  have ho:HQ bs cap ws T c q:=ho
  refine⟨ho.base,ho.cp,ho.on,ho.no,ho.zB,ho.b,ho.room,fun h3=>?_⟩
  have hm:(T+c.length) % rm cap<rm cap:=mT _ (by omega)
  rw[he _ (by omega) (by omega)]
  exact ho.put h3
 |some (true,q)=>exact ho
theorem Iu.qh{bs:Nat}{cap:Int}{ws:List Int}{own:Own}{Th Fm:DQ→Prop}{T:Nat}{c:List Int}(h:Iu bs cap ws Th T c own)(hT:∀z,Fm z→z.ended=false→2≤z.at_→Th z):Iu bs cap ws Fm T c own:=by
 match own with
 |none=>trivial
 |some (false,q)=>exact h
 |some (true,q)=>
  have h:yX bs cap Th T c q:=h
  refine⟨h.base,h.cp,h.on,h.JH,h.no,h.b,fun h3=>?_,h.a4,h.a5⟩
  obtain⟨t,h1,h2,h4⟩:=h.a3 h3
  exact⟨t,h1,h2,fun h5=>⟨(h4 h5).1,fun z h6 h7 h8=>(h4 h5).2 z (hT z h6 h7 h8) h7 h8⟩⟩
theorem DI.qh{bs:Nat}{cap:Int}{ws:List Int}{own:Own}{Th Fm:DQ→Prop}{T:Nat}{c:List Int}(h:DI bs cap ws own Th T c)(hT:∀z,Fm z→Th z):DI bs cap ws own Fm T c:=
 ⟨h.db,h.ow.qh fun z hz _ _=>hT z hz,fun z hz=>h.th z (hT z hz)⟩
theorem DI.A9{bs:Nat}{cap:Int}{ws:List Int}{own:Own}{Th:DQ→Prop}{T:Nat}{c:List Int}(h:DI bs cap ws own Th T c){z:DQ}(h0:z.base=bs)(h1:z.cap=cap)(h2:z.ok=false)(h3:z.at_=0):DI bs cap ws own (fun x=>Th x∨x=z) T c:=by
 refine⟨h.db,h.ow.qh fun x hx _ ha=>?_,fun x hx ir=>?_⟩
 ·rcases hx with hx | rfl
  ·exact hx
  ·omega
 ·rcases hx with hx | rfl
  ·exact h.th x hx ir
  ·exact⟨h0,h1,h2,by omega,fun h4=>by omega⟩
theorem DI.push{bs:Nat}{cap:Int}{ws:List Int}{Th:DQ→Prop}{T:Nat}{c:List Int}(h:DI bs cap ws none Th T c){z:DQ}(h0:z.base=bs)(h1:z.cap=cap)(h2:z.ok=false)(h3:z.at_=0)(h4:z.ended=false):DI bs cap ws (some (false,z)) Th T c:=
 ⟨h.db,⟨h0,h1,h4,h2,by omega,fun _=>by omega,fun _=>by omega,fun _=>by omega⟩,h.th⟩
theorem DI.pop{bs:Nat}{cap:Int}{ws:List Int}{Th:DQ→Prop}{T:Nat}{c:List Int}(h:DI bs cap ws none Th T c){z:DQ}(h0:z.base=bs)(h1:z.cap=cap)(h2:z.ok=false)(h3:z.at_=0)(h4:z.ended=false):DI bs cap ws (some (true,z)) Th T c:=by
 refine⟨?_,⟨h0,h1,h4,by omega,fun _=>h2,fun _=>by omega,fun _=>by omega,fun _=>by omega,fun _=>by omega⟩,h.th⟩
 rw[show tw (some (true,z))=0 by simp[tw,h3]]
 exact h.db
theorem DB.more{bs:Nat}{cap:Int}{ws:List Int}{T:Nat}{c:List Int}(h:DB bs cap ws 0 T c){n:Int}(hf:c.length<rm cap)(hn:ws.getD (bs+2+(T+c.length) % rm cap) 0=n):DB bs cap (ws.set (bs+1) ((T+c.length+1:Nat):Int)) 0 T (c++[n]):=by
 have hr:=uJ cap
 have hl:=h.len
 refine⟨by simpa using hl,?_,h.t1,?_,by simp;omega,fun i hi=>?_⟩
 ·rw[iz,ag (by omega)];exact h.top
 ·rw[iz,if_pos ⟨rfl,by omega⟩];simp;omega
 ·have hm:(T+i) % rm cap<rm cap:=mT _ (by omega)
  rw[iz,ag (by omega)]
  simp only[bP,sJ]at hi
  by_cases hic:i<c.length
  ·rw[List.getElem_append_left hic];exact h.cF i hic
  ·obtain rfl:i=c.length:=by omega
   simpa using hn
theorem ac6{bs:Nat}{cap:Int}{ws ws':List Int}{q q':DQ}{e:Bool}{Th:DQ→Prop}{T:Nat}{c:List Int}(h:DI bs cap ws (some (false,q)) Th T c)(eE:bs<1000000000)(hN:T+c.length<4000000000000000000)(hs:gu bG q ws=(q',ws',e)):
  ws'.length=ws.length∧(∀a,¬(bs≤a∧a<bs+2+rm cap)→ws'.getD a 0=ws.getD a 0)∧q'.n=q.n∧q'.base=q.base∧((e=false∧DI bs cap ws' (some (false,q')) Th T c)∨(e=true∧q'.ok=false∧rm cap≤c.length∧DI bs cap ws' none Th T c)∨(e=true∧q'.ok=true∧c.length<rm cap∧DI bs cap ws' none Th T (c++[q.n]))):=by
 have hr:=uJ cap
 have ho:HQ bs cap ws T c q:=h.ow
 have fw:DB bs cap ws 0 T c:=h.db
 have hl:=fw.len
 obtain⟨base,jl,n,ok,ended,at_,b,t,x⟩:=q
 obtain⟨e1,e2,e3,e4,h3,hb,oa,xd⟩:=ho
 dsimp only at e1 e2 e3 e4 h3 hb oa xd hs
 subst e1 e2 e3 e4
 have h3:at_=0∨at_=1∨at_=2∨at_=3:=by omega
 rcases h3 with rfl | rfl | rfl | rfl
 ·simp only[gu,wS eE,rV,fw.bot]at hs
  simp at hs
  obtain⟨rfl,rfl,rfl⟩:=hs
  exact⟨rfl,fun _ _=>rfl,rfl,rfl,.inl ⟨rfl,fw,⟨rfl,rfl,rfl,rfl,by simp,fun _=>rfl,fun h=>absurd h (by simp),fun h=>absurd h (by simp)⟩,h.th⟩⟩
 ·have hb:=hb (a8 _)
  subst hb
  have e1:wr (wu (((T+c.length:Nat):Int)-(T:Int)))=(c.length:Nat):=by
   rw[show ((T+c.length:Nat):Int)-(T:Int)=(c.length:Nat) by omega,C9 (by omega),qb (by omega)]
  by_cases hf:rm jl≤c.length
  ·simp only[gu,rV,fw.top,e1]at hs
   simp[hf]at hs
   obtain⟨rfl,rfl,rfl⟩:=hs
   exact⟨rfl,fun _ _=>rfl,rfl,rfl,.inr (.inl ⟨rfl,rfl,hf,fw,trivial,h.th⟩)⟩
  ·simp only[gu,rV,fw.top,e1]at hs
   simp[hf]at hs
   obtain⟨rfl,rfl,rfl⟩:=hs
   exact⟨rfl,fun _ _=>rfl,rfl,rfl,.inl ⟨rfl,fw,⟨rfl,rfl,rfl,rfl,by simp,fun _=>rfl,fun _=>by omega,fun h=>absurd h (by simp)⟩,h.th⟩⟩
 ·have hb:=hb (by omega)
  have oa:=oa (a8 _)
  subst hb
  have hm:(T+c.length) % rm jl<rm jl:=mT _ (by omega)
  simp only[gu,Gi eE,Da]at hs
  simp at hs
  obtain⟨rfl,rfl,rfl⟩:=hs
  have hd:DB bs jl (ws.set (bs+2+(T+c.length) % rm jl) n) 0 T c:=by
   refine⟨by simpa using hl,?_,fw.t1,?_,fw.fits,fun i hi=>?_⟩
   ·rw[iz,ag (by omega)];exact fw.top
   ·rw[iz,ag (by omega)];exact fw.bot
   ·have:=TW (a:=T+i) (c:=T+c.length) (m:=rm jl) (by omega) (by omega)
    rw[iz,ag (by omega)];exact fw.cF i hi
  refine⟨by simp,fun a ha=>?_,rfl,rfl,.inl ⟨rfl,hd,⟨rfl,rfl,rfl,rfl,by simp,fun _=>rfl,fun _=>oa,fun _=>?_⟩,h.th⟩⟩
  ·rw[iz,ag (by omega)]
  ·rw[iz,ah ⟨rfl,by omega⟩]
 ·have hb:=hb (by omega)
  have oa:=oa (by omega)
  have xd:=xd rfl
  subst hb
  have e1:wu (((T+c.length:Nat):Int)+1)=((T+c.length+1:Nat):Int):=C9 (n:=T+c.length+1) (by omega)
  simp only[gu,wS eE,e1,Da]at hs
  simp only[lX,↓reduceIte,Nat.reduceEqDiff,Prod.mk.injEq]at hs
  obtain⟨rfl,rfl,rfl⟩:=hs
  refine⟨by simp,fun a ha=>?_,rfl,rfl,.inr (.inr ⟨rfl,rfl,oa,fw.more oa xd,trivial,fun z hz fJ=>?_⟩)⟩
  ·rw[iz,ag (by omega)]
  ·have:=h.th z hz fJ
   refine⟨this.base,this.cp,this.no,this.zB,fun h1=>?_⟩
   obtain⟨t,a1,a2,a3,a4⟩:=this.t h1
   refine⟨t,a1,a2,fun _ _=>by simp,fun h5 h6=>?_⟩
   have:=a4 h5 h6
   cases c with
   |nil=>cases this
   |cons y c=>exact this
theorem adP{bs:Nat}{cap:Int}{ws ws':List Int}{q q':DQ}{e:Bool}{Th:DQ→Prop}{T:Nat}{c:List Int}(h:DI bs cap ws (some (true,q)) Th T c)(eE:bs<1000000000)(hN:T+c.length<4000000000000000000)(hs:fp bG q ws=(q',ws',e)):
  ws'.length=ws.length∧(∀a,¬(bs≤a∧a<bs+2+rm cap)→ws'.getD a 0=ws.getD a 0)∧q'.base=q.base∧
  ((e=false∧(q.at_=5→False)∧(q'.at_=5→q'.ok=false)∧DI bs cap ws' (some (true,q')) Th T c)∨
   (e=false∧q'.at_=5∧q'.ok=true∧c=[q'.x]∧DI bs cap ws' (some (true,q')) Th (T+1) [])∨
   (e=true∧q'.ok=false∧(q.at_=5→q.ok=false)∧c=[]∧DI bs cap ws' none Th T c)∨
   (e=true∧q'.ok=true∧q.at_=3∧∃c',c=c'++[q'.n]∧DI bs cap ws' none Th T c')∨
   (e=true∧q'.ok=true∧q.at_=5∧q.ok=true∧q'.n=q.x∧c=[]∧DI bs cap ws' none Th T [])):=by
 have hr:=uJ cap
 have ho:yX bs cap Th T c q:=h.ow
 have fw:=h.db
 have hl:=fw.len
 have Em:=fw.t1
 have pz:=fw.fits
 obtain⟨base,jl,n,ok,ended,at_,b,t,x⟩:=q
 obtain⟨e1,e2,e3,h5,ko,hb,ha3,ha4,ha5⟩:=ho
 dsimp only at e1 e2 e3 h5 ko hb ha3 ha4 ha5 hs
 subst e1 e2 e3
 have h5:at_=0∨at_=1∨at_=2∨at_=3∨at_=4∨at_=5:=by omega
 have afX:((T+c.length:Nat):Int)-1=((T+c.length-1:Nat):Int):=by omega
 have Dk:wu (((T+c.length-1:Nat):Int)+1)=((T+c.length:Nat):Int):=by
  rw[show ((T+c.length-1:Nat):Int)+1=((T+c.length:Nat):Int) by omega,C9 (by omega)]
 rcases h5 with rfl | rfl | rfl | rfl | rfl | rfl
 ·have ko:ok=false:=ko (by omega)
  subst ko
  have hd:DB bs jl ws 0 T c:=fw
  have hbt:=hd.bot
  have e1:wu (((T+c.length:Nat):Int)-1)=((T+c.length-1:Nat):Int):=by rw[afX,C9 (by omega)]
  simp only[fp,wS eE,rV,hbt,Nat.sub_zero,e1]at hs
  simp at hs
  obtain⟨rfl,rfl,rfl⟩:=hs
  exact⟨rfl,fun _ _=>rfl,rfl,.inl ⟨rfl,by simp,by simp,hd,⟨rfl,rfl,rfl,by simp,fun _=>rfl,fun _=>rfl,fun h=>absurd h (by simp),fun h=>absurd h (by simp),fun h=>absurd h (by simp)⟩,h.th⟩⟩
 ·have ko:ok=false:=ko (by omega)
  subst ko
  have hd:DB bs jl ws 0 T c:=fw
  have hb:=hb (a8 _)
  subst hb
  simp only[fp,wS eE,Da]at hs
  simp only[lX,↓reduceIte,Nat.reduceEqDiff,Prod.mk.injEq]at hs
  simp at hs
  obtain⟨rfl,rfl,rfl⟩:=hs
  refine⟨by simp,fun a ha=>?_,rfl,.inl ⟨rfl,by simp,by simp,⟨by simpa using hl,?_,Em,?_,pz,fun i hi=>?_⟩,⟨rfl,rfl,rfl,by simp,fun _=>rfl,fun _=>rfl,fun h=>absurd h (by simp),fun h=>absurd h (by simp),fun h=>absurd h (by simp)⟩,h.th⟩⟩
  ·rw[iz,ag (by omega)]
  ·rw[iz,ag (by omega)];exact hd.top
  ·rw[iz,ah ⟨rfl,by omega⟩];rfl
  ·have hm:(T+i) % rm jl<rm jl:=mT _ (by omega)
   rw[iz,ag (by omega)];exact hd.cF i hi
 ·have ko:ok=false:=ko (by omega)
  subst ko
  have hd:DB bs jl ws 1 T c:=fw
  have hb:=hb (by omega)
  subst hb
  simp only[fp,rV,hd.top]at hs
  simp at hs
  obtain⟨rfl,rfl,rfl⟩:=hs
  refine⟨rfl,fun _ _=>rfl,rfl,.inl ⟨rfl,by simp,by simp,hd,⟨rfl,rfl,rfl,by simp,fun _=>rfl,fun _=>rfl,fun _=>⟨T,rfl,Nat.le_refl _,fun h5=>⟨by omega,fun z hz fJ mh=>?_⟩⟩,fun h=>absurd h (by simp),fun h=>absurd h (by simp)⟩,h.th⟩⟩
  obtain⟨t,a1,a2,_⟩:=(h.th z hz fJ).t (by omega)
  rw[a1];omega
 ·have ko:ok=false:=ko (by omega)
  subst ko
  have hd:DB bs jl ws 1 T c:=fw
  have hb:=hb (by omega)
  subst hb
  obtain⟨tt,rfl,Bh,fg⟩:=ha3 rfl
  by_cases h1:T+c.length-1<tt
  ·have hc:c=[]:=jv.1 (by omega)
   subst hc
   simp only[fp,qb (n:=T+([]:List Int).length-1) (by omega),qb (n:=tt) (by omega),wS eE,Da,Dk]at hs
   have h1:T-1<tt:=h1
   simp[h1]at hs
   obtain⟨rfl,rfl,rfl⟩:=hs
   refine⟨by simp,fun a ha=>?_,rfl,.inr (.inr (.inl ⟨rfl,rfl,by simp,rfl,⟨by simpa using hl,?_,Em,?_,pz,fun i hi=>absurd hi (by simp)⟩,trivial,h.th⟩))⟩
   ·rw[iz,ag (by omega)]
   ·rw[iz,ag (by omega)];exact hd.top
   ·rw[iz,ah ⟨rfl,by omega⟩];rfl
  ·have e1:¬((T+c.length-1:Nat):Int)<(tt:Int):=by omega
   by_cases h2:tt<T+c.length-1
   ·have e2:(tt:Int)<((T+c.length-1:Nat):Int):=by omega
    simp only[fp,qb (n:=T+c.length-1) (by omega),qb (n:=tt) (by omega),ag e1,ah e2,Gi eE,rV]at hs
    simp only[lX,↓reduceIte,Nat.reduceEqDiff,Prod.mk.injEq]at hs
    obtain⟨rfl,rfl,rfl⟩:=hs
    obtain⟨mn,su⟩:=fg h2
    have aS:c≠[]:=fun h=>by subst h;simp at mn
    have Mf:ws.getD (bs+2+(T+c.length-1) % rm jl) 0=c.getLast aS:=by
     rw[show T+c.length-1=T+(c.length-1) by omega,hd.cF (c.length-1) (by omega),List.getLast_eq_getElem]
    refine⟨rfl,fun _ _=>rfl,rfl,.inr (.inr (.inr (.inl ⟨rfl,rfl,rfl,c.dropLast,?_,⟨hl,hd.top,Em,?_,by simp;omega,fun i hi=>?_⟩,trivial,fun z hz fJ=>?_⟩)))⟩
    ·dsimp only
     rw[Mf]
     exact (List.dropLast_concat_getLast aS).symm
    ·rw[hd.bot,List.length_dropLast]
     show ((T+c.length-1:Nat):Int)=((T+(c.length-1)-0:Nat):Int)
     omega
    ·rw[List.getElem_dropLast]
     exact hd.cF i (by simp at hi;omega)
    ·have iJ:=h.th z hz fJ
     refine⟨iJ.base,iJ.cp,iJ.no,iJ.zB,fun mh=>?_⟩
     obtain⟨t,a1,a2,a3,a4⟩:=iJ.t mh
     have hz4:2≤z.at_→(t:Int)<((T+c.length-1:Nat):Int):=fun h=>a1▸su z hz fJ h
     refine⟨t,a1,a2,fun h6 h7=>?_,fun h6 h7=>?_⟩
     ·have:=hz4 h6;simp;omega
     ·have:=hz4 (by omega)
      have h8:=a4 h6 h7
      match c,h8,mn,this,h7 with
      | [y],_,_,h9,h10=>simp at h9;omega
      |y::y2::c,h8,_,_,_=>exact h8
   ·have e2:¬(tt:Int)<((T+c.length-1:Nat):Int):=by omega
    simp only[fp,qb (n:=T+c.length-1) (by omega),qb (n:=tt) (by omega),ag e1,ag e2,Gi eE,rV]at hs
    simp only[lX,↓reduceIte,Nat.reduceEqDiff,Prod.mk.injEq]at hs
    obtain⟨rfl,rfl,rfl⟩:=hs
    refine⟨rfl,fun _ _=>rfl,rfl,.inl ⟨rfl,by simp,by simp,hd,⟨rfl,rfl,rfl,by simp,fun _=>rfl,fun _=>rfl,fun h=>absurd h (by simp),fun _=>⟨?_,by omega,fun y hy=>?_⟩,fun h=>absurd h (by simp)⟩,h.th⟩⟩
    ·show (tt:Int)=((T+c.length-1:Nat):Int);omega
    ·have er:c.length≤1:=by omega
     match c,er,hy with
     | [y2],_,hy=>
      have:=hd.cF 0 (by simp)
      simp at hy this
      subst hy
      show y=ws.getD (bs+2+(T+1-1) % rm jl) 0
      rw[Nat.add_sub_cancel,bg]
      exact this.symm
 ·have ko:ok=false:=ko (by omega)
  subst ko
  have hd:DB bs jl ws 1 T c:=fw
  have hb:=hb (by omega)
  subst hb
  obtain⟨rfl,mn,hx⟩:=ha4 rfl
  obtain⟨k1,k2⟩:=Ha (ws:=ws) (a:=bs) (by omega) ((T+c.length-1:Nat):Int) ((T+c.length:Nat):Int)
  rw[hd.top]at k1 k2
  simp only[fp,Dk,k1,k2]at hs
  match c,mn with
  | [],_=>
   have h2:¬((T:Int)=((T+([]:List Int).length-1:Nat):Int)):=by simp;omega
   simp only[ag h2,bZ h2]at hs
   simp only[lX,↓reduceIte,Nat.reduceEqDiff,Prod.mk.injEq]at hs
   obtain⟨rfl,rfl,rfl⟩:=hs
   exact⟨rfl,fun _ _=>rfl,rfl,.inl ⟨rfl,by simp,fun _=>rfl,hd,⟨rfl,rfl,rfl,by simp,fun _=>rfl,fun _=>rfl,fun h=>absurd h (by simp),fun h=>absurd h (by simp),fun _=>rfl⟩,h.th⟩⟩
  | [y],_=>
   have h2:((T:Int)=((T+([y]:List Int).length-1:Nat):Int)):=by simp
   obtain rfl:y=x:=hx y (by simp)
   simp only[ah h2,bu h2]at hs
   simp only[lX,↓reduceIte,Nat.reduceEqDiff,Prod.mk.injEq]at hs
   obtain⟨rfl,rfl,rfl⟩:=hs
   refine⟨by simp,fun a ha=>?_,rfl,.inr (.inl ⟨rfl,rfl,rfl,rfl,⟨by simpa using hl,?_,by omega,?_,by simp,fun i hi=>absurd hi (by simp)⟩,⟨rfl,rfl,rfl,by simp,fun h=>absurd h (by simp),fun _=>by simp,fun h=>absurd h (by simp),fun h=>absurd h (by simp),fun _=>rfl⟩,fun z hz fJ=>?_⟩)⟩
   ·rw[iz,ag (by omega)]
   ·rw[iz,if_pos ⟨rfl,by omega⟩];simp
   ·rw[iz,if_neg (by omega),hd.bot];simp[tw]
   ·have iJ:=h.th z hz fJ
    refine⟨iJ.base,iJ.cp,iJ.no,iJ.zB,fun mh=>?_⟩
    obtain⟨t,a1,a2,a3,a4⟩:=iJ.t mh
    exact⟨t,a1,by omega,fun _ h=>by omega,fun _ h=>by omega⟩
 ·have hd:DB bs jl ws 1 T c:=fw
  have hb:=hb (by omega)
  have hc:=ha5 rfl
  subst hc hb
  simp only[fp,Dk,wS eE,Da]at hs
  simp only[lX,↓reduceIte,Nat.reduceEqDiff,Prod.mk.injEq]at hs
  obtain⟨rfl,rfl,rfl⟩:=hs
  have oO:DI bs jl (ws.set (bs+1) ((T+([]:List Int).length:Nat):Int)) none Th T []:=by
   refine⟨⟨by simpa using hl,?_,Em,?_,by simp,fun i hi=>absurd hi (by simp)⟩,trivial,h.th⟩
   ·rw[iz,ag (by omega)];exact hd.top
   ·rw[iz,ah ⟨rfl,by omega⟩];rfl
  refine⟨by simp,fun a ha=>by rw[iz,if_neg (by omega)],rfl,?_⟩
  cases ok with
  |true=>exact .inr (.inr (.inr (.inr ⟨rfl,rfl,rfl,rfl,rfl,rfl,oO⟩)))
  |false=>exact .inr (.inr (.inl ⟨rfl,rfl,fun _=>rfl,rfl,oO⟩))
theorem ZU{bs:Nat}{cap:Int}{ws ws':List Int}{q q':DQ}{e:Bool}{own:Own}{Th:DQ→Prop}{T:Nat}{c:List Int}(h:DI bs cap ws own Th T c)(hq:Th q)(lT:q.ended=false)(eE:bs<1000000000)(hN:T+c.length<4000000000000000000)(hs:gF bG q ws=(q',ws',e)):
  ws'.length=ws.length∧(∀a,¬(bs≤a∧a<bs+2+rm cap)→ws'.getD a 0=ws.getD a 0)∧q'.base=q.base∧
  ((e=false∧q'.ended=false∧DI bs cap ws' own (fun z=>Th z∨z=q') T c)∨(e=true∧q'.ok=false∧DI bs cap ws' own Th T c)∨(e=true∧q'.ok=true∧∃c',c=q'.n::c'∧DI bs cap ws' own Th (T+1) c')):=by
 have hr:=uJ cap
 have hz:=h.th q hq lT
 have fw:=h.db
 have hl:=fw.len
 have Em:=fw.t1
 have pz:=fw.fits
 have yS:=fw.top
 have AY:=fw.bot
 have su:=h.th
 have jG:=h.ow
 obtain⟨base,jl,n,ok,ended,at_,b,t,x⟩:=q
 obtain⟨e1,e2,e3,h3,ht⟩:=hz
 dsimp only at e1 e2 e3 h3 ht hs lT
 subst e1 e2 e3 lT
 have h3:at_=0∨at_=1∨at_=2∨at_=3:=by omega
 have fg:tw own≤1:=by unfold tw;split <;> (try split) <;> omega
 rcases h3 with rfl | rfl | rfl | rfl
 ·simp only[gF,rV,yS]at hs
  simp at hs
  obtain⟨rfl,rfl,rfl⟩:=hs
  refine⟨rfl,fun _ _=>rfl,rfl,.inl ⟨rfl,rfl,fw,jG.qh fun z hz _ ha=>?_,fun z hz fJ=>?_⟩⟩
  ·rcases hz with hz | rfl
   ·exact hz
   ·simp at ha
  ·rcases hz with hz | rfl
   ·exact su z hz fJ
   ·exact⟨rfl,rfl,rfl,by simp,fun _=>⟨T,rfl,Nat.le_refl _,fun h=>absurd h (by simp),fun h=>absurd h (by simp)⟩⟩
 ·obtain⟨tt,rfl,Bh,_,_⟩:=ht (a8 _)
  clear ht
  have hbw:=qb (n:=T+c.length-tw own) (zp (Nat.sub_le _ _) (EU hN (by decide)))
  have htw:=qb (n:=tt) (zp Bh (zp (Nat.le_add_right T c.length) (EU hN (by decide))))
  by_cases h1:T+c.length-tw own≤tt
  ·simp only[gF,wS eE,rV,AY,hbw,htw]at hs
   simp[h1]at hs
   obtain⟨rfl,rfl,rfl⟩:=hs
   exact⟨rfl,fun _ _=>rfl,rfl,.inr (.inl ⟨rfl,rfl,h⟩)⟩
  ·simp only[gF,wS eE,rV,AY,hbw,htw]at hs
   simp[h1]at hs
   obtain⟨rfl,rfl,rfl⟩:=hs
   refine⟨rfl,fun _ _=>rfl,rfl,.inl ⟨rfl,rfl,fw,?_,fun z hz fJ=>?_⟩⟩
   ·match own,jG,h1 with
    |none,_,_=>trivial
    |some (false,p),hp,_=>exact hp
    |some (true,p),hp,h1=>
     have hp:yX bs jl Th T c p:=hp
     refine⟨hp.base,hp.cp,hp.on,hp.JH,hp.no,hp.b,fun p3=>?_,hp.a4,hp.a5⟩
     obtain⟨t3,b1,b2,b3⟩:=hp.a3 p3
     refine⟨t3,b1,b2,fun h5=>⟨(b3 h5).1,fun z hz fJ mh=>?_⟩⟩
     rcases hz with hz | rfl
     ·exact (b3 h5).2 z hz fJ mh
     ·have e1:tw (some (true,p))=1:=by simp[tw,p3]
      rw[e1]at h1
      show (tt:Int)<((T+c.length-1:Nat):Int)
      omega
   ·rcases hz with hz | rfl
    ·exact su z hz fJ
    ·exact⟨rfl,rfl,rfl,by simp,fun _=>⟨tt,rfl,Bh,fun _ h6=>by omega,fun h=>absurd h (by simp)⟩⟩
 ·obtain⟨tt,rfl,Bh,ha,_⟩:=ht (by decide)
  clear ht
  have ha:=ha (a8 _)
  simp only[gF,Gi eE,rV]at hs
  simp only[lX,↓reduceIte,Nat.reduceEqDiff,Prod.mk.injEq]at hs
  obtain⟨rfl,rfl,rfl⟩:=hs
  refine⟨rfl,fun _ _=>rfl,rfl,.inl ⟨rfl,rfl,fw,?_,fun z hz fJ=>?_⟩⟩
  ·match own,jG with
   |none,_=>trivial
   |some (false,p),hp=>exact hp
   |some (true,p),hp=>
    have hp:yX bs jl Th T c p:=hp
    refine⟨hp.base,hp.cp,hp.on,hp.JH,hp.no,hp.b,fun p3=>?_,hp.a4,hp.a5⟩
    obtain⟨t3,b1,b2,b3⟩:=hp.a3 p3
    refine⟨t3,b1,b2,fun h5=>⟨(b3 h5).1,fun z hz fJ mh=>?_⟩⟩
    rcases hz with hz | rfl
    ·exact (b3 h5).2 z hz fJ mh
    ·have h9:(tt:Int)<((T+c.length-1:Nat):Int):=(b3 h5).2 _ hq rfl (a8 _)
     exact h9
  ·rcases hz with hz | rfl
   ·exact su z hz fJ
   ·refine⟨rfl,rfl,rfl,by simp,fun _=>⟨tt,rfl,Bh,fun _ h6=>ha h6,fun _ h6=>?_⟩⟩
    have hc:=ha h6
    subst h6
    have:ws.getD (bs+2+tt % rm jl) 0=c[0]:=fw.cF 0 hc
    show c.head?=some (ws.getD (bs+2+tt % rm jl) 0)
    rw[this,List.head?_eq_getElem?,bF hc]
 ·obtain⟨tt,rfl,Bh,ha,hb⟩:=ht (by decide)
  clear ht
  have ha:=ha (by omega)
  have hb:=hb rfl
  have e0:wu ((tt:Int)+1)=((tt+1:Nat):Int):=C9 (n:=tt+1) (by omega)
  obtain⟨k1,k2⟩:=Ha (ws:=ws) (a:=bs) (by omega) (tt:Int) ((tt+1:Nat):Int)
  rw[yS]at k1 k2
  simp only[gF,e0,k1,k2]at hs
  by_cases h1:(T:Int)=tt
  ·simp only[ah h1,bu h1]at hs
   simp only[lX,↓reduceIte,Nat.reduceEqDiff,Prod.mk.injEq]at hs
   obtain⟨rfl,rfl,rfl⟩:=hs
   obtain rfl:tt=T:=by omega
   have hc:=ha rfl
   have hx:=hb rfl
   match c,hc,hx,pz,fw,su,jG,AY with
   |y::c,_,hx,pz,fw,su,jG,AY=>
    obtain rfl:y=x:=by simpa using hx
    simp only[iy]at pz AY
    refine⟨by simp,fun a ha=>by rw[iz,if_neg (by omega)],rfl,.inr (.inr ⟨rfl,rfl,c,rfl,⟨by simpa using hl,?_,by omega,?_,by omega,fun i hi=>?_⟩,?_,fun z hz fJ=>?_⟩)⟩
    ·rw[iz,ah ⟨rfl,by omega⟩]
    ·rw[iz,ag (by omega),AY];congr 1;omega
    ·rw[iz,ag (by omega),show tt+1+i=tt+(i+1) by omega]
     exact fw.cF (i+1) (by simp;omega)
    ·match own,jG with
     |none,_=>trivial
     |some (false,p),hp=>
      have hp:HQ bs jl ws tt (y::c) p:=hp
      have el:tt+(y::c).length=tt+1+c.length:=by simp;omega
      refine⟨hp.base,hp.cp,hp.on,hp.no,hp.zB,fun h=>by rw[hp.b h,el],fun h=>by have:=hp.room h;simp at this;omega,fun h=>?_⟩
      have:=hp.put h
      rw[el]at this
      rw[iz,ag (by omega)];exact this
     |some (true,p),hp=>
      have hp:yX bs jl Th tt (y::c) p:=hp
      have el:tt+(y::c).length=tt+1+c.length:=by simp;omega
      refine⟨hp.base,hp.cp,hp.on,hp.JH,hp.no,fun h=>by rw[hp.b h,el],fun h=>?_,fun h=>?_,fun h=>absurd (hp.a5 h) (by simp)⟩
      ·obtain⟨t3,b1,b2,b3⟩:=hp.a3 h
       rw[el]at b3
       refine⟨t3,b1,by omega,fun h5=>⟨?_,(b3 h5).2⟩⟩
       have:=(b3 h5).2 _ hq rfl (by simp)
       have:(tt:Int)<((tt+1+c.length-1:Nat):Int):=this
       omega
      ·obtain⟨b1,b2,b3⟩:=hp.a4 h
       simp at b2
       subst b2
       exact⟨b1,by simp,by simp⟩
    ·have iJ:=su z hz fJ
     refine⟨iJ.base,iJ.cp,iJ.no,iJ.zB,fun mh=>?_⟩
     obtain⟨t,a1,a2,a3,a4⟩:=iJ.t mh
     exact⟨t,a1,by omega,fun _ h=>by omega,fun _ h=>by omega⟩
  ·simp only[ag h1,bZ h1]at hs
   simp only[lX,↓reduceIte,Nat.reduceEqDiff,Prod.mk.injEq]at hs
   obtain⟨rfl,rfl,rfl⟩:=hs
   exact⟨rfl,fun _ _=>rfl,rfl,.inr (.inl ⟨rfl,rfl,h⟩)⟩
set_option maxHeartbeats 4000000
theorem BS{what w:Int}(h:what=1∨what=2∨what=3){i:Nat}{x:Int}(hx:fO what w i x):cT what x x=x:=by
 obtain⟨rr,ir⟩:=hx
 obtain⟨a,rfl⟩:=mu rr.1
 have ha:a<18446744073709551616:=by have:=rr.2;omega
 rcases h with rfl | rfl | rfl
 ·rw[show cT 1 (a:Int) a=bits .or .u64 (a:Int) a from rfl,sQ ha ha,Nat.or_self]
 ·rw[show cT 2 (a:Int) a=bits .and .u64 (a:Int) a from rfl,qL ha ha,Nat.and_self]
 ·rw[ah rfl]at ir
  rw[qW,wE ir ir,Ac]
theorem Xf{what w:Int}(h:what=1∨what=2∨what=3){i:Nat}{x y:Int}(hx:fO what w i x)(hy:fO what w i y):cT what x y=cT what y x:=by
 obtain⟨rr,ir⟩:=hx
 obtain⟨tG,vB⟩:=hy
 obtain⟨a,rfl⟩:=mu rr.1
 obtain⟨b,rfl⟩:=mu tG.1
 have ha:a<18446744073709551616:=by have:=rr.2;omega
 have hb:b<18446744073709551616:=by have:=tG.2;omega
 rcases h with rfl | rfl | rfl
 ·show bits .or .u64 (a:Int) b=bits .or .u64 (b:Int) a
  rw[sQ ha hb,sQ hb ha,Nat.or_comm]
 ·show bits .and .u64 (a:Int) b=bits .and .u64 (b:Int) a
  rw[qL ha hb,qL hb ha,Nat.and_comm]
 ·rw[ah rfl]at ir vB
  rw[qW,qW,wE ir vB,wE vB ir,GQ]
theorem Wk{what w:Int}(h:what=1∨what=2∨what=3){i:Nat}{x y z:Int}(hx:fO what w i x)(hy:fO what w i y)(hz:fO what w i z):cT what (cT what x y) z=cT what x (cT what y z):=by
 have aQ:=(BT h hx hy).2
 have Eh:=(BT h hy hz).2
 obtain⟨rr,ir⟩:=hx
 obtain⟨tG,vB⟩:=hy
 obtain⟨xo,fJ⟩:=hz
 obtain⟨a,rfl⟩:=mu rr.1
 obtain⟨b,rfl⟩:=mu tG.1
 obtain⟨c,rfl⟩:=mu xo.1
 have ha:a<18446744073709551616:=by have:=rr.2;omega
 have hb:b<18446744073709551616:=by have:=tG.2;omega
 have hc:c<18446744073709551616:=by have:=xo.2;omega
 rcases h with rfl | rfl | rfl
 ·have h1:a ||| b<2 ^ 64:=Ji ha hb
  have h2:b ||| c<2 ^ 64:=Ji hb hc
  show bits .or .u64 (bits .or .u64 (a:Int) b) c=bits .or .u64 (a:Int) (bits .or .u64 (b:Int) c)
  rw[sQ ha hb,sQ hb hc,sQ h1 hc,sQ ha h2,Nat.or_assoc]
 ·have h1:a &&& b≤a:=EY
  have h2:b &&& c≤b:=EY
  show bits .and .u64 (bits .and .u64 (a:Int) b) c=bits .and .u64 (a:Int) (bits .and .u64 (b:Int) c)
  rw[qL ha hb,qL hb hc,qL (by omega) hc,qL ha (by omega),Nat.and_assoc]
 ·rw[ah rfl]at ir vB fJ aQ Eh
  rw[qW]at aQ Eh
  rw[qW,qW,qW,qW]
  rw[wE aQ fJ,wE ir Eh,wE ir vB,wE vB fJ,R3]
theorem rX(a:List Int)(i:Nat):a.getD i 0=wd a i:=by rw[bg];rfl
section
variable {s:Sy} {l:Lay} (hs:LS s l)
include hs
theorem LS.afv:eH s.what s.w=(nW l:Int):=by have:=hs.words;have:=hs.ww;omega
theorem LS.re{a:List Int}:eu s.what s.w a↔(a.length=nW l∧∀i,i<nW l→fO s.what s.w i (a.getD i 0)):=by
 rw[FP hs.iS.sm,hs.afv]
 constructor
 ·rintro⟨h1,h2⟩
  have h1:a.length=nW l:=by omega
  exact⟨h1,fun i hi=>by rw[rX];exact h2 i (by omega)⟩
 ·rintro⟨h1,h2⟩
  exact⟨by omega,fun i hi=>by rw[← rX];exact h2 i (by omega)⟩
theorem LS.xn{a b:List Int}(ha:eu s.what s.w a)(hb:eu s.what s.w b):dz s.what s.w a b↔∀i,i<nW l→cT s.what (a.getD i 0) (b.getD i 0)=b.getD i 0:=by
 have la:=((hs.re).1 ha).1
 have lb:=((hs.re).1 hb).1
 constructor
 ·intro h i hi
  rw[rX,rX,← yg (by omega) (by omega),h.2.2]
 ·intro h
  refine⟨ha,hb,yj ?_ fun i hi=>?_⟩
  ·rw[iZ (by omega)];omega
  ·rw[iZ (by omega)]at hi
   rw[yg hi (by omega),← rX,← rX]
   exact h i (by omega)
theorem LS.Vg{v:Nat}(hv:v<nN s){y:List Int}(hy:eu s.what s.w y):eu s.what s.w (iF s y v):=
 (KF hs.fit hs.iS (dz.refl hy) (v:=v) (by have:=hs.nn;omega)).1
end
def Iz(s:Sy)(v:Nat):List Nat:=(ar s.n s.aW v).map Int.toNat
theorem adX{s:Sy}{v u:Nat}(h:u∈Iz s v):u<nN s:=by
 obtain⟨z,hz,rfl⟩:=dP.1 h
 obtain⟨hz,_⟩:=nQ.1 hz
 obtain⟨i,hi,rfl⟩:=dP.1 hz
 rw[bM]
 exact gm.1 hi
def kL(s:Sy)(l:Lay)(hs:LS s l):SX.AP where
 n:=nN s
 W:=nW l
 k:=l.k.toNat
 nx:=Iz s
 jw:=cT s.what
 out v y:=iF s y v
 ok i z:=fO s.what s.w i z
 Db _ h:=adX h
 idem h:=BS hs.uH h
 comm h1 h2:=Xf hs.uH h1 h2
 assoc h1 h2 h3:=Wk hs.uH h1 h2 h3
 Na h1 h2:=BT hs.uH h1 h2
 Hy hv h1 h2:=(hs.re).1 (hs.Vg hv ((hs.re).2 ⟨h1,h2⟩))
 mono:=fun {v y z} hv h1 h2 h3 h4 h5=>by
  have hy:=(hs.re).2 ⟨h1,h3⟩
  have hz:=(hs.re).2 ⟨h2,h4⟩
  have hl:=KF hs.fit hs.iS ((hs.xn hy hz).2 h5) (v:=v) (by have:=hs.nn;omega)
  exact (hs.xn hl.1 hl.2.1).1 hl
def Ec(does:Int)(node:Nat)(out:List Int)(u:Nat)(r:List Nat):SX.Ph:=
 if does=0 then .idle 0 0
 else if does=1 then .idle 1 0
 else if does=2 then .idle 2 0
 else if does=3 then .clear node
 else if does=4 then .read node []
 else if does=5 then .join node out u r 0 none false
 else if does=6 then .take node out u r
 else if does=7 then .push node out u r 0
 else .dU node
def phN(does:Int)(node:Nat)(out:List Int)(u:Nat)(r:List Nat):Nw→SX.Ph
 |.none=>Ec does node out u r
 |.pop q=>if q.at_=5∧q.ok=true then .held q.x.toNat else .idle 0 q.at_
 |.cu z=>.idle 1 z.at_
 |.quiet _=>.idle 2 0
 |.clear _=>.clear node
 |.read y=>.read node y
 |.join j=>.join node out u r j.at_ (if j.fu=true then some j.x else none) j.changed
 |.take t=>if t.jZ=true then .add node out u r else .take node out u r
 |.push q=>.push node out u r q.at_
 |.dU _=>.dU node
def dJ(x:WS):SX.Ph:=if x.en=true then .done else phN x.does x.node.toNat x.out (x.nx.headD 0).toNat (x.nx.tail.map Int.toNat) x.now
theorem RK(l:Lay)(who d:Int)(x:WS):dJ ⟨x.ev,x.jo,x.en,x.does,ku l who x d,x.node,x.has,x.nx,x.out⟩=dJ x:=by
 unfold dJ
 dsimp only
 congr 1
 unfold ku
 cases hn:x.now with
 |none=>
  dsimp only
  show _=Ec _ _ _ _ _
  unfold Ec
  by_cases h0:x.does=0
  ·rw[Io h0,ah h0];rfl
  by_cases h1:x.does=1
  ·rw[Im h1,ag h0,ah h1];rfl
  by_cases h2:x.does=2
  ·rw[Il h2,ag h0,ag h1,ah h2];rfl
  by_cases h3:x.does=3
  ·rw[Ik h3,ag h0,ag h1,ag h2,ah h3];rfl
  by_cases h4:x.does=4
  ·rw[Ij h4,ag h0,ag h1,ag h2,ag h3,ah h4];rfl
  by_cases h5:x.does=5
  ·rw[Ii h5,ag h0,ag h1,ag h2,ag h3,ag h4,ah h5];rfl
  by_cases h6:x.does=6
  ·rw[Ih h6,ag h0,ag h1,ag h2,ag h3,ag h4,ag h5,ah h6];rfl
  by_cases h7:x.does=7
  ·rw[Ig h7,ag h0,ag h1,ag h2,ag h3,ag h4,ag h5,ag h6,ah h7];rfl
  rw[Ie h0 h1 h2 h3 h4 h5 h6 h7,ag h0,ag h1,ag h2,ag h3,ag h4,ag h5,ag h6,ag h7];rfl
 |_=>rfl
theorem CF{ev jo:Int}{does node:Int}{has:Bool}{nx out:List Int}(hd:does=if nx.length=0 then 8 else 5):dJ ⟨ev,jo,false,does,.none,node,has,nx,out⟩=SX.fU node.toNat out (nx.map Int.toNat):=by
 subst hd
 cases nx with
 |nil=>rfl
 |cons u r=>rfl
abbrev gO(s:Sy)(l:Lay)(j:Nat):Nat:=nN s*nW l+nN s+1+j*(nN s+3)
def r7:Nw→Own
 |.pop q=>some (true,q)
 |.push q=>some (false,q)
 |_=>none
def lJ(W:List WS)(j:Nat):Own:=match W[j]? with
 |some x=>r7 x.now
 |none=>none
def lO(s:Sy)(l:Lay)(W:List WS)(j:Nat)(z:DQ):Prop:=∃(i:Nat) (x:WS),W[i]?=some x∧x.now=.cu z∧z.base=(gO s l j:Int)
abbrev jC(c:List Nat):List Int:=c.map fun v:Nat=>(v:Int)
def cf(s:Sy)(l:Lay)(W:List WS)(ws:List Int)(D:List (List Nat)):SX.AS where
 cell v i:=if v<nN s∧i<nW l then ws.getD (v*nW l+i) 0 else 0
 flag v:=decide (v<nN s∧¬ws.getD (nN s*nW l+v) 0=0)
 aH:=(ws.getD (nN s*nW l+nN s) 0).toNat
 dq:=D
 ph:=W.map dJ
 ev:=SX.aN (fun x=>x.ev.toNat) W
 jo:=SX.aN (fun x=>x.jo.toNat) W
structure RJ(s:Sy)(l:Lay)(hs:LS s l)(W:List WS)(ws:List Int)(D:List (List Nat))(T:Nat→Nat)(M:Nat):Prop where
 len:(W.length:Int)=l.k
 fl:ws.length=nF l
 kK:0≤ws.getD (nN s*nW l+nN s) 0
 dl:D.length=W.length
 di:∀(j:Nat) (c:List Nat),D[j]?=some c→DI (gO s l j) (eg l) ws (lJ W j) (lO s l W j) (T j) (jC c)
 top:∀j,T j≤M
 ev:∀x∈W,0≤x.ev∧x.ev≤M∧0≤x.jo∧x.jo≤M
 jn:∀x∈W,∀j,x.now=.join j→j.fu=true→cT j.what j.x (wd j.a j.at_)≠j.x
 pn:∀x∈W,∀q,x.now=.push q→q.n=x.nx.headD 0
 ti:SX.TI (kL s l hs) (cf s l W ws D)
theorem Aa{W:List WS}{i:Nat}{x:WS}(h:W[i]?=some x):lJ W i=r7 x.now:=by unfold lJ;rw[h]
theorem KE{W:List WS}{i:Nat}(hi:i<W.length)(x:WS)(j:Nat):lJ (W.set i x) j=if i=j then r7 x.now else lJ W j:=by
 unfold lJ
 rw[e8]
 by_cases h:i=j
 ·subst h;rw[ah rfl,ah hi,ah rfl]
 ·rw[ag h,ag h]
theorem qM{α:Type}{W:List α}{i:Nat}{x:α}(h:W[i]?=some x):W.set i x=W:=by
 refine zo fun j=>?_
 rw[e8]
 by_cases hj:i=j
 ·subst hj;rw[ah rfl,ah (cg.1 h).1,h]
 ·rw[ag hj]
theorem GB{s:Sy}{l:Lay}{W:List WS}{i:Nat}{x:WS}{j:Nat}{z:DQ}(h:lO s l (W.set i x) j z):lO s l W j z∨(x.now=.cu z∧z.base=(gO s l j:Int)):=by
 obtain⟨k,y,hy,h1,h2⟩:=h
 rw[e8]at hy
 by_cases hk:i=k
 ·subst hk
  rw[ah rfl]at hy
  split at hy
  ·cases hy;exact .inr ⟨h1,h2⟩
  ·cases hy
 ·rw[ag hk]at hy
  exact .inl ⟨k,y,hy,h1,h2⟩
theorem Ui{N b i j:Nat}(h:i≠j){a:Nat}(h1:b+i*(N+3)≤a)(h2:a<b+i*(N+3)+2+(N+1)):¬(b+j*(N+3)≤a∧a<b+j*(N+3)+2+(N+1)):=by
 rintro⟨h3,h4⟩
 rcases Nat.lt_or_gt_of_ne h with h5 | h5
 ·have:=lY (N+3) (show i+1≤j by omega)
  rw[qC]at this
  omega
 ·have:=lY (N+3) (show j+1≤i by omega)
  rw[qC]at this
  omega
theorem zH{α:Type}{W:List α}{i:Nat}{x y:α}(h:y∈W.set i x):y∈W∨y=x:=qH h
section
variable {s:Sy} {l:Lay} {hs:LS s l} {W:List WS} {ws:List Int} {D:List (List Nat)} {T:Nat→Nat} {M:Nat}
theorem RJ.fin(hR:RJ s l hs W ws D T M){i:Nat}{x x':WS}(hx:W[i]?=some x){ws':List Int}{D':List (List Nat)}{T':Nat→Nat}(gl:ws'.length=ws.length)(hc:0≤ws'.getD (nN s*nW l+nN s) 0)(ee:D'.length=D.length)
  (kH:∀(j:Nat) (c:List Nat),D'[j]?=some c→DI (gO s l j) (eg l) ws' (lJ (W.set i x') j) (lO s l (W.set i x') j) (T' j) (jC c))
  (yS:∀j,T' j≤M+1) (lA:x'.ev=x.ev∨x'.ev=x.ev+1) (mS:x'.jo=x.jo∨x'.jo=x.jo+1) (zd:∀j,x'.now=.join j→j.fu=true→cT j.what j.x (wd j.a j.at_)≠j.x) (sx:∀q,x'.now=.push q→q.n=x'.nx.headD 0)
  (sr:SX.Tr (kL s l hs) (cf s l W ws D) i (cf s l (W.set i x') ws' D')):RJ s l hs (W.set i x') ws' D' T' (M+1)∧SX.Tr (kL s l hs) (cf s l W ws D) i (cf s l (W.set i x') ws' D'):=by
 have h0:=hR.ev x (cq hx)
 refine⟨⟨by rw[cN];exact hR.len,gl.trans hR.fl,hc,by rw[cN,ee];exact hR.dl,kH,yS,fun y hy=>?_,fun y hy=>?_,fun y hy=>?_,hR.ti.step sr⟩,sr⟩
 ·rcases zH hy with hy | rfl
  ·have:=hR.ev y hy;omega
  ·omega
 ·rcases zH hy with hy | rfl
  ·exact hR.jn y hy
  ·exact zd
 ·rcases zH hy with hy | rfl
  ·exact hR.pn y hy
  ·exact sx
theorem wV(hR:RJ s l hs W ws D T M){i:Nat}{x x':WS}(hx:W[i]?=some x){ws':List Int}{c':List Nat}{T':Nat}(gl:ws'.length=ws.length)
  (jk:∀a,¬(gO s l i≤a∧a<gO s l i+2+rm (eg l))→ws'.getD a 0=ws.getD a 0) (MH:∀z,x'.now≠.cu z)
  (hD:DI (gO s l i) (eg l) ws' (r7 x'.now) (lO s l W i) T' (jC c')):∀(j:Nat) (c:List Nat),(D.set i c')[j]?=some c→DI (gO s l j) (eg l) ws' (lJ (W.set i x') j) (lO s l (W.set i x') j) (if j=i then T' else T j) (jC c):=by
 intro j c hj
 have hi:=(cg.1 hx).1
 have su:∀z,lO s l (W.set i x') j z→lO s l W j z:=fun z hz=>by
  rcases GB hz with h | h
  ·exact h
  ·exact absurd h.1 (MH z)
 rw[KE hi]
 rw[e8]at hj
 by_cases h:i=j
 ·subst h
  rw[ah rfl,ah (by rw[hR.dl];exact hi)]at hj
  cases hj
  rw[ah rfl,ah rfl]
  exact hD.qh su
 ·rw[ag h]at hj
  rw[ag h,ag (fun e=>h e.symm)]
  refine ((hR.di j c hj).Fe gl fun a h1 h2=>?_).qh su
  rw[hs.room.2]at h2 jk
  exact jk a (Ui (fun e=>h e.symm) h1 h2)
theorem o8(hR:RJ s l hs W ws D T M){i:Nat}{x x':WS}(hx:W[i]?=some x){ws':List Int}(gl:ws'.length=ws.length)
  (jk:∀a,nN s*nW l+nN s+1≤a→ws'.getD a 0=ws.getD a 0) (MH:∀z,x'.now≠.cu z) (ho:r7 x.now=r7 x'.now) :
  ∀(j:Nat) (c:List Nat),D[j]?=some c→DI (gO s l j) (eg l) ws' (lJ (W.set i x') j) (lO s l (W.set i x') j) (T j) (jC c):=by
 intro j c hj
 have hi:=(cg.1 hx).1
 have e:lJ (W.set i x') j=lJ W j:=by
  rw[KE hi]
  by_cases h:i=j
  ·subst h;rw[ah rfl,Aa hx,ho]
  ·rw[ag h]
 rw[e]
 refine ((hR.di j c hj).Fe gl fun a h1 h2=>jk a (by unfold gO at h1;omega)).qh fun z hz=>?_
 rcases GB hz with h | h
 ·exact h
 ·exact absurd h.1 (MH z)
theorem Hf(hR:RJ s l hs W ws D T M){i v:Nat}{x x':WS}{q':DQ}(hx:W[i]?=some x)(hv:v<D.length){ws':List Int}{c':List Nat}{T':Nat}(gl:ws'.length=ws.length)
  (jk:∀a,¬(gO s l v≤a∧a<gO s l v+2+rm (eg l))→ws'.getD a 0=ws.getD a 0) (ao:(x'.now=.cu q'∧q'.base=(gO s l v:Int))∨∀z,x'.now≠.cu z) (ho:r7 x.now=r7 x'.now)
  (hD:DI (gO s l v) (eg l) ws' (lJ W v) (fun z=>lO s l W v z∨(x'.now=.cu z∧z=q')) T' (jC c')):∀(j:Nat) (c:List Nat),(D.set v c')[j]?=some c→DI (gO s l j) (eg l) ws' (lJ (W.set i x') j) (lO s l (W.set i x') j) (if j=v then T' else T j) (jC c):=by
 intro j c hj
 have hi:=(cg.1 hx).1
 have e:lJ (W.set i x') j=lJ W j:=by
  rw[KE hi]
  by_cases h:i=j
  ·subst h;rw[ah rfl,Aa hx,ho]
  ·rw[ag h]
 rw[e]
 rw[e8]at hj
 by_cases h:v=j
 ·subst h
  rw[ah rfl,ah hv]at hj
  cases hj
  rw[ah rfl]
  refine hD.qh fun z hz=>?_
  rcases GB hz with h | h
  ·exact .inl h
  ·refine .inr ⟨h.1,?_⟩
   rcases ao with h2 | h2
   ·have:=h.1.symm.trans h2.1
    cases this;rfl
   ·exact absurd h.1 (h2 z)
 ·rw[ag h]at hj
  rw[ag (fun e=>h e.symm)]
  refine ((hR.di j c hj).Fe gl fun a h1 h2=>?_).qh fun z hz=>?_
  ·rw[hs.room.2]at h2 jk
   exact jk a (Ui (fun e=>h e.symm) h1 h2)
  ·rcases GB hz with h3 | h3
   ·exact h3
   ·rcases ao with h2 | h2
    ·have h4:=h3.1.symm.trans h2.1
     cases h4
     have h5:=h3.2.symm.trans h2.2
     have h6:j*(nN s+3)=v*(nN s+3):=by unfold gO at h5;omega
     exact absurd (Nat.eq_of_mul_eq_mul_right (by omega) h6).symm h
    ·exact absurd h3.1 (h2 z)
theorem AK{A B:SX.AS}(h1:∀v i,A.cell v i=B.cell v i)(h2:∀v,A.flag v=B.flag v)(h3:A.aH=B.aH)(h4:A.dq=B.dq)(h5:A.ph=B.ph)(h6:A.ev=B.ev)(h7:A.jo=B.jo):A=B:=by
 obtain⟨a1,a2,a3,a4,a5,a6,a7⟩:=A
 obtain⟨b1,b2,b3,b4,b5,b6,b7⟩:=B
 obtain rfl:a1=b1:=funext fun v=>funext fun i=>h1 v i
 obtain rfl:a2=b2:=funext h2
 cases h3;cases h4;cases h5;cases h6;cases h7;rfl
theorem ug{f:WS→Nat}{i:Nat}{x x':WS}(hx:W[i]?=some x)(h:f x'=f x):SX.aN f (W.set i x')=SX.aN f W:=by
 have:=SX.fN f W i x x' hx
 omega
theorem l6{i:Nat}{x x':WS}(hx:W[i]?=some x){ws':List Int}(fg:∀a,a<nN s*nW l+nN s+1→ws'.getD a 0=ws.getD a 0)(lA:x'.ev=x.ev)(mS:x'.jo=x.jo)(D':List (List Nat)):
  cf s l (W.set i x') ws' D' = { cf s l W ws D with dq:=D',ph:=(cf s l W ws D).ph.set i (dJ x') }:=by
 refine AK (fun v j=>?_) (fun v=>?_) ?_ rfl ?_ ?_ ?_
 ·show (if _ then _ else _)=(if _ then _ else _)
  by_cases h:v<nN s∧j<nW l
  ·have:=sW h.1 h.2
   rw[ah h,ah h,fg _ (by omega)]
  ·rw[ag h,ag h]
 ·show decide _=decide _
  by_cases h:v<nN s
  ·rw[fg _ (by omega)]
  ·rw[bZ (fun e=>h e.1),bZ (fun e=>h e.1)]
 ·show (ws'.getD _ 0).toNat=(ws.getD _ 0).toNat
  rw[fg _ (by omega)]
 ·show (W.set i x').map dJ=(W.map dJ).set i (dJ x')
  rw[oS]
 ·exact ug hx (by rw[lA])
 ·exact ug hx (by rw[mS])
theorem mA{i:Nat}{x:WS}(hx:W[i]?=some x):(cf s l W ws D).ph[i]?=some (dJ x):=by
 show (W.map dJ)[i]?=_
 rw[fo,hx];rfl
theorem Sm{i:Nat}{x x':WS}(hx:W[i]?=some x){ws':List Int}{u:Nat}{z:Int}(hu:u<nN s)(hl:nN s*nW l+u<ws.length)(hw:ws'=ws.set (nN s*nW l+u) z)(lA:x'.ev=x.ev)(mS:x'.jo=x.jo):
  cf s l (W.set i x') ws' D = { cf s l W ws D with flag:=fun v=>if v=u then decide (¬z=0) else (cf s l W ws D).flag v,ph:=(cf s l W ws D).ph.set i (dJ x') }:=by
 subst hw
 refine AK (fun v j=>?_) (fun v=>?_) ?_ rfl ?_ ?_ ?_
 ·show (if _ then _ else _)=(if _ then _ else _)
  by_cases h:v<nN s∧j<nW l
  ·have:=sW h.1 h.2
   rw[ah h,ah h,j6,ag (by omega)]
  ·rw[ag h,ag h]
 ·show decide _=if v=u then _ else decide _
  by_cases h:v=u
  ·subst h
   rw[ah rfl,j6,ah ⟨rfl,hl⟩]
   simp[hu]
  ·rw[ag h,j6,ag (by omega)]
 ·show ((ws.set _ _).getD _ 0).toNat=(ws.getD _ 0).toNat
  rw[j6,ag (by omega)]
 ·show (W.set i x').map dJ=(W.map dJ).set i (dJ x')
  rw[oS]
 ·exact ug hx (by rw[lA])
 ·exact ug hx (by rw[mS])
theorem Tv{i:Nat}{x x':WS}(hx:W[i]?=some x){ws':List Int}{z:Int}(hl:nN s*nW l+nN s<ws.length)(hw:ws'=ws.set (nN s*nW l+nN s) z)(lA:x'.ev=x.ev)(mS:x'.jo=x.jo):
  cf s l (W.set i x') ws' D = { cf s l W ws D with aH:=z.toNat,ph:=(cf s l W ws D).ph.set i (dJ x') }:=by
 subst hw
 refine AK (fun v j=>?_) (fun v=>?_) ?_ rfl ?_ ?_ ?_
 ·show (if _ then _ else _)=(if _ then _ else _)
  by_cases h:v<nN s∧j<nW l
  ·have:=sW h.1 h.2
   rw[ah h,ah h,j6,ag (by omega)]
  ·rw[ag h,ag h]
 ·show decide _=decide _
  by_cases h:v<nN s
  ·rw[j6,ag (by omega)]
  ·rw[bZ (fun e=>h e.1),bZ (fun e=>h e.1)]
 ·show ((ws.set _ _).getD _ 0).toNat=z.toNat
  rw[j6,ah ⟨rfl,hl⟩]
 ·show (W.set i x').map dJ=(W.map dJ).set i (dJ x')
  rw[oS]
 ·exact ug hx (by rw[lA])
 ·exact ug hx (by rw[mS])
theorem ab5{i:Nat}{x x':WS}(hx:W[i]?=some x){ws':List Int}{u j:Nat}{z:Int}(hu:u<nN s)(hj:j<nW l)(hl:u*nW l+j<ws.length)(hw:ws'=ws.set (u*nW l+j) z)(lA:x'.ev=x.ev)(k:Nat)(mS:x'.jo.toNat=x.jo.toNat+k):
  cf s l (W.set i x') ws' D = { cf s l W ws D with cell:=SX.eN (cf s l W ws D).cell u j z,ph:=(cf s l W ws D).ph.set i (dJ x'),jo:=(cf s l W ws D).jo+k }:=by
 subst hw
 have h0:=sW hu hj
 refine AK (fun v t=>?_) (fun v=>?_) ?_ rfl ?_ ?_ ?_
 ·show (if _ then _ else _)=SX.eN _ _ _ _ _ _
  unfold SX.eN
  by_cases h:v<nN s∧t<nW l
  ·rw[ah h,j6]
   by_cases e:v=u∧t=j
   ·obtain⟨rfl,rfl⟩:=e
    rw[ah ⟨rfl,hl⟩,ah ⟨rfl,rfl⟩]
   ·rw[ag e,ag fun h2=>e (Sj h.2 hj h2.1.symm)]
    show _=if _ then _ else _
    rw[ah h]
  ·rw[ag h,ag (fun e=>h (by rw[e.1,e.2];exact⟨hu,hj⟩))]
   show _=if _ then _ else _
   rw[ag h]
 ·show decide _=decide _
  rw[j6,ag (by omega)]
 ·show ((ws.set _ _).getD _ 0).toNat=(ws.getD _ 0).toNat
  rw[j6,ag (by omega)]
 ·show (W.set i x').map dJ=(W.map dJ).set i (dJ x')
  rw[oS]
 ·exact ug hx (by rw[lA])
 ·show SX.aN _ _=SX.aN _ _+k
  have:=SX.fN (fun x:WS=>x.jo.toNat) W i x x' hx
  omega
theorem aei{i:Nat}{x x':WS}(hx:W[i]?=some x)(lA:x'.ev.toNat=x.ev.toNat+1)(mS:x'.jo=x.jo):
  cf s l (W.set i x') ws D = { cf s l W ws D with ph:=(cf s l W ws D).ph.set i (dJ x'),ev:=(cf s l W ws D).ev+1 }:=by
 refine AK (fun _ _=>rfl) (fun _=>rfl) rfl rfl ?_ ?_ ?_
 ·show (W.set i x').map dJ=(W.map dJ).set i (dJ x')
  rw[oS]
 ·show SX.aN _ _=SX.aN _ _+1
  have:=SX.fN (fun x:WS=>x.ev.toNat) W i x x' hx
  omega
 ·exact ug hx (by rw[mS])
theorem aeh{i:Nat}{x x':WS}(hx:W[i]?=some x)(lA:x'.ev=x.ev)(k:Nat)(mS:x'.jo.toNat=x.jo.toNat+k):
  cf s l (W.set i x') ws D = { cf s l W ws D with ph:=(cf s l W ws D).ph.set i (dJ x'),jo:=(cf s l W ws D).jo+k }:=by
 refine AK (fun _ _=>rfl) (fun _=>rfl) rfl rfl ?_ ?_ ?_
 ·show (W.set i x').map dJ=(W.map dJ).set i (dJ x')
  rw[oS]
 ·exact ug hx (by rw[lA])
 ·show SX.aN _ _=SX.aN _ _+k
  have:=SX.fN (fun x:WS=>x.jo.toNat) W i x x' hx
  omega
end
end Go.Proofs.YtnikdflhefijbaaGreat
