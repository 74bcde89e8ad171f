import Derived.Test.YtnikdflhefijbaaGreatBn41
import Derived.Test.YtnikdflhefijbaaGreatBn36
import Derived.Test.YtnikdflhefijbaaGreatBn25
import Derived.Test.YtnikdflhefijbaaGreatBn21
import Derived.Test.YtnikdflhefijbaaGreatBn31
import Derived.Test.YtnikdflhefijbaaGreatBn24
namespace Go.Proofs.YtnikdflhefijbaaGreat
open Go.RowKit
set_option maxRecDepth 100000
set_option maxHeartbeats 4000000
def sg(x:Int)(p:List Int)(o:List Int):List Int:=p.foldl (fun o a=>o.set a.toNat x) o
theorem JJ(x:Int):∀(p o:List Int),(sg x p o).length=o.length
 | [],_=>rfl
 |a::p,o=>by
  show (sg x p (o.set a.toNat x)).length=_
  rw[JJ x p,cM]
theorem aa2(x:Int)(p o:List Int)(a:Int):sg x (p++[a]) o=(sg x p o).set a.toNat x:=by unfold sg;rw[tS];rfl
def rh(n k:Nat)(Q:List (List Int)):Nat→List Int
 | 0=>List.replicate n 0
 |j+1=>sg (((k*((Q.take j).flatten.length) / n:Nat)):Int) (Q.getD j []) (rh n k Q j)
theorem zC(n k:Nat)(Q:List (List Int)):∀j,(rh n k Q j).length=n
 | 0=>gb
 |j+1=>by unfold rh;rw[JJ];exact zC n k Q j
def lC(n k:Nat)(l:List bC):List Int:=rh n k (ka n l) (ka n l).length
theorem VF(k:Nat)(σ:Hp)(h1:1≤k)(h2:k≤64):ACalls Tryz.prog 214 [.int .i64 k] σ (aE (.bool true) σ):=by
 refine ay Tryz.func214 ?_
 refine an (fun _=>?_) (fun c=>absurd (show (1:Int)≤k by omega) c)
 refine an (fun _=>?_) (fun c=>absurd (show (k:Int)≤64 by omega) c)
 exact .done ⟨rfl,rfl⟩
theorem Px(Q:List (List Int))(j:Nat):(Q.take j).flatten.length≤Q.flatten.length:=by
 have e:Q.flatten=(Q.take j).flatten++(Q.drop j).flatten:=by rw[← gm5,Bq]
 rw[e,bQ];omega
structure agv(n:Nat)(Q:List (List Int)):Prop where
 node:∀p∈Q,∀x∈p,0≤x∧x<(n:Int)
 flat:Q.flatten.length≤600
 len:Q.length≤600
theorem abX{k a n:Nat}(hk:k≤64)(ha:a≤600)(_hn:1≤n):IntKind.i64.wrap ((IntKind.i64.wrap ((k:Int)*(a:Nat))).tdiv (n:Int))=((k*a / n:Nat):Int):=by
 have h1:(k:Int)*(a:Nat)=((k*a:Nat):Int):=by simp
 have h2:k*a≤64*600:=tP hk ha
 have h3:k*a / n≤k*a:=Nat.div_le_self _ _
 have h4:IntKind.i64.wrap ((k*a:Nat):Int)=((k*a:Nat):Int):=by rw[IntKind.wrap_i64];omega
 have h5:(((k*a:Nat):Int)).tdiv (n:Int)=((k*a / n:Nat):Int):=rfl
 rw[h1,h4,h5]
 clear h4 h5
 generalize k*a / n=q at h3
 generalize k*a=m at h2 h3
 rw[IntKind.wrap_i64]
 omega
theorem ady{n:Nat}{l:List bC}{P:List (List Int)}(h:oq n l P)(hr:∀e∈l,(0≤e.1∧e.1<(n:Int))∧0≤e.2.1∧e.2.1<(n:Int))(hn:n≤256):agv n (ka n l):=by
 have hO:=(Gp h hr P.length (aU _)).1
 rw[Lu h hr]at hO
 have hm:∀p∈ka n l,p∈P:=fun p hp=>by
  obtain⟨i,_,hi⟩:=(hO.mem p).1 hp
  exact cq hi
 have ga:=FD n _ hO.nd fun x hx=>by
  obtain⟨p,hp,rj⟩:=oN.1 hx
  exact h.ok.node p (hm p hp) x rj
 have hll:=PL (Q:=ka n l) fun p hp=>mM.2 (h.ok.ne p (hm p hp))
 exact⟨fun p hp=>h.ok.node p (hm p hp),by omega,by omega⟩
theorem ad4(n:Nat)(l:List bC)(k:Nat)(σ:Hp)(hl:l.length≤100000)(dQ:fe n l=true)(h1:1≤k)(h2:k≤64):ACalls Tryz.prog 216 [.int .i64 n,.af dv l,.int .i64 k] σ (aE (.tup [.af (.int .i64) (lC n k l),.int .i64 0]) σ):=by
 have hn:1≤n∧n≤256:=by
  unfold fe at dQ
  simp only[bL,decide_eq_true_eq]at dQ
  omega
 have A6:∀e∈l,(0≤e.1∧e.1<(n:Int))∧0≤e.2.1∧e.2.1<(n:Int):=fun e he=>by
  unfold fe at dQ
  simp only[bL,fk]at dQ
  have:=dQ.2 e he
  exact⟨kI.1 this.1,kI.1 this.2⟩
 refine ay Tryz.func216 ?_
 refine az [] (VF k _ h1 h2) ?_
 refine .mk [] _ (acX n l _ hl dQ) ?_
 rintro _ τ ⟨rfl,M8,P,hP⟩
 subst τ
 have hQ:=ady hP A6 hn.2
 unfold lC
 generalize ka n l=Q at hQ
 have hQl:=hQ.len
 have hnT:((n:Nat):Int).toNat=n:=bM n
 refine ag.mk ⟨by omega,by omega,by omega,by decide⟩ ?_
 intro bo
 refine bV (S:=Nat) (fun x=>[(0,.int .i64 n),(2,.int .i64 k),(10,.ae bo 0 n 1),(11,.int .i64 ((Q.take x).flatten.length:Nat)),(30,.af (.slice (.int .i64)) Q),(31,.int .i64 Q.length),(32,.int .i64 x)]) (fun x=>(bo,ao (rh n k Q x))::σ) (fun x=>x≤Q.length) (fun x=>Q.length-x) 0 ⟨bA _,⟨rfl,rfl,rfl,rfl,rfl,rfl,rfl,trivial⟩,by rw[show ao (rh n k Q 0)=cE [.int .i64 0] n from (xZ n).symm];rfl⟩ ?_
 intro j g hj
 have hj:j≤Q.length:=hj
 have Iw:(Q.take j).flatten.length≤600:=fD (Px Q j) hQ.flat
 refine an (p:=(j:Int)<Q.length) (fun ab=>?_) (fun ar=>?_)
 ·have ab:j<Q.length:=by omega
  obtain⟨p,hp⟩:∃p,Q[j]?=some p:=⟨Q[j]'ab,bJ ab⟩
  have Iy:=hQ.node p (cq hp)
  have oE:p.length≤600:=fD (List.Sublist.length_le (List.sublist_flatten_of_mem (cq hp))) hQ.flat
  have hx:IntKind.i64.wrap ((IntKind.i64.wrap ((k:Int)*((Q.take j).flatten.length:Nat))).tdiv (n:Int))=((k*(Q.take j).flatten.length / n:Nat):Int):=abX (by omega) (by omega) (by omega)
  have hu:rh n k Q (j+1)=sg ((k*(Q.take j).flatten.length / n:Nat):Int) p (rh n k Q j):=by
   show sg _ (Q.getD j []) _=_
   rw[aW,hp];rfl
  have ny:=zC n k Q j
  have fB:(Q.take (j+1)).flatten.length=(Q.take j).flatten.length+p.length:=by
   rw[List.take_succ_eq_append_getElem ab,List.flatten_append,List.length_append,show Q[j]=p from Option.some.inj ((List.getElem?_eq_getElem ab).symm.trans hp)];simp
  generalize rh n k Q j=o at hu ny
  generalize hX:((k*(Q.take j).flatten.length / n:Nat):Int)=X at hx hu
  refine ag.mk rfl (bG.mk p (by omega) (by rw[bM];exact hp) ?_)
  refine bV (S:=Nat) (fun y=>[(0,.int .i64 n),(2,.int .i64 k),(10,.ae bo 0 n 1),(11,.int .i64 ((Q.take j).flatten.length:Nat)),(13,.af (.int .i64) p),(30,.af (.slice (.int .i64)) Q),(31,.int .i64 Q.length),(32,.int .i64 j),(36,.af (.int .i64) p),(37,.int .i64 p.length),(38,.int .i64 y)]) (fun y=>(bo,ao (sg X (p.take y) o))::σ) (fun y=>y≤p.length) (fun y=>p.length-y) 0 ⟨bA _,⟨rfl,rfl,rfl,rfl,rfl,rfl,rfl,rfl,rfl,rfl,rfl,trivial⟩,rfl⟩ ?_
  intro y g2 hy
  have hy:y≤p.length:=hy
  refine an (p:=(y:Int)<p.length) (fun qs=>?_) (fun hg2=>?_)
  ·have qs:y<p.length:=by omega
   have hz:=Iy _ (bX qs)
   have Ea:=JJ X (p.take y) o
   refine ag.mk rfl (bG.mk p[y] (by omega) (get_some qs) ?_)
   refine ag.mk (by omega) ?_
   refine ag.mk ⟨rfl,by omega,by omega⟩ ?_
   refine cX 0 rfl (mV rfl _ hz.1 (by omega)) ?_
   exact a8 (y+1) (by show p.length-(y+1)<p.length-y;omega) qs ⟨rfl,rfl,rfl,rfl,rfl,rfl,rfl,rfl,rfl,rfl,aX (by omega),trivial⟩ (aJ (by rw[hx,fp qs,aa2];rfl))
  ·have hg2:p.length=y:=by omega
   subst hg2
   rw[fj]
   exact a8 (j+1) (by show Q.length-(j+1)<Q.length-j;omega) ab ⟨rfl,rfl,rfl,(by show AV.int .i64 (IntKind.i64.wrap ((((Q.take j).flatten.length:Nat):Int)+((p.length:Nat):Int)))=.int .i64 (((Q.take (j+1)).flatten.length:Nat):Int);rw[fB,IntKind.wrap_i64];exact aQ (by omega)),rfl,rfl,aX (by omega),trivial⟩ (aJ (by rw[hu]))
 ·have ar:Q.length=j:=by omega
  subst ar
  refine .cI 0 bo 0 n 1 _ (.int .i64) (rh n k Q Q.length) rfl (by rw[gR,eI (by rw[mQ,zC,eH];exact aU _)];exact ug _) ⟨zC n k Q _,rfl,by decide⟩ (cJ .here (.refl _)) (.done ⟨rfl,rfl⟩)
set_option maxHeartbeats 4000000
def nf(L:List Int):Nat→List Int
 | 0=>L
 |i+1=>((nf L i).set i ((nf L i).getD (L.length-1-i) 0)).set (L.length-1-i) ((nf L i).getD i 0)
theorem E7(L:List Int):∀i,(nf L i).length=L.length
 | 0=>rfl
 |i+1=>by unfold nf;rw[cM,cM];exact E7 L i
theorem QO(l:List Int)(a:Nat)(v:Int)(t:Nat)(ha:a<l.length):(l.set a v).getD t 0=if a=t then v else l.getD t 0:=by
 rw[aW,eR]
 by_cases h:a=t
 ·subst h;rw[ai rfl,ai ha,ai rfl];rfl
 ·rw[ah h,ah h,aW]
theorem SG(L:List Int):∀i,2*i≤L.length+1→∀t,t<L.length→(nf L i).getD t 0=if t<i∨L.length-i≤t then L.getD (L.length-1-t) 0 else L.getD t 0
 | 0,_,t,ht=>by
  rw[ah (by omega)];rfl
 |i+1,hi,t,ht=>by
  have hl:=E7 L i
  have ih:=SG L i (by omega)
  have h0:0<L.length:=by omega
  have e1:L.length-1-i<((nf L i).set i ((nf L i).getD (L.length-1-i) 0)).length:=by rw[cM,hl];omega
  unfold nf
  rw[QO _ _ _ _ e1]
  by_cases hm:i<L.length
  ·rw[QO _ _ _ _ (by rw[hl];exact hm),ih i hm,ih (L.length-1-i) (by omega),ih t ht]
   repeat' split
   all_goals first | rfl | (exfalso;omega) | (congr 1;omega)
  ·omega
theorem Z5{L:List Int}{i:Nat}(h1:2*i≤L.length+1)(h2:L.length≤2*i+1):nf L i=L.reverse:=by
 have hl:=E7 L i
 refine EO (by rw[hl,sE]) fun t h3 h4=>?_
 have ht:t<L.length:=by omega
 have:=SG L i h1 t ht
 rw[aW,bJ h3,aW,bJ (show L.length-1-t<L.length by omega),aW,bJ ht]at this
 rw[List.getElem_reverse]
 have this:(nf L i)[t]=if t<i∨L.length-i≤t then L[L.length-1-t] else L[t]:=this
 rw[this]
 split
 ·rfl
 ·have e:t=L.length-1-t:=by omega
  congr 1
theorem ab4(b:Nat)(L:List Int)(q:Nat)(σ:Hp)(hq:L.length=q)(hl:q≤1000000):ACalls Tryz.prog 217 [.ae b 0 q 1] ((b,ao L)::σ) (aE (.tup []) ((b,ao L.reverse)::σ)):=by
 refine ay Tryz.func217 ?_
 refine bV (S:=Nat) (fun i=>[(0,.ae b 0 q 1),(2,.int .i64 i),(3,.int .i64 ((q:Int)-1-i))]) (fun i=>(b,ao (nf L i))::σ) (fun i=>2*i≤q+1) (fun i=>q+1-i) 0 ⟨by omega,⟨rfl,rfl,aQ (by rw[IntKind.wrap_i64];omega),trivial⟩,rfl⟩ ?_
 intro i g hi
 have hi:2*i≤q+1:=hi
 have fK:=E7 L i
 refine an (p:=(i:Int)<(q:Int)-1-i) (fun ab=>?_) (fun ar=>?_)
 ·have hj:((q:Int)-1-(i:Int)).toNat=L.length-1-i:=by omega
  refine .sched [] (upto [] 16 0) (by kernel_rfl) ?_
  refine ag.mk ⟨rfl,by omega,by omega⟩ ?_
  refine aT 0 rfl (eT rfl (by omega) (by omega)) ?_
  refine ag.mk ⟨rfl,by omega,by omega⟩ ?_
  refine aT 0 rfl (eT rfl (by omega) (by omega)) ?_
  refine ag.mk ⟨rfl,by omega,by omega⟩ ?_
  refine cX 0 rfl (mV rfl _ (by omega) (by omega)) ?_
  refine ag.mk ⟨rfl,by omega,by omega⟩ ?_
  refine cX 0 rfl (mV rfl _ (by omega) (by rw[cM];omega)) ?_
  refine a8 (i+1) (by show q+1-(i+1)<q+1-i;omega) (by show 2*(i+1)≤q+1;omega) ⟨rfl,aQ (by rw[IntKind.wrap_i64];omega),aQ (by rw[IntKind.wrap_i64];omega),trivial⟩ (aJ ?_)
  show (b,ao (((nf L i).set ((i:Nat):Int).toNat ((nf L i).getD ((q:Int)-1-(i:Int)).toNat 0)).set ((q:Int)-1-(i:Int)).toNat ((nf L i).getD ((i:Nat):Int).toNat 0)))::σ=(b,ao (nf L (i+1)))::σ
  rw[hj,bM]
  rfl
 ·rw[Z5 (by omega) (by omega)]
  exact .done ⟨rfl,rfl⟩
set_option maxHeartbeats 4000000
def mq(k:Nat)(ow al:List Int):List (List Int):=(List.range k).map fun u:Nat=>al.filter fun x=>decide (ow.getD x.toNat 0=(u:Int))
theorem xK(k:Nat)(ow al:List Int):(mq k ow al).length=k:=by unfold mq;rw[cd,oO]
theorem BO{k:Nat}{ow al:List Int}{u:Nat}(h:u<k):(mq k ow al)[u]?=some (al.filter fun x=>decide (ow.getD x.toNat 0=(u:Int))):=by
 unfold mq
 rw[fo,tU h];rfl
theorem Wq{k:Nat}{ow al:List Int}{z:Int}{w:Nat}{rl:List Int}(hz:ow.getD z.toNat 0=(w:Int))(hr:(mq k ow al)[w]?=some rl):mq k ow (al++[z])=(mq k ow al).set w (rl++[z]):=by
 have hw:w<k:=by
  have:=(cf.1 hr).1
  rw[xK]at this
  exact this
 refine zg fun i=>?_
 rw[eR,xK]
 rcases tN i k with hi | hi
 ·rw[BO hi,BO hi,Bo]
  by_cases e:w=i
  ·subst e
   rw[ai rfl,ai hw]
   rw[BO hw]at hr
   rw[← Option.some.inj hr,List.filter_cons,if_pos (by rw[hz];simp),List.filter_nil]
  ·rw[if_neg e,List.filter_cons,if_neg (by rw[hz];simp;omega),List.filter_nil,List.append_nil]
 ·rw[tY (by rw[xK];exact hi),ah (by omega),tY (by rw[xK];exact hi)]
theorem Yl(A:List jI)(r r2:jI)(B:List jI):kQ (A++r2::B)=(kQ (A++r::B)).set A.length r2.2.2:=by
 unfold kQ
 rw[cS,cS,Jj _ _ (by rw[cd];exact aU _),cd,pG]
 rfl
theorem Z1(A:List jI)(r:jI)(B:List jI):(kQ (A++r::B))[A.length]?=some r.2.2:=by
 unfold kQ
 rw[cS,iJ (by rw[cd];exact aU _),cd,pG]
 rfl
theorem Ul(bx:Nat)(ow:List Int)(x w:Int)(σ:Hp)(hx:0≤x)(hw:ow[x.toNat]?=some w):ACalls Tryz.prog 219 [.int .i64 x,.ptr bx 0] ((bx,[.af (.int .i64) ow])::σ) (aE (.int .i64 w) ((bx,[.af (.int .i64) ow])::σ)):=by
 refine ay Tryz.func219 ?_
 refine aa 0 ?_
 refine ag.mk rfl (bG.mk w hx hw ?_)
 exact .done ⟨rfl,rfl⟩
theorem aeq(n k bx:Nat)(ow al:List Int)(σ:Hp)(l8:1≤k)(dF:k≤64)(NL:al.length≤100000)(hr:∀x∈al,0≤x∧x<(n:Int))(ny:ow.length=n)(jq:∀i:Nat,i<n→0≤ow.getD i 0∧ow.getD i 0<(k:Int)):ACalls Tryz.prog 218 [.af (.int .i64) al,.int .i64 k,.fn (.func 219) [] [.ptr bx 0]] ((bx,[.af (.int .i64) ow])::σ) (fun r σ'=>∃ls:List (List Int),r=.af (.slice (.int .i64)) ls∧σ'=(bx,[.af (.int .i64) ow])::σ∧ls=mq k ow al):=by
 refine Xb ?_
 refine ay Tryz.func218 ?_
 refine ag.mk ⟨by omega,by omega,by omega,by decide⟩ ?_
 intro bo
 refine .dJ (.pull [1] (.refl _)) ?_
 refine bV (S:=Nat×List jI) (fun s=>[(2,.fn (.func 219) [] [.ptr bx 0]),(7,.ae bo 0 k 1),(12,.af (.int .i64) al),(13,.int .i64 al.length),(14,.int .i64 s.1)]) (fun s=>(bx,[.af (.int .i64) ow])::(bo,jW s.2)::(lr s.2++σ)) (fun s=>s.1≤al.length∧(∀r∈s.2,yr r)∧kQ s.2=mq k ow (al.take s.1)) (fun s=>al.length-s.1) (0,List.replicate k (.aj,[],[])) ⟨⟨bA _,fun r hr=>.inl (by rw[Bt hr];exact⟨rfl,rfl,rfl⟩),?_⟩,⟨rfl,rfl,rfl,rfl,rfl,trivial⟩,?_⟩ ?_
 ·refine zg fun i=>?_
  show (kQ (List.replicate k (.aj,[],[])))[i]?=_
  unfold kQ
  rw[fo,vN]
  rcases tN i k with hi | hi
  ·rw[ai hi,BO hi];rfl
  ·rw[ah (by omega),tY (by rw[xK];exact hi)];rfl
 ·show _=(bx,[AV.af (.int .i64) ow])::(bo,jW (List.replicate k (.aj,[],[])))::(lr (List.replicate k (.aj,[],[]))++σ)
  rw[← Z6,Yp];rfl
 rintro⟨j,rs⟩ g ⟨xo,ho0,hL0⟩
 have hj:j≤al.length:=xo
 have ho:∀r∈rs,yr r:=ho0
 have hL:kQ rs=mq k ow (al.take j):=hL0
 clear xo ho0 hL0
 have vA:rs.length=k:=by
  have:=congrArg List.length hL
  rw[xK]at this
  exact (cd _).symm.trans this
 refine an (p:=(j:Int)<al.length) (fun ab=>?_) (fun ar=>?_)
 rotate_left
 ·have ar:¬(j:Int)<al.length:=ar
  rw[eI (by omega)]at hL
  subst vA
  exact .perm ((List.Perm.cons _ nF).trans (List.Perm.swap _ _ _)) (.done ⟨bo,rs,rfl,rfl,ho,hL⟩)
 have ab:j<al.length:=by omega
 obtain⟨z,hz⟩:∃z,al[j]=z:=⟨_,rfl⟩
 have gP:=hr z (hz▸bX ab)
 have hzi:al[((j:Nat):Int).toNat]?=some z:=by rw[bM,bJ ab,hz]
 have fB:al.take (j+1)=al.take j++[z]:=by rw[fp ab,hz]
 obtain⟨w,hw⟩:∃w:Nat,ow.getD z.toNat 0=(w:Int):=⟨(ow.getD z.toNat 0).toNat,by have:=jq z.toNat (by omega);omega⟩
 have sl:w<k:=by have:=jq z.toNat (by omega);omega
 have hzw:ow[z.toNat]?=some (w:Int):=by rw[← hw,aW,bJ (by omega)];rfl
 obtain⟨A,r,B,rfl,hA⟩:∃A r B,rs=A++r::B∧w=A.length:=⟨rs.take w,rs[w]'(by omega),rs.drop (w+1),by simp,by rw[List.length_take];omega⟩
 obtain⟨c,acc,rl⟩:=r
 have hAw:((w:Nat):Int)=A.length:=by rw[hA]
 rw[J0]
 have NG:=Z2 A (c,acc,rl) B hAw
 have kC:=fun r2=>Ym A (c,acc,rl) r2 B hAw
 have Mw:(mq k ow (al.take j))[w]?=some rl:=by rw[← hL,hA];exact Z1 A (c,acc,rl) B
 have gB:=Wq hw Mw
 rw[← fB]at gB
 generalize hC:jW (A++(c,acc,rl)::B)=C at NG kC
 have mC:yr (c,acc,rl):=ho _ (jv _ (cm ..))
 have hCl:C.length=k:=by rw[← hC,Yn];exact vA
 have hrb:rl.length≤100000:=by
  rw[BO sl]at Mw
  rw[← Option.some.inj Mw]
  exact fD (EP _ _) (by rw[xC];omega)
 have gZ:∀v' bu,Acc 1 (rl.length+1) v' bu (ao rl++[.int .i64 z])→j+1≤al.length∧(∀r∈A++(.via v',bu,rl++[z])::B,yr r)∧kQ (A++(.via v',bu,rl++[z])::B)=mq k ow (al.take (j+1)):=fun v' bu h'=>by
  have qs:(rl++[z]:List Int).length=rl.length+1:=bQ
  refine⟨ab,fun r hr=>?_,?_⟩
  ·rcases bO.1 hr with hr | hr
   ·exact ho r (gD _ hr)
   ·rcases eG.1 hr with rfl | hr
    ·refine .inr ⟨v',rfl,?_⟩
     show Acc 1 (rl++[z]:List Int).length v' bu (ao (rl++[z]))
     rw[qs,show ao (rl++[z])=ao rl++[.int .i64 z] from cS]
     exact h'
    ·exact ho r (jv _ (cY _ hr))
  ·rw[gB,← hL,hA];exact Yl A (c,acc,rl) (.via v',bu,rl++[z]) B
 refine ag.mk rfl (bG.mk z (by omega) hzi ?_)
 refine az [] (Ul bx ow z w _ gP.1 hzw) ?_
 refine az [] (Ul bx ow z w _ gP.1 hzw) ?_
 refine ag.mk ⟨rfl,by omega,by omega⟩ ?_
 rcases mC with ⟨q1,q2,q3⟩ | ⟨v,q1,q2⟩
 ·have q1:c=.aj:=q1
  have q2:acc=[]:=q2
  have q3:rl=[]:=q3
  subst q1
  subst q2
  subst q3
  refine aT 1 rfl (je rfl NG) ?_
  intro aD
  refine jU ((aD,[.int .i64 z])::(bx,[.af (.int .i64) ow])::(bo,C)::lr A) (Acc.nil (e:=1)) (.ae 0 aD 0 1 _ rfl (cH rfl)) rfl (by omega) (by decide) (by decide) (fun v' bu h'=>?_)
  refine ag.mk ⟨rfl,by omega,by omega⟩ ?_
  refine cX 2 rfl ((uv rfl rfl (by omega)).trans (congrArg some (kC (.via v',bu,[]++[z])))) ?_
  exact a8 (j+1,A++(.via v',bu,[]++[z])::B) (by show al.length-(j+1)<al.length-j;omega) (gZ v' bu h') ⟨rfl,rfl,rfl,rfl,aX (by omega),trivial⟩ (.drop 0 1 (aJ (by rw[J0];rfl)))
 ·have q1:c=.via v:=q1
  have q2:Acc 1 rl.length v acc (ao rl):=q2
  subst q1
  refine aT 1 rfl (je rfl NG) ?_
  intro aD
  refine jU (k:=rl.length) (n:=1) ((aD,[.int .i64 z])::(bx,[.af (.int .i64) ow])::(bo,C)::lr A) q2 (.ae 0 aD 0 1 _ rfl (cH rfl)) rfl (by omega) (by decide) (by decide) (fun v' bu h'=>?_)
  refine ag.mk ⟨rfl,by omega,by omega⟩ ?_
  refine cX 2 rfl ((uv rfl rfl (by omega)).trans (congrArg some (kC (.via v',bu,rl++[z])))) ?_
  exact a8 (j+1,A++(.via v',bu,rl++[z])::B) (by show al.length-(j+1)<al.length-j;omega) (gZ v' bu h') ⟨rfl,rfl,rfl,rfl,aX (by omega),trivial⟩ (.drop 0 1 (aJ (by rw[J0];rfl)))
theorem QA{k:Nat}{x:Int}(hx:0≤x∧x<(k:Int)):∀(p o:List Int),(∀i:Nat,i<o.length→0≤o.getD i 0∧o.getD i 0<(k:Int))→∀i:Nat,i<o.length→0≤(sg x p o).getD i 0∧(sg x p o).getD i 0<(k:Int)
 | [],_,h=>h
 |a::p,o,h=>by
  have ih:=QA hx p (o.set a.toNat x) fun i hi=>by
   rw[cM]at hi
   rw[aW,eR]
   by_cases e:a.toNat=i
   ·subst e;rw[ai rfl,ai hi];exact hx
   ·rw[ah e,← aW];exact h i hi
  rw[cM]at ih
  exact ih
theorem Qz{n k:Nat}{Q:List (List Int)}(hk:1≤k)(aP:∀p∈Q,p≠[])(ga:Q.flatten.length≤n):∀j,j≤Q.length→∀i:Nat,i<n→0≤(rh n k Q j).getD i 0∧(rh n k Q j).getD i 0<(k:Int)
 | 0,_,i,hi=>by
  show 0≤(List.replicate n (0:Int)).getD i 0∧(List.replicate n (0:Int)).getD i 0<(k:Int)
  rw[aW,vN,ai hi]
  show (0:Int)≤0∧(0:Int)<k
  omega
 |j+1,hj,i,hi=>by
  have ih:=Qz hk aP ga j (by omega)
  have ab:j<Q.length:=hj
  have tG:=mM.2 (aP _ (bX ab))
  have h1:=Px Q (j+1)
  rw[List.take_succ_eq_append_getElem ab,List.flatten_append,List.length_append,show [Q[j]].flatten=Q[j] by simp]at h1
  have ha:(Q.take j).flatten.length<n:=by omega
  have hx:k*(Q.take j).flatten.length / n<k:=by
   refine Nat.div_lt_of_lt_mul ?_
   rw[Bb n k]
   exact Nat.mul_lt_mul_of_pos_left ha (by omega)
  have hl:=zC n k Q j
  refine QA (k:=k) ⟨EG _,Int.ofNat_lt.2 hx⟩ _ _ (fun i hi=>ih i (by omega)) i (by omega)
theorem Xv{n k:Nat}{l:List bC}(hk:1≤k)(aP:∀p∈ka n l,p≠[])(ga:(ka n l).flatten.length≤n):∀i:Nat,i<n→0≤(lC n k l).getD i 0∧(lC n k l).getD i 0<(k:Int):=Qz hk aP ga _ (aU _)
def yC(n k:Nat)(l:List bC)(fr:List Int):List (List Int):=mq k (lC n k l) (oh n l fr).reverse
theorem aec(n:Nat)(l:List bC)(fr:List Int)(k:Nat)(σ:Hp)(hl:l.length≤100000)(hf:fr.length≤100000)(dQ:fe n l=true)(tI:∀x∈fr,0≤x∧x<(n:Int))(h1:1≤k)(h2:k≤64):ACalls Tryz.prog 160 [.int .i64 n,.af dv l,.af (.int .i64) fr,.int .i64 k] σ (fun r σ'=>r=.tup [.af (.slice (.int .i64)) (yC n k l fr),.int .i64 0]∧σ'=σ∧j7 n (oh n l fr)∧(∀i:Nat,i<n→0≤(lC n k l).getD i 0∧(lC n k l).getD i 0<(k:Int))∧j7 n (ka n l).flatten∧j7 n (pY n l fr)):=by
 have hn:1≤n∧n≤256:=by
  unfold fe at dQ
  simp only[bL,decide_eq_true_eq]at dQ
  omega
 refine ay Tryz.func160 ?_
 refine az [] (VF k _ h1 h2) ?_
 refine .mk [] _ (ad5 n l fr _ hl hf dQ tI) ?_
 rintro _ _ ⟨ba,rfl,rfl,hA,aP,ga,Ea⟩
 have jq:=Xv (k:=k) h1 aP (Ba ga.len)
 refine az [] (ad4 n l k _ hl dQ h1 h2) ?_
 intro bx
 refine ak 0 ?_
 have hlen:=hA.len
 unfold yC
 have ny:(lC n k l).length=n:=zC n k _ _
 generalize lC n k l=ow at jq ny
 generalize oh n l fr=L at hA hlen
 refine az [1] (ab4 ba L _ _ rfl (by omega)) ?_
 refine .cI (args':=[.af (.int .i64) L.reverse,.int .i64 k,.fn (.func 219) [] [.ptr bx 0]]) 0 ba 0 L.length 1 _ (.int .i64) L.reverse rfl (by rw[gR,eI (by rw[mQ,sE,eH];exact aU _)];exact ug _) ⟨sE,rfl,by decide⟩ (cJ .here (.refl _)) ?_
 refine .mk [] _ (aeq n k bx ow L.reverse _ h1 h2 (by rw[sE];omega) (fun x hx=>hA.rg x (xB.1 hx)) ny jq) ?_
 rintro _ _ ⟨ls,rfl,rfl,rfl⟩
 exact .drop 0 1 (.done ⟨rfl,rfl,hA,jq,ga,Ea⟩)
def nY(b:Nat)(a ws:List Int):Nat→List Int
 | 0=>ws
 |i+1=>(nY b a ws i).set (b+i) (wd a i)
theorem Jy(b:Nat)(a ws:List Int)(k:Nat):(nY b a ws k).length=ws.length:=by
 induction k with
 |zero=>rfl
 |succ k ih=>rw[nY,cM,ih]
theorem Qx{b:Nat}{a ws:List Int}:∀(k:Nat),b+k≤1000000000→Az (b:Int) a ws k=nY b a ws k
 | 0,_=>rfl
 |k+1,h=>by
  rw[Az,nY,Qx k (by omega),show wr ((b:Int)+(k:Int))=((b+k:Nat):Int) from (iz (by omega) (by omega)).trans (tQ b k).symm]
  exact lh _
def mW(N W:Nat)(st:Nat→List Int)(ws:List Int):Nat→List Int
 | 0=>ws
 |v+1=>(nY (v*W) (st v) (mW N W st ws v) W).set (N*W+v) 1
theorem zr(N W:Nat)(st:Nat→List Int)(ws:List Int)(k:Nat):(mW N W st ws k).length=ws.length:=by
 induction k with
 |zero=>rfl
 |succ k ih=>rw[mW,cM,Jy,ih]
def kg(b r:Nat)(x ws:List Int):Nat→List Int
 | 0=>ws
 |i+1=>(kg b r x ws i).set (b+2+(1+i) % r) (x.getD i 0)
theorem P1(b r:Nat)(x ws:List Int)(k:Nat):(kg b r x ws k).length=ws.length:=by
 induction k with
 |zero=>rfl
 |succ k ih=>rw[kg,cM,ih]
theorem Td(b r:Nat)(x ws:List Int)(y:Int):∀k,kg b r x (ws.set (b+1) y) k=(kg b r x ws k).set (b+1) y
 | 0=>rfl
 |k+1=>by rw[kg,kg,Td b r x ws y k,List.set_comm _ _ (by omega)]
def nH(b r:Nat)(x ws:List Int):List Int:=kg b r x ((ws.set b 1).set (b+1) ((1+x.length:Nat):Int)) x.length
theorem XQ(b r:Nat)(x ws:List Int):(nH b r x ws).length=ws.length:=by rw[nH,P1,cM,cM]
theorem aaK(b r:Nat)(x ws:List Int):(kg b r x ((ws.set b 1).set (b+1) 1) x.length).set (b+1) ((1+x.length:Nat):Int)=nH b r x ws:=by
 rw[← Td,List.set_set];rfl
def kW(b0 d r:Nat)(ls:List (List Int))(ws:List Int):Nat→List Int
 | 0=>ws
 |w+1=>nH (b0+w*d) r (ls.getD w []) (kW b0 d r ls ws w)
theorem Pm(b0 d r:Nat)(ls:List (List Int))(ws:List Int)(k:Nat):(kW b0 d r ls ws k).length=ws.length:=by
 induction k with
 |zero=>rfl
 |succ k ih=>rw[kW,XQ,ih]
def yz(N W:Nat)(st:Nat→List Int)(ls:List (List Int))(ws:List Int):List Int:=
 kW (N*W+N+1) (N+3) (N+1) ls ((mW N W st ws N).set (N*W+N) (N:Int)) ls.length
theorem Wd(N W:Nat)(st:Nat→List Int)(ls:List (List Int))(ws:List Int):(yz N W st ls ws).length=ws.length:=by rw[yz,Pm,cM,zr]
theorem z8(x:List Int)(i a:Nat)(z:Int)(hi:i<x.length):(x.set i z).getD a 0=if a=i then z else x.getD a 0:=by
 rw[aW,aW,eR]
 by_cases h:a=i
 ·subst h;rw[ai rfl,ai hi,ai rfl];rfl
 ·rw[ah (fun e=>h e.symm),ah h]
theorem qK(x:List Int)(i a:Nat)(z:Int)(h:a≠i):(x.set i z).getD a 0=x.getD a 0:=by
 rw[aW,aW,eR,ah (fun e=>h e.symm)]
theorem Rq{b:Nat}{l ws:List Int}{a:Nat}:∀k,b+k≤a→(nY b l ws k).getD a 0=ws.getD a 0
 | 0,_=>rfl
 |k+1,h=>by rw[nY,qK _ _ _ _ (by omega)];exact Rq k (by omega)
set_option maxHeartbeats 4000000
def mZ(s:Sy)(l:Lay):List (List Int):=yC (nN s) l.k.toNat s.bf s.entry
def yy(s:Sy)(l:Lay)(ws:List Int):List Int:=yz (nN s) (nW l) (fun v=>gG s v) (mZ s l) ws
theorem Z4{s:Sy}(hg:Good s):fe s.n s.bf=true:=by
 unfold fe
 have h1:=hg.n1
 have h2:=hg.n2
 have h3:=hg.el
 simp only[bL,decide_eq_true_eq,fk]
 exact⟨⟨⟨h1,h2⟩,h3⟩,fun e he=>⟨kI.2 (hg.yO e he).1,kI.2 (hg.yO e he).2⟩⟩
theorem O9(s:Sy)(l:Lay):(mZ s l).length=l.k.toNat:=xK _ _ _
theorem Xc{f:FuncId}{xs:List AV}{σ j8 σ2:Hp}{x:AV}(h:ACalls Tryz.prog f xs σ (aE x j8))(e:j8=σ2):ACalls Tryz.prog f xs σ (aE x σ2):=e▸h
theorem Y1{s:Sy}{l:Lay}(hs:LS s l){v:Nat}(hv:v<nN s)(us x:List Int):gX (Az (aS l v) x us (cw l.words)) (wr (cO l+(v:Nat))) 1=(nY (v*nW l) x us (nW l)).set (nN s*nW l+v) 1:=by
 have h1:=hs.nn
 have h2:=hs.ww
 have h3:=rV h1.2.2 h2.2
 have h4:(v+1)*nW l≤nN s*nW l:=lO _ hv
 rw[qz]at h4
 rw[hs.UZ hv,hs.Ap hv,Qx _ (by show _+nW l≤_;omega)]
 exact lh _
theorem XO{s:Sy}{l:Lay}(hs:LS s l)(us:List Int):gX us (cF l) (wu s.n)=us.set (nN s*nW l+nN s) (nN s:Int):=by
 have h1:=hs.nn
 rw[hs.count,lh,show wu s.n=(nN s:Int) by show IntKind.u64.wrap s.n=_;rw[IntKind.wrap_u64];omega]
theorem XM{a:Nat}(ha:a≤1000000)(us:List Int):gX (gX us (a:Int) 1) (fI (a:Int)) 1=(us.set a 1).set (a+1) 1:=by
 rw[lh,show fI (a:Int)=((a+1:Nat):Int) from (iz (by omega) (by omega)).trans (tQ a 1).symm,lh]
theorem XN{s:Sy}{l:Lay}(hs:LS s l){a i:Nat}(ha:a≤1000000)(hi:i≤1000000):wr (wr ((a:Int)+2)+(wr (1+(i:Int))).tmod (ef l))=((a+2+(1+i) % (nN s+1):Nat):Int):=by
 have h1:=hs.nn
 have hm:=nA (1+i) (show 0<nN s+1 by omega)
 rw[iz (z:=(a:Int)+2) (by omega) (by omega),iz (z:=1+(i:Int)) (by omega) (by omega),hs.room.1,show (1+(i:Int)).tmod ((nN s+1:Nat):Int)=(((1+i) % (nN s+1):Nat):Int) by rw[show (1+(i:Int))=((1+i:Nat):Int) by omega];rfl]
 rw[iz (by omega) (by omega)]
 omega
theorem Y0{a r:Nat}(ha:a≤1000000)(x us:List Int)(hx:x.length≤1000000):gX (kg a r x ((us.set a 1).set (a+1) 1) x.length) (wr ((a:Int)+1)) (wu (wr (1+(x.length:Int))))=nH a r x us:=by
 rw[iz (z:=(a:Int)+1) (by omega) (by omega),iz (z:=1+(x.length:Int)) (by omega) (by omega),show wu (1+(x.length:Int))=((1+x.length:Nat):Int) by show IntKind.u64.wrap _=_;rw[IntKind.wrap_u64];omega,show (a:Int)+1=((a+1:Nat):Int) by omega,lh]
 exact aaK _ _ _ _
theorem YZ{us:List Int}{b:Nat}{z:Int}(hz:0≤z)(fA:z≤1000000):gX us (b:Int) (wu z)=us.set b z:=by
 rw[lh,show wu z=z by show IntKind.u64.wrap _=_;rw[IntKind.wrap_u64];omega]
structure iN(s:Sy)(l:Lay):Prop where
 all:j7 (nN s) (oh (nN s) s.bf s.entry)
 own:∀i:Nat,i<nN s→0≤(lC (nN s) l.k.toNat s.bf).getD i 0∧(lC (nN s) l.k.toNat s.bf).getD i 0<(l.k.toNat:Int)
 flat:j7 (nN s) (ka (nN s) s.bf).flatten
 post:j7 (nN s) (pY (nN s) s.bf s.entry)
theorem iN.rows{s:Sy}{l:Lay}(h:iN s l)(hn:nN s≤256):∀x∈mZ s l,x.length≤256∧∀z∈x,0≤z∧z<(nN s:Int):=by
 intro x hx
 unfold mZ yC mq at hx
 obtain⟨u,_,rfl⟩:=dX.1 hx
 have hlen:=EP (fun y=>decide ((lC (nN s) l.k.toNat s.bf).getD y.toNat 0=(u:Int))) (oh (nN s) s.bf s.entry).reverse
 rw[sE]at hlen
 have:=h.all.len
 exact⟨by omega,fun z hz=>h.all.rg z (xB.1 (nD.1 hz).1)⟩
theorem acW(s:Sy)(l:Lay)(k:Nat)(σ:Hp)(hf:Fit s)(hg:Good s)(hk:l.k=k)(h1:1≤k)(h2:k≤64):ACalls Tryz.prog 160 [.int .i64 s.n,.af dv s.bf,.af (.int .i64) s.entry,.int .i64 k] σ (fun r σ'=>r=.tup [.af (.slice (.int .i64)) (mZ s l),.int .i64 0]∧σ'=σ∧iN s l):=by
 have hn:s.n=(nN s:Int):=by have:=hg.n1;unfold nN;omega
 have hr:=Z4 hg
 have he:=hg.ent
 have dF:k=l.k.toNat:=by omega
 subst dF
 unfold mZ
 rw[hn]at hr he ⊢
 refine (aec (nN s) s.bf s.entry l.k.toNat σ hf.DE hf.AB hr he h1 h2).mono ?_
 rintro _ _ ⟨rfl,rfl,hA,jq,ga,Ea⟩
 exact⟨rfl,rfl,hA,jq,ga,Ea⟩
theorem ade(s:Sy)(k:Nat)(p q:Nat)(ws:List Int)(σ:Hp)(hf:Fit s)(he:ck s k=0)(ei:np (gk s k)≤ws.length):ACalls Tryz.prog 97 [ku p,.agg (bc s),.int .i64 k] (aZ p q ws σ) (fun r σ'=>r=.int .i64 0∧σ'=aZ p q (yy s (gk s k) ws) σ∧iN s (gk s k)):=by
 obtain⟨hs,A9⟩:=Aj hf he
 obtain⟨xf,fA,l5⟩:=hs.size
 obtain⟨hc,l8,dF⟩:=Kv he
 have hg:=Le hc
 have hn:=hs.nn
 have hw:=hs.ww
 have fx:=hs.low
 have hN:=hs.n
 refine ay Tryz.func97 ?_
 obtain⟨l,hl⟩:∃l,gk s k=l:=⟨_,rfl⟩
 have e1:AV.tup [.agg (gM (gk s k)),.int .i64 (ck s k)]=.tup [.agg (gM l),.int .i64 (ck s k)]:=by rw[hl]
 rw[hl]at hs A9 xf fA l5 hw fx hN ei ⊢
 generalize hE:ck s k=E at e1 he
 intro b4
 refine aa 0 ?_
 refine az [] (oT (G6 s k _ hf) (hE▸e1)) ?_
 intro b7
 refine ak 0 ?_
 refine dB (fun c3=>?_) (fun c3=>?_)
 ·have c3:¬(ck s (↑k:Int)=0):=by simpa using c3
  exact absurd (hE.trans he) c3
 refine az [] (du _ _ _) ?_
 refine .sched [1,3] (upto [1,3] 5 0) (by kernel_rfl) ?_
 refine⟨_,mLen_,?_⟩
 refine aH [3,3] (VG p q ws _) ?_
 refine aa 0 ?_
 refine aH [] (Un _ _) ?_
 refine an (p:=(ws.length:Int)<gh l l.k) (fun c4=>?_) (fun c4=>?_)
 ·omega
 refine aa 1 ?_
 refine bV (S:=Nat) (fun v=>[(0,ku p),(2,.int .i64 k),(4,.ptr b4 0),(7,.ptr b7 0),(36,.int .i64 s.n),(37,.int .i64 v)]) (fun v=>(b7,gM l)::(b4,bc s)::aZ p q (mW (nN s) (nW l) (fun v=>gG s v) ws v) σ) (fun v=>v≤nN s) (fun v=>nN s-v) 0 ⟨bA _,⟨rfl,rfl,rfl,rfl,rfl,rfl,trivial⟩,rfl⟩ ?_
 intro v g rp
 have hv:v≤nN s:=rp
 clear rp
 have vv:=zr (nN s) (nW l) (fun v=>gG s v) ws v
 refine an (p:=(v:Int)<s.n) (fun ab=>?_) (fun ar=>?_)
 ·have ab:v<nN s:=by omega
  have p8:iO s v=0:=(FE hc ⟨by omega,by omega⟩).symm
  refine aa 1 ?_
  refine az [] (Zs s v _ hf) ?_
  rw[Cq p8]
  refine aa 0 ?_
  refine az [] (G7 l v _) ?_
  refine az [3,3] (agm p q _ _ _ _ _ _) ?_
  refine .sched [2] (upto [2] 10 0) (by kernel_rfl) ?_
  refine aa 2 ?_
  refine aH [] (zU l _) ?_
  refine eS.mk hStore_ ?_
  refine⟨_,mStore_,?_⟩
  refine az [] (aStore p q _ _ _ _) ?_
  exact a8 (v+1) (by show nN s-(v+1)<nN s-v;omega) ab ⟨rfl,rfl,rfl,rfl,rfl,aX (by omega),trivial⟩ (.pull [3,3] (aJ (congrArg (fun z=>_::_::aZ p q z σ) (Y1 hs ab _ _))))
 have ar:v=nN s:=by omega
 subst ar
 obtain⟨us,gv⟩:∃us,mW (nN s) (nW l) (fun v=>gG s v) ws (nN s)=us:=⟨_,rfl⟩
 rw[gv]at vv ⊢
 refine .sched [2] (upto [2] 11 0) (by kernel_rfl) ?_
 refine aa 0 ?_
 refine aH [] (zU l _) ?_
 refine aa 1 ?_
 refine eS.mk hStore_ ?_
 refine⟨_,mStore_,?_⟩
 refine az [3,3] (aStore p q _ _ _ _) ?_
 refine aa 3 ?_
 refine aa 3 ?_
 refine aa 3 ?_
 refine .mk [] _ (acW s l k _ hf hg A9 (by omega) (by omega)) ?_
 rintro _ τ ⟨rfl,M8,bH⟩
 subst τ
 have hx:=bH.rows hn.2.2
 have de:=O9 s l
 have w5:yy s l ws=kW (nN s*nW l+nN s+1) (nN s+3) (nN s+1) (mZ s l) ((mW (nN s) (nW l) (fun v=>gG s v) ws (nN s)).set (nN s*nW l+nN s) (nN s:Int)) (mZ s l).length:=rfl
 rw[gv]at w5
 generalize mZ s l=ls at hx de w5
 refine bV (S:=Nat) (fun w=>[(0,ku p),(7,.ptr b7 0),(85,.af (.slice (.int .i64)) ls),(86,.int .i64 ls.length),(87,.int .i64 w)]) (fun w=>aZ p q (kW (nN s*nW l+nN s+1) (nN s+3) (nN s+1) ls (us.set (nN s*nW l+nN s) (nN s:Int)) w) ((b7,gM l)::(b4,bc s)::σ)) (fun w=>w≤ls.length) (fun w=>ls.length-w) 0 ⟨bA _,⟨rfl,rfl,rfl,rfl,rfl,trivial⟩,congrArg (fun z=>aZ p q z _) (XO hs us)⟩ ?_
 intro w g2 hw0
 have HH:w≤ls.length:=hw0
 clear hw0
 refine an (p:=(w:Int)<(ls.length:Int)) (fun ab=>?_) (fun ar=>?_)
 rotate_left
 ·have ar:w=ls.length:=by omega
  subst ar
  rw[w5]
  exact .drop 2 2 (.done ⟨rfl,rfl,bH⟩)
 have ab:w<ls.length:=by omega
 obtain⟨x,ia⟩:∃x:List Int,ls[w]=x:=⟨_,rfl⟩
 obtain⟨Nd,hxz⟩:=hx _ (bX ab)
 rw[ia]at Nd hxz
 have hxd:ls.getD w []=x:=by rw[aW,bJ ab,ia];rfl
 have Ei:=hs.wT (k:=w) (by omega)
 have cU:kW (nN s*nW l+nN s+1) (nN s+3) (nN s+1) ls (us.set (nN s*nW l+nN s) (nN s:Int)) (w+1)=nH (nN s*nW l+nN s+1+w*(nN s+3)) (nN s+1) x (kW (nN s*nW l+nN s+1) (nN s+3) (nN s+1) ls (us.set (nN s*nW l+nN s) (nN s:Int)) w):=by rw[kW,hxd]
 have tK:nN s*nW l+nN s+1+w*(nN s+3)≤1000000:=by
  have h3:=rV hn.2.2 hw.2
  have h4:w*(nN s+3)≤64*259:=tP (by omega) (by omega)
  omega
 refine ag.mk rfl (bG.mk x (by omega) ((get_some ab).trans (congrArg some ia)) ?_)
 refine aa 2 ?_
 refine az [] (oT (yc l w _) (congrArg (fun z=>AV.agg [.int .i64 z,.int .i64 (ef l)]) Ei)) ?_
 generalize nN s*nW l+nN s+1+w*(nN s+3)=a at Ei cU tK
 generalize kW (nN s*nW l+nN s+1) (nN s+3) (nN s+1) ls (us.set (nN s*nW l+nN s) (nN s:Int)) w=vs at cU
 intro b16
 refine ak 0 ?_
 refine aa 0 ?_
 refine az [2,2] (Xc (ad0 p q vs a (ef l) _) (congrArg (fun z=>aZ p q z _) (XM tK vs))) ?_
 refine bV (S:=Nat) (fun i=>[(0,ku p),(7,.ptr b7 0),(15,.af (.int .i64) x),(16,.ptr b16 0),(85,.af (.slice (.int .i64)) ls),(86,.int .i64 ls.length),(87,.int .i64 w),(98,.af (.int .i64) x),(99,.int .i64 x.length),(100,.int .i64 i)]) (fun i=>aZ p q (kg a (nN s+1) x ((vs.set a 1).set (a+1) 1) i) ((b16,[.int .i64 a,.int .i64 (ef l)])::(b7,gM l)::(b4,bc s)::σ)) (fun i=>i≤x.length) (fun i=>x.length-i) 0 ⟨bA _,⟨rfl,rfl,rfl,rfl,rfl,rfl,rfl,rfl,rfl,rfl,trivial⟩,rfl⟩ ?_
 intro i g3 fC
 have hi:i≤x.length:=fC
 clear fC
 refine an (p:=(i:Int)<(x.length:Int)) (fun dN=>?_) (fun lF=>?_)
 ·have dN:i<x.length:=by omega
  obtain⟨z,hz⟩:∃z,x[i]=z:=⟨_,rfl⟩
  have hY:=hxz z (hz▸bX dN)
  have hzd:x.getD i 0=z:=by rw[aW,bJ dN,hz];rfl
  have Vu:kg a (nN s+1) x ((vs.set a 1).set (a+1) 1) (i+1)=(kg a (nN s+1) x ((vs.set a 1).set (a+1) 1) i).set (a+2+(1+i) % (nN s+1)) z:=by rw[kg,hzd]
  have oE:=XN hs (i:=i) tK (by omega)
  generalize kg a (nN s+1) x ((vs.set a 1).set (a+1) 1) i=ys at Vu
  have aq:gX ys (wr (wr ((a:Int)+2)+(wr (1+(i:Int))).tmod (ef l))) (wu z)=kg a (nN s+1) x ((vs.set a 1).set (a+1) 1) (i+1):=by
   rw[oE,YZ (by omega) (by omega),Vu]
  refine ag.mk rfl (bG.mk z (by omega) ((get_some dN).trans (congrArg some hz)) ?_)
  refine .sched [7] (upto [7] 16 0) (by kernel_rfl) ?_
  refine aa 2 ?_
  refine aa 3 ?_
  refine aH [] (LM l _) ?_
  refine ag.mk (by rw[hs.room.1];omega) ?_
  refine eS.mk hStore_ ?_
  refine⟨_,mStore_,?_⟩
  refine az [] (aStore p q _ _ _ _) ?_
  exact a8 (i+1) (by show x.length-(i+1)<x.length-i;omega) dN ⟨rfl,rfl,rfl,rfl,rfl,rfl,rfl,rfl,rfl,aX (by omega),trivial⟩ (aJ (congrArg (fun z=>aZ p q z _) aq))
 have lF:i=x.length:=by omega
 subst lF
 refine aa 2 ?_
 refine⟨_,mStore_,?_⟩
 refine az [] (aStore p q _ _ _ _) ?_
 exact a8 (w+1) (by show ls.length-(w+1)<ls.length-w;omega) ab ⟨rfl,rfl,rfl,rfl,aX (by omega),trivial⟩ (.drop 2 1 (aJ (congrArg (fun z=>aZ p q z _) ((Y0 tK x vs (by omega)).trans cU.symm))))
end Go.Proofs.YtnikdflhefijbaaGreat
