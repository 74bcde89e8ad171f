import Derived.Test.YtnikdflhefijbaaGreatBq18
import Derived.Test.YtnikdflhefijbaaGreatBq16
import Derived.Test.YtnikdflhefijbaaGreatBq12
import Derived.Test.YtnikdflhefijbaaGreatBq10
import Derived.Test.YtnikdflhefijbaaGreatBq14
import Derived.Test.YtnikdflhefijbaaGreatBq11
import Derived.Test.YtnikdflhefijbaaGreatBq7
import Derived.Test.YtnikdflhefijbaaGreatBq8
import Derived.Test.YtnikdflhefijbaaGreatBq13
import Derived.Test.YtnikdflhefijbaaGreatBq1
namespace Go.Proofs.YtnikdflhefijbaaGreat
open Go.RowKit
set_option maxRecDepth 100000
set_option maxHeartbeats 4000000
def tz(x:Int)(p:List Int)(o:List Int):List Int:=p.foldl (fun o a=>o.set a.toNat x) o
theorem LF(x:Int):∀(p o:List Int),(tz x p o).length=o.length
 | [],_=>rfl
 |a::p,o=>by
  show (tz x p (o.set a.toNat x)).length=_;rw[LF x p,cz]
theorem ad0(x:Int)(p o:List Int)(a:Int):tz x (p++[a]) o=(tz x p o).set a.toNat x:=by unfold tz;rw[sK];rfl
def sq(n k:Nat)(Q:List (List Int)):Nat→List Int
 | 0=>List.replicate n 0
 |j+1=>tz (((k*((Q.take j).flatten.length) / n:Nat)):Int) (Q.getD j []) (sq n k Q j)
theorem A8(n k:Nat)(Q:List (List Int)):∀j,(sq n k Q j).length=n
 | 0=>fQ
 |j+1=>by unfold sq;rw[LF];exact A8 n k Q j
def n5(n k:Nat)(l:List bE):List Int:=sq n k (kG n l) (kG n l).length
theorem Yd(k:Nat)(σ:Hp)(h1:1≤k)(h2:k≤64):ACalls Tryz.prog 214 [.int .i64 k] σ (aC (.bool true) σ):=by
 refine ay Tryz.func214 ?_;refine ao (fun _=>?_) (fun c=>absurd (show (1:Int)≤k by omega) c);refine ao (fun _=>?_) (fun c=>absurd (show (k:Int)≤64 by omega) c);exact .done ⟨rfl,rfl⟩
theorem Rz(Q:List (List Int))(j:Nat):(Q.take j).flatten.length≤Q.flatten.length:=by
 have e:Q.flatten=(Q.take j).flatten++(Q.drop j).flatten:=by rw[← gn7,y7]
 rw[e,bQ];omega
structure ak2(n:Nat)(Q:List (List Int)):Prop where
 node:∀p∈Q,∀x∈p,0≤x∧x<(n:Int)
 flat:Q.flatten.length≤600
 len:Q.length≤600
theorem afb{k a n:Nat}(hk:k≤64)(ha:a≤600)(_hn:1≤n):IntKind.i64.wrap ((IntKind.i64.wrap ((k:Int)*(a:Nat))).tdiv (n:Int))=((k*a / n:Nat):Int):=by
 have h1:(k:Int)*(a:Nat)=((k*a:Nat):Int):=by simp
 have h2:k*a≤64*600:=jN hk ha;have h3:k*a / n≤k*a:=Nat.div_le_self _ _;have h4:IntKind.i64.wrap ((k*a:Nat):Int)=((k*a:Nat):Int):=by rw[IntKind.wrap_i64];omega
 have h5:(((k*a:Nat):Int)).tdiv (n:Int)=((k*a / n:Nat):Int):=rfl;rw[h1,h4,h5];clear h4 h5;generalize k*a / n=q at h3;generalize k*a=m at h2 h3;rw[IntKind.wrap_i64];omega
theorem agS{n:Nat}{l:List bE}{P:List (List Int)}(h:px n l P)(hr:∀e∈l,(0≤e.1∧e.1<(n:Int))∧0≤e.2.1∧e.2.1<(n:Int))(hn:n≤256):ak2 n (kG n l):=by
 have hO:=(Ik h hr P.length (aQ _)).1;rw[Nt h hr]at hO
 have hm:∀p∈kG n l,p∈P:=fun p hp=>by
  obtain⟨i,_,hi⟩:=(hO.mem p).1 hp;exact bU hi
 have gD:=HA n _ hO.nd fun x hx=>by
  obtain⟨p,hp,su⟩:=pL.1 hx;exact h.ok.node p (hm p hp) x su
 have CF:=RP (Q:=kG n l) fun p hp=>mX.2 (h.ok.ne p (hm p hp));exact⟨fun p hp=>h.ok.node p (hm p hp),by omega,by omega⟩
theorem agi(n:Nat)(l:List bE)(k:Nat)(σ:Hp)(hl:l.length≤100000)(ey:fL n l=true)(h1:1≤k)(h2:k≤64):ACalls Tryz.prog 216 [.int .i64 n,.ah dO l,.int .i64 k] σ (aC (.tup [.ah (.int .i64) (n5 n k l),.int .i64 0]) σ):=by
 have hn:1≤n∧n≤256:=by
  unfold fL at ey;simp only[bS,decide_eq_true_eq]at ey;omega
 have CL:∀e∈l,(0≤e.1∧e.1<(n:Int))∧0≤e.2.1∧e.2.1<(n:Int):=fun e he=>by
  unfold fL at ey;simp only[bS,fG]at ey;have:=ey.2 e he;exact⟨lB.1 this.1,lB.1 this.2⟩
 refine ay Tryz.func216 ?_;refine ax [] (Yd k _ h1 h2) ?_;refine .mk [] _ (aga n l _ hl ey) ?_;rintro _ τ ⟨rfl,Pd,P,hP⟩;subst τ;have hQ:=agS hP CL hn.2;unfold n5;generalize kG n l=Q at hQ;have hQl:=hQ.len;have hnT:((n:Nat):Int).toNat=n:=bG n;refine bf ?_;intro bo;refine ca (S:=Nat) (fun x=>[(0,.int .i64 n),(2,.int .i64 k),(10,.ae bo 0 n 1),(11,.int .i64 ((Q.take x).flatten.length:Nat)),(30,.ah (.slice (.int .i64)) Q),(31,.int .i64 Q.length),(32,.int .i64 x)]) (fun x=>(bo,ai (sq n k Q x))::σ) (fun x=>x≤Q.length) (fun x=>Q.length-x) 0 ⟨bC _,⟨rfl,rfl,rfl,rfl,rfl,rfl,rfl,trivial⟩,by rw[show ai (sq n k Q 0)=cI [.int .i64 0] n from (zt n).symm];rfl⟩ ?_;intro j g hj;have hj:j≤Q.length:=hj;have Km:(Q.take j).flatten.length≤600:=ff (Rz Q j) hQ.flat;refine ao (p:=(j:Int)<Q.length) (fun ab=>?_) (fun au=>?_)
 ·have ab:j<Q.length:=by omega
  obtain⟨p,hp⟩:∃p,Q[j]?=some p:=⟨Q[j]'ab,bB ab⟩
  have Ko:=hQ.node p (bU hp);have tG:p.length≤600:=ff (List.Sublist.length_le (List.sublist_flatten_of_mem (bU hp))) hQ.flat;have hx:IntKind.i64.wrap ((IntKind.i64.wrap ((k:Int)*((Q.take j).flatten.length:Nat))).tdiv (n:Int))=((k*(Q.take j).flatten.length / n:Nat):Int):=afb (by omega) (by omega) (by omega)
  have hu:sq n k Q (j+1)=tz ((k*(Q.take j).flatten.length / n:Nat):Int) p (sq n k Q j):=by
   show tz _ (Q.getD j []) _=_;rw[aZ,hp];rfl
  have oE:=A8 n k Q j
  have fZ:(Q.take (j+1)).flatten.length=(Q.take j).flatten.length+p.length:=by
   rw[List.take_succ_eq_append_getElem ab,List.flatten_append,List.length_append,show Q[j]=p from Option.some.inj ((List.getElem?_eq_getElem ab).symm.trans hp)];simp
  generalize sq n k Q j=o at hu oE;generalize hX:((k*(Q.take j).flatten.length / n:Nat):Int)=X at hx hu;refine aJ.mk rfl (bO.mk p (by omega) (by rw[bG];exact hp) ?_);refine ca (S:=Nat) (fun y=>[(0,.int .i64 n),(2,.int .i64 k),(10,.ae bo 0 n 1),(11,.int .i64 ((Q.take j).flatten.length:Nat)),(13,.ah (.int .i64) p),(30,.ah (.slice (.int .i64)) Q),(31,.int .i64 Q.length),(32,.int .i64 j),(36,.ah (.int .i64) p),(37,.int .i64 p.length),(38,.int .i64 y)]) (fun y=>(bo,ai (tz X (p.take y) o))::σ) (fun y=>y≤p.length) (fun y=>p.length-y) 0 ⟨bC _,⟨rfl,rfl,rfl,rfl,rfl,rfl,rfl,rfl,rfl,rfl,rfl,trivial⟩,rfl⟩ ?_;intro y g2 hy;have hy:y≤p.length:=hy;refine ao (p:=(y:Int)<p.length) (fun gx=>?_) (fun hg2=>?_)
  ·have gx:y<p.length:=by omega
   have hz:=Ko _ (cq gx);have F7:=LF X (p.take y) o;refine aJ.mk rfl (bO.mk p[y] (by omega) (get_some gx) ?_);refine dZ ?_;refine aO ?_;refine cU 0 rfl (nU rfl _ hz.1 (by omega)) ?_;exact a8 (y+1) (by show p.length-(y+1)<p.length-y;omega) gx ⟨rfl,rfl,rfl,rfl,rfl,rfl,rfl,rfl,rfl,rfl,aX (by omega),trivial⟩ (aL (by rw[hx,ft gx,ad0];rfl))
  ·have hg2:p.length=y:=by omega
   subst hg2;rw[ga];exact a8 (j+1) (by show Q.length-(j+1)<Q.length-j;omega) ab ⟨rfl,rfl,rfl,(by show AV.int .i64 (IntKind.i64.wrap ((((Q.take j).flatten.length:Nat):Int)+((p.length:Nat):Int)))=.int .i64 (((Q.take (j+1)).flatten.length:Nat):Int);rw[fZ,IntKind.wrap_i64];exact aT (by omega)),rfl,rfl,aX (by omega),trivial⟩ (aL (by rw[hu]))
 ·have au:Q.length=j:=by omega
  subst au;refine .cN 0 bo 0 n 1 _ (.int .i64) (sq n k Q Q.length) rfl (by rw[gR,eR (by rw[ju,A8,dS];exact aQ _)];exact vW _) ⟨A8 n k Q _,rfl,by decide⟩ (eF .here (.refl _)) (.done ⟨rfl,rfl⟩)
set_option maxHeartbeats 4000000
def nZ(L:List Int):Nat→List Int
 | 0=>L
 |i+1=>((nZ L i).set i ((nZ L i).getD (L.length-1-i) 0)).set (L.length-1-i) ((nZ L i).getD i 0)
theorem G6(L:List Int):∀i,(nZ L i).length=L.length
 | 0=>rfl
 |i+1=>by unfold nZ;rw[cz,cz];exact G6 L i
theorem S7(l:List Int)(a:Nat)(v:Int)(t:Nat)(ha:a<l.length):(l.set a v).getD t 0=if a=t then v else l.getD t 0:=by
 rw[aZ,eA]
 by_cases h:a=t
 ·subst h;rw[af rfl,af ha,af rfl];rfl
 ·rw[ag h,ag h,aZ]
theorem Vi(L:List Int):∀i,2*i≤L.length+1→∀t,t<L.length→(nZ L i).getD t 0=if t<i∨L.length-i≤t then L.getD (L.length-1-t) 0 else L.getD t 0
 | 0,_,t,ht=>by
  rw[ag (by omega)];rfl
 |i+1,hi,t,ht=>by
  have hl:=G6 L i;have ih:=Vi L i (by omega);have h0:0<L.length:=by omega
  have e1:L.length-1-i<((nZ L i).set i ((nZ L i).getD (L.length-1-i) 0)).length:=by rw[cz,hl];omega
  unfold nZ;rw[S7 _ _ _ _ e1]
  by_cases hm:i<L.length
  ·rw[S7 _ _ _ _ (by rw[hl];exact hm),ih i hm,ih (L.length-1-i) (by omega),ih t ht]
   repeat' split
   all_goals first | rfl | (exfalso;omega) | (congr 1;omega)
  ·omega
theorem acP{L:List Int}{i:Nat}(h1:2*i≤L.length+1)(h2:L.length≤2*i+1):nZ L i=L.reverse:=by
 have hl:=G6 L i;refine C8 (by rw[hl,tQ]) fun t h3 h4=>?_;have ht:t<L.length:=by omega
 have:=Vi L i h1 t ht;rw[aZ,bB h3,aZ,bB (show L.length-1-t<L.length by omega),aZ,bB ht]at this;rw[List.getElem_reverse];have this:(nZ L i)[t]=if t<i∨L.length-i≤t then L[L.length-1-t] else L[t]:=this
 rw[this];split
 ·rfl
 ·have e:t=L.length-1-t:=by omega
  congr 1
theorem aeg(b:Nat)(L:List Int)(q:Nat)(σ:Hp)(hq:L.length=q)(hl:q≤1000000):ACalls Tryz.prog 217 [.ae b 0 q 1] ((b,ai L)::σ) (aC (.tup []) ((b,ai L.reverse)::σ)):=by
 refine ay Tryz.func217 ?_;refine ca (S:=Nat) (fun i=>[(0,.ae b 0 q 1),(2,.int .i64 i),(3,.int .i64 ((q:Int)-1-i))]) (fun i=>(b,ai (nZ L i))::σ) (fun i=>2*i≤q+1) (fun i=>q+1-i) 0 ⟨by omega,⟨rfl,rfl,aT (by rw[IntKind.wrap_i64];omega),trivial⟩,rfl⟩ ?_;intro i g hi;have hi:2*i≤q+1:=hi;have gi:=G6 L i;refine ao (p:=(i:Int)<(q:Int)-1-i) (fun ab=>?_) (fun au=>?_)
 ·have hj:((q:Int)-1-(i:Int)).toNat=L.length-1-i:=by omega
  refine .sched [] (upto [] 16 0) (by kernel_rfl) ?_;refine aO ?_;refine aW 0 rfl (fy rfl (by omega) (by omega)) ?_;refine aO ?_;refine aW 0 rfl (fy rfl (by omega) (by omega)) ?_;refine aO ?_;refine cU 0 rfl (nU rfl _ (by omega) (by omega)) ?_;refine aO ?_;refine cU 0 rfl (nU rfl _ (by omega) (by rw[cz];omega)) ?_;refine a8 (i+1) (by show q+1-(i+1)<q+1-i;omega) (by show 2*(i+1)≤q+1;omega) ⟨rfl,aT (by rw[IntKind.wrap_i64];omega),aT (by rw[IntKind.wrap_i64];omega),trivial⟩ (aL ?_);show (b,ai (((nZ L i).set ((i:Nat):Int).toNat ((nZ L i).getD ((q:Int)-1-(i:Int)).toNat 0)).set ((q:Int)-1-(i:Int)).toNat ((nZ L i).getD ((i:Nat):Int).toNat 0)))::σ=(b,ai (nZ L (i+1)))::σ;rw[hj,bG];rfl
 ·rw[acP (by omega) (by omega)];exact .done ⟨rfl,rfl⟩
set_option maxHeartbeats 4000000
def nR(k:Nat)(ow al:List Int):List (List Int):=(List.range k).map fun u:Nat=>al.filter fun x=>decide (ow.getD x.toNat 0=(u:Int))
theorem ze(k:Nat)(ow al:List Int):(nR k ow al).length=k:=by unfold nR;rw[bX,oL]
theorem Dy{k:Nat}{ow al:List Int}{u:Nat}(h:u<k):(nR k ow al)[u]?=some (al.filter fun x=>decide (ow.getD x.toNat 0=(u:Int))):=by
 unfold nR;rw[fk,vH h];rfl
theorem YZ{k:Nat}{ow al:List Int}{z:Int}{w:Nat}{rl:List Int}(hz:ow.getD z.toNat 0=(w:Int))(hr:(nR k ow al)[w]?=some rl):nR k ow (al++[z])=(nR k ow al).set w (rl++[z]):=by
 have hw:w<k:=by
  have:=(bZ.1 hr).1;rw[ze]at this;exact this
 refine AK fun i=>?_;rw[eA,ze]
 rcases xp i k with hi | hi
 ·rw[Dy hi,Dy hi,AN]
  by_cases e:w=i
  ·subst e;rw[af rfl,af hw];rw[Dy hw]at hr;rw[← Option.some.inj hr,List.filter_cons,if_pos (by rw[hz];simp),List.filter_nil]
  ·rw[if_neg e,List.filter_cons,if_neg (by rw[hz];simp;omega),List.filter_nil,List.append_nil]
 ·rw[vJ (by rw[ze];exact hi),ag (by omega),vJ (by rw[ze];exact hi)]
theorem aaL(A:List kf)(r r2:kf)(B:List kf):lH (A++r2::B)=(lH (A++r::B)).set A.length r2.2.2:=by
 unfold lH;rw[cF,cF,Le _ _ (by rw[bX];exact aQ _),bX,qB];rfl
theorem acK(A:List kf)(r:kf)(B:List kf):(lH (A++r::B))[A.length]?=some r.2.2:=by
 unfold lH;rw[cF,jq (by rw[bX];exact aQ _),bX,qB];rfl
theorem WQ(bx:Nat)(ow:List Int)(x w:Int)(σ:Hp)(hx:0≤x)(hw:ow[x.toNat]?=some w):ACalls Tryz.prog 219 [.int .i64 x,.ptr bx 0] ((bx,[.ah (.int .i64) ow])::σ) (aC (.int .i64 w) ((bx,[.ah (.int .i64) ow])::σ)):=by
 refine ay Tryz.func219 ?_;refine aa 0 ?_;refine aJ.mk rfl (bO.mk w hx hw ?_);exact .done ⟨rfl,rfl⟩
theorem ahN(n k bx:Nat)(ow al:List Int)(σ:Hp)(mr:1≤k)(eD:k≤64)(PL:al.length≤100000)(hr:∀x∈al,0≤x∧x<(n:Int))(oE:ow.length=n)(jY:∀i:Nat,i<n→0≤ow.getD i 0∧ow.getD i 0<(k:Int)):ACalls Tryz.prog 218 [.ah (.int .i64) al,.int .i64 k,.fn (.func 219) [] [.ptr bx 0]] ((bx,[.ah (.int .i64) ow])::σ) (fun r σ'=>∃ls:List (List Int),r=.ah (.slice (.int .i64)) ls∧σ'=(bx,[.ah (.int .i64) ow])::σ∧ls=nR k ow al):=by
 refine ZB ?_;refine ay Tryz.func218 ?_;refine bf ?_;intro bo;refine .eb (.pull [1] (.refl _)) ?_;refine ca (S:=Nat×List kf) (fun s=>[(2,.fn (.func 219) [] [.ptr bx 0]),(7,.ae bo 0 k 1),(12,.ah (.int .i64) al),(13,.int .i64 al.length),(14,.int .i64 s.1)]) (fun s=>(bx,[.ah (.int .i64) ow])::(bo,kq s.2)::(l6 s.2++σ)) (fun s=>s.1≤al.length∧(∀r∈s.2,zR r)∧lH s.2=nR k ow (al.take s.1)) (fun s=>al.length-s.1) (0,List.replicate k (.an,[],[])) ⟨⟨bC _,fun r hr=>.inl (by rw[y8 hr];exact⟨rfl,rfl,rfl⟩),?_⟩,⟨rfl,rfl,rfl,rfl,rfl,trivial⟩,?_⟩ ?_
 ·refine AK fun i=>?_;show (lH (List.replicate k (.an,[],[])))[i]?=_;unfold lH;rw[fk,vK]
  rcases xp i k with hi | hi
  ·rw[af hi,Dy hi];rfl
  ·rw[ag (by omega),vJ (by rw[ze];exact hi)];rfl
 ·show _=(bx,[AV.ah (.int .i64) ow])::(bo,kq (List.replicate k (.an,[],[])))::(l6 (List.replicate k (.an,[],[]))++σ);rw[← acQ,aaO];rfl
 rintro⟨j,rs⟩ g ⟨qy,Ga,Gt⟩;have hj:j≤al.length:=qy;have ho:∀r∈rs,zR r:=Ga;have hL:lH rs=nR k ow (al.take j):=Gt;clear qy Ga Gt
 have xh:rs.length=k:=by
  have:=congrArg List.length hL;rw[ze]at this;exact (bX _).symm.trans this
 refine ao (p:=(j:Int)<al.length) (fun ab=>?_) (fun au=>?_);rotate_left
 ·have au:¬(j:Int)<al.length:=au;rw[eR (by omega)]at hL;subst xh;exact .perm ((List.Perm.cons _ oK).trans (List.Perm.swap _ _ _)) (.done ⟨bo,rs,rfl,rfl,ho,hL⟩)
 have ab:j<al.length:=by omega
 obtain⟨z,hz⟩:∃z,al[j]=z:=⟨_,rfl⟩
 have iu:=hr z (hz▸cq ab);have hzi:al[((j:Nat):Int).toNat]?=some z:=by rw[bG,bB ab,hz]
 have fZ:al.take (j+1)=al.take j++[z]:=by rw[ft ab,hz]
 obtain⟨w,hw⟩:∃w:Nat,ow.getD z.toNat 0=(w:Int):=⟨(ow.getD z.toNat 0).toNat,by have:=jY z.toNat (by omega);omega⟩
 have sx:w<k:=by have:=jY z.toNat (by omega);omega
 have hzw:ow[z.toNat]?=some (w:Int):=by rw[← hw,aZ,bB (by omega)];rfl
 obtain⟨A,r,B,rfl,hA⟩:∃A r B,rs=A++r::B∧w=A.length:=⟨rs.take w,rs[w]'(by omega),rs.drop (w+1),by simp,by rw[List.length_take];omega⟩
 obtain⟨c,acc,rl⟩:=r;have hAw:((w:Nat):Int)=A.length:=by rw[hA]
 rw[LX];have PG:=acL A (c,acc,rl) B hAw;have jL:=fun r2=>aaM A (c,acc,rl) r2 B hAw;have Oz:(nR k ow (al.take j))[w]?=some rl:=by rw[← hL,hA];exact acK A (c,acc,rl) B
 have iK:=YZ hw Oz;rw[← fZ]at iK;generalize hC:kq (A++(c,acc,rl)::B)=C at PG jL;have nz:zR (c,acc,rl):=ho _ (jP _ (b9 ..));have hCl:C.length=k:=by rw[← hC,aaN];exact xh
 have hrb:rl.length≤100000:=by
  rw[Dy sx]at Oz;rw[← Option.some.inj Oz];exact ff (Da _ _) (by rw[tO];omega)
 have iG:∀v' aY,Acc 1 (rl.length+1) v' aY (ai rl++[.int .i64 z])→j+1≤al.length∧(∀r∈A++(.via v',aY,rl++[z])::B,zR r)∧lH (A++(.via v',aY,rl++[z])::B)=nR k ow (al.take (j+1)):=fun v' aY h'=>by
  have gx:(rl++[z]:List Int).length=rl.length+1:=bQ;refine⟨ab,fun r hr=>?_,?_⟩
  ·rcases bY.1 hr with hr | hr
   ·exact ho r (ia _ hr)
   ·rcases dm.1 hr with rfl | hr
    ·refine .inr ⟨v',rfl,?_⟩;show Acc 1 (rl++[z]:List Int).length v' aY (ai (rl++[z]));rw[gx,show ai (rl++[z])=ai rl++[.int .i64 z] from cF];exact h'
    ·exact ho r (jP _ (cQ _ hr))
  ·rw[iK,← hL,hA];exact aaL A (c,acc,rl) (.via v',aY,rl++[z]) B
 refine aJ.mk rfl (bO.mk z (by omega) hzi ?_);refine ax [] (WQ bx ow z w _ iu.1 hzw) ?_;refine ax [] (WQ bx ow z w _ iu.1 hzw) ?_;refine aO ?_
 rcases nz with ⟨q1,q2,q3⟩ | ⟨v,q1,q2⟩
 ·have q1:c=.an:=q1;have q2:acc=[]:=q2;have q3:rl=[]:=q3;subst q1;subst q2;subst q3;refine aW 1 rfl (jz rfl PG) ?_;intro aF;refine iC ((aF,[.int .i64 z])::(bx,[.ah (.int .i64) ow])::(bo,C)::l6 A) (Acc.nil (e:=1)) (.ae 0 aF 0 1 _ rfl (cy rfl)) rfl (by omega) (by decide) (by decide) (fun v' aY h'=>?_);refine aO ?_;refine cU 2 rfl ((ug rfl rfl (by omega)).trans (congrArg some (jL (.via v',aY,[]++[z])))) ?_;exact a8 (j+1,A++(.via v',aY,[]++[z])::B) (by show al.length-(j+1)<al.length-j;omega) (iG v' aY h') ⟨rfl,rfl,rfl,rfl,aX (by omega),trivial⟩ (.drop 0 1 (aL (by rw[LX];rfl)))
 ·have q1:c=.via v:=q1;have q2:Acc 1 rl.length v acc (ai rl):=q2;subst q1;refine aW 1 rfl (jz rfl PG) ?_;intro aF;refine iC (k:=rl.length) (n:=1) ((aF,[.int .i64 z])::(bx,[.ah (.int .i64) ow])::(bo,C)::l6 A) q2 (.ae 0 aF 0 1 _ rfl (cy rfl)) rfl (by omega) (by decide) (by decide) (fun v' aY h'=>?_);refine aO ?_;refine cU 2 rfl ((ug rfl rfl (by omega)).trans (congrArg some (jL (.via v',aY,rl++[z])))) ?_;exact a8 (j+1,A++(.via v',aY,rl++[z])::B) (by show al.length-(j+1)<al.length-j;omega) (iG v' aY h') ⟨rfl,rfl,rfl,rfl,aX (by omega),trivial⟩ (.drop 0 1 (aL (by rw[LX];rfl)))
theorem SM{k:Nat}{x:Int}(hx:0≤x∧x<(k:Int)):∀(p o:List Int),(∀i:Nat,i<o.length→0≤o.getD i 0∧o.getD i 0<(k:Int))→∀i:Nat,i<o.length→0≤(tz x p o).getD i 0∧(tz x p o).getD i 0<(k:Int)
 | [],_,h=>h
 |a::p,o,h=>by
  have ih:=SM hx p (o.set a.toNat x) fun i hi=>by
   rw[cz]at hi;rw[aZ,eA]
   by_cases e:a.toNat=i
   ·subst e;rw[af rfl,af hi];exact hx
   ·rw[ag e,← aZ];exact h i hi
  rw[cz]at ih;exact ih
theorem SL{n k:Nat}{Q:List (List Int)}(hk:1≤k)(aS:∀p∈Q,p≠[])(gD:Q.flatten.length≤n):∀j,j≤Q.length→∀i:Nat,i<n→0≤(sq n k Q j).getD i 0∧(sq n k Q j).getD i 0<(k:Int)
 | 0,_,i,hi=>by
  show 0≤(List.replicate n (0:Int)).getD i 0∧(List.replicate n (0:Int)).getD i 0<(k:Int);rw[aZ,vK,af hi];show (0:Int)≤0∧(0:Int)<k;omega
 |j+1,hj,i,hi=>by
  have ih:=SL hk aS gD j (by omega);have ab:j<Q.length:=hj;have ve:=mX.2 (aS _ (cq ab));have h1:=Rz Q (j+1);rw[List.take_succ_eq_append_getElem ab,List.flatten_append,List.length_append,show [Q[j]].flatten=Q[j] by simp]at h1;have ha:(Q.take j).flatten.length<n:=by omega
  have hx:k*(Q.take j).flatten.length / n<k:=by
   refine Nat.div_lt_of_lt_mul ?_;rw[vB n k];exact Nat.mul_lt_mul_of_pos_left ha (by omega)
  have hl:=A8 n k Q j;refine SM (k:=k) ⟨GJ _,Int.ofNat_lt.2 hx⟩ _ _ (fun i hi=>ih i (by omega)) i (by omega)
theorem ZV{n k:Nat}{l:List bE}(hk:1≤k)(aS:∀p∈kG n l,p≠[])(gD:(kG n l).flatten.length≤n):∀i:Nat,i<n→0≤(n5 n k l).getD i 0∧(n5 n k l).getD i 0<(k:Int):=SL hk aS gD _ (aQ _)
def B9(n k:Nat)(l:List bE)(fr:List Int):List (List Int):=nR k (n5 n k l) (og n l fr).reverse
theorem ahz(n:Nat)(l:List bE)(fr:List Int)(k:Nat)(σ:Hp)(hl:l.length≤100000)(hf:fr.length≤100000)(ey:fL n l=true)(vh:∀x∈fr,0≤x∧x<(n:Int))(h1:1≤k)(h2:k≤64):ACalls Tryz.prog 160 [.int .i64 n,.ah dO l,.ah (.int .i64) fr,.int .i64 k] σ (fun r σ'=>r=.tup [.ah (.slice (.int .i64)) (B9 n k l fr),.int .i64 0]∧σ'=σ∧kD n (og n l fr)∧(∀i:Nat,i<n→0≤(n5 n k l).getD i 0∧(n5 n k l).getD i 0<(k:Int))∧kD n (kG n l).flatten∧kD n (qW n l fr)):=by
 have hn:1≤n∧n≤256:=by
  unfold fL at ey;simp only[bS,decide_eq_true_eq]at ey;omega
 refine ay Tryz.func160 ?_;refine ax [] (Yd k _ h1 h2) ?_;refine .mk [] _ (agj n l fr _ hl hf ey vh) ?_;rintro _ _ ⟨ba,rfl,rfl,hA,aS,gD,F7⟩;have jY:=ZV (k:=k) h1 aS (y5 gD.len);refine ax [] (agi n l k _ hl ey h1 h2) ?_;intro bx;refine aj 0 ?_;have hlen:=hA.len;unfold B9;have oE:(n5 n k l).length=n:=A8 n k _ _;generalize n5 n k l=ow at jY oE;generalize og n l fr=L at hA hlen;refine ax [1] (aeg ba L _ _ rfl (by omega)) ?_;refine .cN (args':=[.ah (.int .i64) L.reverse,.int .i64 k,.fn (.func 219) [] [.ptr bx 0]]) 0 ba 0 L.length 1 _ (.int .i64) L.reverse rfl (by rw[gR,eR (by rw[ju,tQ,dS];exact aQ _)];exact vW _) ⟨tQ,rfl,by decide⟩ (eF .here (.refl _)) ?_;refine .mk [] _ (ahN n k bx ow L.reverse _ h1 h2 (by rw[tQ];omega) (fun x hx=>hA.rg x (xr.1 hx)) oE jY) ?_;rintro _ _ ⟨ls,rfl,rfl,rfl⟩;exact .drop 0 1 (.done ⟨rfl,rfl,hA,jY,gD,F7⟩)
def o9(b:Nat)(a ws:List Int):Nat→List Int
 | 0=>ws
 |i+1=>(o9 b a ws i).set (b+i) (wd a i)
theorem Lu(b:Nat)(a ws:List Int)(k:Nat):(o9 b a ws k).length=ws.length:=by
 induction k with
 |zero=>rfl
 |succ k ih=>rw[o9,cz,ih]
theorem SJ{b:Nat}{a ws:List Int}:∀(k:Nat),b+k≤1000000000→Ca (b:Int) a ws k=o9 b a ws k
 | 0,_=>rfl
 |k+1,h=>by
  rw[Ca,o9,SJ k (by omega),show wr ((b:Int)+(k:Int))=((b+k:Nat):Int) from (iZ (by omega) (by omega)).trans (qC b k).symm];exact lX _
def nV(N W:Nat)(st:Nat→List Int)(ws:List Int):Nat→List Int
 | 0=>ws
 |v+1=>(o9 (v*W) (st v) (nV N W st ws v) W).set (N*W+v) 1
theorem A0(N W:Nat)(st:Nat→List Int)(ws:List Int)(k:Nat):(nV N W st ws k).length=ws.length:=by
 induction k with
 |zero=>rfl
 |succ k ih=>rw[nV,cz,Lu,ih]
def kM(b r:Nat)(x ws:List Int):Nat→List Int
 | 0=>ws
 |i+1=>(kM b r x ws i).set (b+2+(1+i) % r) (x.getD i 0)
theorem R6(b r:Nat)(x ws:List Int)(k:Nat):(kM b r x ws k).length=ws.length:=by
 induction k with
 |zero=>rfl
 |succ k ih=>rw[kM,cz,ih]
theorem VM(b r:Nat)(x ws:List Int)(y:Int):∀k,kM b r x (ws.set (b+1) y) k=(kM b r x ws k).set (b+1) y
 | 0=>rfl
 |k+1=>by rw[kM,kM,VM b r x ws y k,List.set_comm _ _ (by omega)]
def oO(b r:Nat)(x ws:List Int):List Int:=kM b r x ((ws.set b 1).set (b+1) ((1+x.length:Nat):Int)) x.length
theorem aab(b r:Nat)(x ws:List Int):(oO b r x ws).length=ws.length:=by rw[oO,R6,cz,cz]
theorem adQ(b r:Nat)(x ws:List Int):(kM b r x ((ws.set b 1).set (b+1) 1) x.length).set (b+1) ((1+x.length:Nat):Int)=oO b r x ws:=by
 rw[← VM,List.set_set];rfl
def lM(b0 d r:Nat)(ls:List (List Int))(ws:List Int):Nat→List Int
 | 0=>ws
 |w+1=>oO (b0+w*d) r (ls.getD w []) (lM b0 d r ls ws w)
theorem Rl(b0 d r:Nat)(ls:List (List Int))(ws:List Int)(k:Nat):(lM b0 d r ls ws k).length=ws.length:=by
 induction k with
 |zero=>rfl
 |succ k ih=>rw[lM,aab,ih]
def zX(N W:Nat)(st:Nat→List Int)(ls:List (List Int))(ws:List Int):List Int:=
 lM (N*W+N+1) (N+3) (N+1) ls ((nV N W st ws N).set (N*W+N) (N:Int)) ls.length
theorem YM(N W:Nat)(st:Nat→List Int)(ls:List (List Int))(ws:List Int):(zX N W st ls ws).length=ws.length:=by rw[zX,Rl,cz,A0]
theorem BH(x:List Int)(i a:Nat)(z:Int)(hi:i<x.length):(x.set i z).getD a 0=if a=i then z else x.getD a 0:=by
 rw[aZ,aZ,eA]
 by_cases h:a=i
 ·subst h;rw[af rfl,af hi,af rfl];rfl
 ·rw[ag (fun e=>h e.symm),ag h]
theorem rR(x:List Int)(i a:Nat)(z:Int)(h:a≠i):(x.set i z).getD a 0=x.getD a 0:=by
 rw[aZ,aZ,eA,ag (fun e=>h e.symm)]
theorem TU{b:Nat}{l ws:List Int}{a:Nat}:∀k,b+k≤a→(o9 b l ws k).getD a 0=ws.getD a 0
 | 0,_=>rfl
 |k+1,h=>by rw[o9,rR _ _ _ _ (by omega)];exact TU k (by omega)
set_option maxHeartbeats 4000000
def qi(s:Sy)(l:Lay):List (List Int):=B9 (nN s) l.k.toNat s.aN s.entry
def BX(s:Sy)(l:Lay)(ws:List Int):List Int:=zX (nN s) (nW l) (fun v=>gJ s v) (qi s l) ws
theorem acO{s:Sy}(hg:Good s):fL s.n s.aN=true:=by
 unfold fL;have h1:=hg.n1;have h2:=hg.n2;have h3:=hg.el;simp only[bS,decide_eq_true_eq,fG];exact⟨⟨⟨h1,h2⟩,h3⟩,fun e he=>⟨lB.2 (hg.uT e he).1,lB.2 (hg.uT e he).2⟩⟩
theorem Q8(s:Sy)(l:Lay):(qi s l).length=l.k.toNat:=ze _ _ _
theorem ZC{f:FuncId}{xs:List AV}{σ kE σ2:Hp}{x:AV}(h:ACalls Tryz.prog f xs σ (aC x kE))(e:kE=σ2):ACalls Tryz.prog f xs σ (aC x σ2):=e▸h
theorem abB{s:Sy}{l:Lay}(hs:LS s l){v:Nat}(hv:v<nN s)(us x:List Int):iE (Ca (bc l v) x us (cw l.words)) (wr (de l+(v:Nat))) 1=(o9 (v*nW l) x us (nW l)).set (nN s*nW l+v) 1:=by
 have h1:=hs.nn;have h2:=hs.ww;have h3:=s6 h1.2.2 h2.2;have h4:(v+1)*nW l≤nN s*nW l:=jm _ hv;rw[oH]at h4;rw[hs.Xv hv,hs.BW hv,SJ _ (by show _+nW l≤_;omega)];exact lX _
theorem aa7{s:Sy}{l:Lay}(hs:LS s l)(us:List Int):iE us (dA l) (wu s.n)=us.set (nN s*nW l+nN s) (nN s:Int):=by
 have h1:=hs.nn;rw[hs.count,lX,show wu s.n=(nN s:Int) by show IntKind.u64.wrap s.n=_;rw[IntKind.wrap_u64];omega]
theorem aa5{a:Nat}(ha:a≤1000000)(us:List Int):iE (iE us (a:Int) 1) (hG (a:Int)) 1=(us.set a 1).set (a+1) 1:=by
 rw[lX,show hG (a:Int)=((a+1:Nat):Int) from (iZ (by omega) (by omega)).trans (qC a 1).symm,lX]
theorem aa6{s:Sy}{l:Lay}(hs:LS s l){a i:Nat}(ha:a≤1000000)(hi:i≤1000000):wr (wr ((a:Int)+2)+(wr (1+(i:Int))).tmod (eM l))=((a+2+(1+i) % (nN s+1):Nat):Int):=by
 have h1:=hs.nn;have hm:=mU (1+i) (show 0<nN s+1 by omega);rw[iZ (z:=(a:Int)+2) (by omega) (by omega),iZ (z:=1+(i:Int)) (by omega) (by omega),hs.room.1,show (1+(i:Int)).tmod ((nN s+1:Nat):Int)=(((1+i) % (nN s+1):Nat):Int) by rw[show (1+(i:Int))=((1+i:Nat):Int) by omega];rfl];rw[iZ (by omega) (by omega)];omega
theorem abA{a r:Nat}(ha:a≤1000000)(x us:List Int)(hx:x.length≤1000000):iE (kM a r x ((us.set a 1).set (a+1) 1) x.length) (wr ((a:Int)+1)) (wu (wr (1+(x.length:Int))))=oO a r x us:=by
 rw[iZ (z:=(a:Int)+1) (by omega) (by omega),iZ (z:=1+(x.length:Int)) (by omega) (by omega),show wu (1+(x.length:Int))=((1+x.length:Nat):Int) by show IntKind.u64.wrap _=_;rw[IntKind.wrap_u64];omega,show (a:Int)+1=((a+1:Nat):Int) by omega,lX];exact adQ _ _ _ _
theorem abz{us:List Int}{b:Nat}{z:Int}(hz:0≤z)(fY:z≤1000000):iE us (b:Int) (wu z)=us.set b z:=by
 rw[lX,show wu z=z by show IntKind.u64.wrap _=_;rw[IntKind.wrap_u64];omega]
structure kQ(s:Sy)(l:Lay):Prop where
 all:kD (nN s) (og (nN s) s.aN s.entry)
 own:∀i:Nat,i<nN s→0≤(n5 (nN s) l.k.toNat s.aN).getD i 0∧(n5 (nN s) l.k.toNat s.aN).getD i 0<(l.k.toNat:Int)
 flat:kD (nN s) (kG (nN s) s.aN).flatten
 post:kD (nN s) (qW (nN s) s.aN s.entry)
theorem kQ.rows{s:Sy}{l:Lay}(h:kQ s l)(hn:nN s≤256):∀x∈qi s l,x.length≤256∧∀z∈x,0≤z∧z<(nN s:Int):=by
 intro x hx;unfold qi B9 nR at hx;obtain⟨u,_,rfl⟩:=cX.1 hx;have hlen:=Da (fun y=>decide ((n5 (nN s) l.k.toNat s.aN).getD y.toNat 0=(u:Int))) (og (nN s) s.aN s.entry).reverse;rw[tQ]at hlen;have:=h.all.len;exact⟨by omega,fun z hz=>h.all.rg z (xr.1 (kL.1 hz).1)⟩
theorem ag9(s:Sy)(l:Lay)(k:Nat)(σ:Hp)(hf:Fit s)(hg:Good s)(hk:l.k=k)(h1:1≤k)(h2:k≤64):ACalls Tryz.prog 160 [.int .i64 s.n,.ah dO s.aN,.ah (.int .i64) s.entry,.int .i64 k] σ (fun r σ'=>r=.tup [.ah (.slice (.int .i64)) (qi s l),.int .i64 0]∧σ'=σ∧kQ s l):=by
 have hn:s.n=(nN s:Int):=by have:=hg.n1;unfold nN;omega
 have hr:=acO hg;have he:=hg.ent;have eD:k=l.k.toNat:=by omega
 subst eD;unfold qi;rw[hn]at hr he ⊢;refine (ahz (nN s) s.aN s.entry l.k.toNat σ hf.yE hf.Cc hr he h1 h2).mono ?_;rintro _ _ ⟨rfl,rfl,hA,jY,gD,F7⟩;exact⟨rfl,rfl,hA,jY,gD,F7⟩
theorem agq(s:Sy)(k:Nat)(p q:Nat)(ws:List Int)(σ:Hp)(hf:Fit s)(he:cM s k=0)(eO:om (je s k)≤ws.length):ACalls Tryz.prog 97 [ny p,.agg (cc s),.int .i64 k] (cm p q ws σ) (fun r σ'=>r=.int .i64 0∧σ'=cm p q (BX s (je s k) ws) σ∧kQ s (je s k)):=by
 obtain⟨hs,Gs⟩:=zS hf he;obtain⟨Cx,fY,mQ⟩:=hs.size;obtain⟨hc,mr,eD⟩:=Ms he;have hg:=Nb hc;have hn:=hs.nn;have hw:=hs.ww;have fB:=hs.low;have hN:=hs.n;refine ay Tryz.func97 ?_;obtain⟨l,hl⟩:∃l,je s k=l:=⟨_,rfl⟩
 have e1:AV.tup [.agg (ik (je s k)),.int .i64 (cM s k)]=.tup [.agg (ik l),.int .i64 (cM s k)]:=by rw[hl]
 rw[hl]at hs Gs Cx fY mQ hw fB hN eO ⊢;generalize hE:cM s k=E at e1 he;intro b4;refine aa 0 ?_;refine ax [] (sS (NM s k _ hf) (hE▸e1)) ?_;intro b7;refine aj 0 ?_;refine dX (fun c3=>?_) (fun c3=>?_)
 ·have c3:¬(cM s (↑k:Int)=0):=by simpa using c3
  exact absurd (hE.trans he) c3
 refine ax [] (ec _ _ _) ?_;refine .sched [1,3] (upto [1,3] 5 0) (by kernel_rfl) ?_;refine⟨_,mLen_,?_⟩;refine aK [3,3] (Ye p q ws _) ?_;refine aa 0 ?_;refine aK [] (WT _ _) ?_;refine ao (p:=(ws.length:Int)<jr l l.k) (fun c4=>?_) (fun c4=>?_)
 ·omega
 refine aa 1 ?_;refine ca (S:=Nat) (fun v=>[(0,ny p),(2,.int .i64 k),(4,.ptr b4 0),(7,.ptr b7 0),(36,.int .i64 s.n),(37,.int .i64 v)]) (fun v=>(b7,ik l)::(b4,cc s)::cm p q (nV (nN s) (nW l) (fun v=>gJ s v) ws v) σ) (fun v=>v≤nN s) (fun v=>nN s-v) 0 ⟨bC _,⟨rfl,rfl,rfl,rfl,rfl,rfl,trivial⟩,rfl⟩ ?_;intro v g sy;have hv:v≤nN s:=sy;clear sy;have pA:=A0 (nN s) (nW l) (fun v=>gJ s v) ws v;refine ao (p:=(v:Int)<s.n) (fun ab=>?_) (fun au=>?_)
 ·have ab:v<nN s:=by omega
  have qY:jA s v=0:=(HB hc ⟨by omega,by omega⟩).symm;refine aa 1 ?_;refine ax [] (ac4 s v _ hf) ?_;rw[Ee qY];refine aa 0 ?_;refine ax [] (I4 l v _) ?_;refine ax [3,3] (ajR p q _ _ _ _ _ _) ?_;refine .sched [2] (upto [2] 10 0) (by kernel_rfl) ?_;refine aa 2 ?_;refine aK [] (Nj l _) ?_;refine fH.mk hStore_ ?_;refine⟨_,mStore_,?_⟩;refine ax [] (aStore p q _ _ _ _) ?_;exact a8 (v+1) (by show nN s-(v+1)<nN s-v;omega) ab ⟨rfl,rfl,rfl,rfl,rfl,aX (by omega),trivial⟩ (.pull [3,3] (aL (congrArg (fun z=>_::_::cm p q z σ) (abB hs ab _ _))))
 have au:v=nN s:=by omega
 subst au;obtain⟨us,gv⟩:∃us,nV (nN s) (nW l) (fun v=>gJ s v) ws (nN s)=us:=⟨_,rfl⟩
 rw[gv]at pA ⊢;refine .sched [2] (upto [2] 11 0) (by kernel_rfl) ?_;refine aa 0 ?_;refine aK [] (Nj l _) ?_;refine aa 1 ?_;refine fH.mk hStore_ ?_;refine⟨_,mStore_,?_⟩;refine ax [3,3] (aStore p q _ _ _ _) ?_;refine aa 3 ?_;refine aa 3 ?_;refine aa 3 ?_;refine .mk [] _ (ag9 s l k _ hf hg Gs (by omega) (by omega)) ?_;rintro _ τ ⟨rfl,Pd,bM⟩;subst τ;have hx:=bM.rows hn.2.2;have cT:=Q8 s l;have yB:BX s l ws=lM (nN s*nW l+nN s+1) (nN s+3) (nN s+1) (qi s l) ((nV (nN s) (nW l) (fun v=>gJ s v) ws (nN s)).set (nN s*nW l+nN s) (nN s:Int)) (qi s l).length:=rfl;rw[gv]at yB;generalize qi s l=ls at hx cT yB;refine ca (S:=Nat) (fun w=>[(0,ny p),(7,.ptr b7 0),(85,.ah (.slice (.int .i64)) ls),(86,.int .i64 ls.length),(87,.int .i64 w)]) (fun w=>cm p q (lM (nN s*nW l+nN s+1) (nN s+3) (nN s+1) ls (us.set (nN s*nW l+nN s) (nN s:Int)) w) ((b7,ik l)::(b4,cc s)::σ)) (fun w=>w≤ls.length) (fun w=>ls.length-w) 0 ⟨bC _,⟨rfl,rfl,rfl,rfl,rfl,trivial⟩,congrArg (fun z=>cm p q z _) (aa7 hs us)⟩ ?_;intro w g2 yO;have JD:w≤ls.length:=yO;clear yO;refine ao (p:=(w:Int)<(ls.length:Int)) (fun ab=>?_) (fun au=>?_);rotate_left
 ·have au:w=ls.length:=by omega
  subst au;rw[yB];exact .drop 2 2 (.done ⟨rfl,rfl,bM⟩)
 have ab:w<ls.length:=by omega
 obtain⟨x,iJ⟩:∃x:List Int,ls[w]=x:=⟨_,rfl⟩
 obtain⟨Pk,hxz⟩:=hx _ (cq ab);rw[iJ]at Pk hxz;have hxd:ls.getD w []=x:=by rw[aZ,bB ab,iJ];rfl
 have Gi:=hs.yu (k:=w) (by omega);have cP:lM (nN s*nW l+nN s+1) (nN s+3) (nN s+1) ls (us.set (nN s*nW l+nN s) (nN s:Int)) (w+1)=oO (nN s*nW l+nN s+1+w*(nN s+3)) (nN s+1) x (lM (nN s*nW l+nN s+1) (nN s+3) (nN s+1) ls (us.set (nN s*nW l+nN s) (nN s:Int)) w):=by rw[lM,hxd]
 have vr:nN s*nW l+nN s+1+w*(nN s+3)≤1000000:=by
  have h3:=s6 hn.2.2 hw.2;have h4:w*(nN s+3)≤64*259:=jN (by omega) (by omega);omega
 refine aJ.mk rfl (bO.mk x (by omega) ((get_some ab).trans (congrArg some iJ)) ?_);refine aa 2 ?_;refine ax [] (sS (Er l w _) (congrArg (fun z=>AV.agg [.int .i64 z,.int .i64 (eM l)]) Gi)) ?_;generalize nN s*nW l+nN s+1+w*(nN s+3)=a at Gi cP vr;generalize lM (nN s*nW l+nN s+1) (nN s+3) (nN s+1) ls (us.set (nN s*nW l+nN s) (nN s:Int)) w=vs at cP;intro b16;refine aj 0 ?_;refine aa 0 ?_;refine ax [2,2] (ZC (agd p q vs a (eM l) _) (congrArg (fun z=>cm p q z _) (aa5 vr vs))) ?_;refine ca (S:=Nat) (fun i=>[(0,ny p),(7,.ptr b7 0),(15,.ah (.int .i64) x),(16,.ptr b16 0),(85,.ah (.slice (.int .i64)) ls),(86,.int .i64 ls.length),(87,.int .i64 w),(98,.ah (.int .i64) x),(99,.int .i64 x.length),(100,.int .i64 i)]) (fun i=>cm p q (kM a (nN s+1) x ((vs.set a 1).set (a+1) 1) i) ((b16,[.int .i64 a,.int .i64 (eM l)])::(b7,ik l)::(b4,cc s)::σ)) (fun i=>i≤x.length) (fun i=>x.length-i) 0 ⟨bC _,⟨rfl,rfl,rfl,rfl,rfl,rfl,rfl,rfl,rfl,rfl,trivial⟩,rfl⟩ ?_;intro i g3 fE;have hi:i≤x.length:=fE;clear fE;refine ao (p:=(i:Int)<(x.length:Int)) (fun dE=>?_) (fun jF=>?_)
 ·have dE:i<x.length:=by omega
  obtain⟨z,hz⟩:∃z,x[i]=z:=⟨_,rfl⟩
  have iI:=hxz z (hz▸cq dE);have hzd:x.getD i 0=z:=by rw[aZ,bB dE,hz];rfl
  have X1:kM a (nN s+1) x ((vs.set a 1).set (a+1) 1) (i+1)=(kM a (nN s+1) x ((vs.set a 1).set (a+1) 1) i).set (a+2+(1+i) % (nN s+1)) z:=by rw[kM,hzd]
  have tG:=aa6 hs (i:=i) vr (by omega);generalize kM a (nN s+1) x ((vs.set a 1).set (a+1) 1) i=ys at X1
  have aq:iE ys (wr (wr ((a:Int)+2)+(wr (1+(i:Int))).tmod (eM l))) (wu z)=kM a (nN s+1) x ((vs.set a 1).set (a+1) 1) (i+1):=by
   rw[tG,abz (by omega) (by omega),X1]
  refine aJ.mk rfl (bO.mk z (by omega) ((get_some dE).trans (congrArg some hz)) ?_);refine .sched [7] (upto [7] 16 0) (by kernel_rfl) ?_;refine aa 2 ?_;refine aa 3 ?_;refine aK [] (NN l _) ?_;refine aJ.mk (by rw[hs.room.1];omega) ?_;refine fH.mk hStore_ ?_;refine⟨_,mStore_,?_⟩;refine ax [] (aStore p q _ _ _ _) ?_;exact a8 (i+1) (by show x.length-(i+1)<x.length-i;omega) dE ⟨rfl,rfl,rfl,rfl,rfl,rfl,rfl,rfl,rfl,aX (by omega),trivial⟩ (aL (congrArg (fun z=>cm p q z _) aq))
 have jF:i=x.length:=by omega
 subst jF;refine aa 2 ?_;refine⟨_,mStore_,?_⟩;refine ax [] (aStore p q _ _ _ _) ?_;exact a8 (w+1) (by show ls.length-(w+1)<ls.length-w;omega) ab ⟨rfl,rfl,rfl,rfl,aX (by omega),trivial⟩ (.drop 2 1 (aL (congrArg (fun z=>cm p q z _) ((abA vr x vs (by omega)).trans cP.symm))))
set_option maxHeartbeats 4000000
theorem aeA{α β:Type}(rs:List α)(L:List β)(i:Nat)(x:β)(h:i<rs.length):rs.zip (L.set i x)=(rs.zip L).set i (rs[i],x):=by
 refine List.ext_getElem (by simp) fun k h1 h2=>?_;rw[KR];simp only[List.getElem_zip,KR];split
 ·rename_i he;subst he;rfl
 ·rfl
set_option maxHeartbeats 4000000
abbrev l4:Sh:=.field (.int .i64) (.field (.int .i64) .nil)
theorem aiG(W:AWorld)(lb:Nat)(ar:List (Int×Int×Unit))(s0:W.S)(σ:Hp)(hn:W.L.length≤100000)(hs:ar.length≤100000)(hf:W.free (W.abs s0))(mG:∀a k,W.tell a k=a):
  ACalls Tryz.prog 101 [W.mv,.ae lb 0 W.L.length 1,.ah l4 ar] ((lb,W.L)::(W.B s0++σ)) (MJ W ar (W.abs s0) [(lb,W.L)] σ):=by
 refine ay Tryz.func101 ?_;intro aF;refine .perm _ (oK (a:=(aF,[.an,.an,.int .i64 0])) (l₁:=(lb,W.L)::W.B s0) (l₂:=σ)) (aiP W lb ar s0 ((aF,[.an,.an,.int .i64 0])::σ) hn hs hf mG) ?_;rintro x σ' ⟨s',h1,rfl,rfl⟩;refine⟨_,(oK (a:=(aF,[.an,.an,.int .i64 0])) (l₁:=(lb,W.L)::W.B s') (l₂:=σ)).symm,?_⟩;refine aj 0 ?_;refine aa 0 ?_;exact .drop 0 1 (.done ⟨s',h1,rfl,rfl⟩)
theorem XD(sv:AV)(u:Int)(dn:List Bool)(σ:Hp)(hn:dn.length≤1000000):ACalls Tryz.prog 42 [.agg [sv,.ah .bool dn,.int .i64 u]] σ (aC (.bool (dn.all id)) σ):=by
 refine ay Tryz.func42 ?_;intro aF;refine aa 0 ?_;refine ca (S:=Nat) (fun s=>[(6,.ah .bool dn),(7,.int .i64 dn.length),(8,.int .i64 s)]) (fun _=>(aF,[sv,.ah .bool dn,.int .i64 u])::σ) (fun s=>s≤dn.length∧(dn.take s).all id=true) (fun s=>dn.length-s) 0 ⟨⟨bC _,rfl⟩,⟨rfl,rfl,rfl,trivial⟩,rfl⟩ ?_;rintro k g ⟨hk,cx⟩;refine ao (fun h=>?_) (fun h=>?_)
 ·have h:(k:Int)<dn.length:=h;have nE:k<dn.length:=by omega
  cases hd:dn[k] with
  |true=>
   refine aJ.mk rfl (bO.mk true (by omega) ((get_some nE).trans (congrArg some hd)) ?_);refine a8 (k+1) ?_ ⟨nE,?_⟩ ⟨rfl,rfl,aX (by omega),trivial⟩ (aL rfl)
   ·show dn.length-(k+1)<dn.length-k;omega
   ·rw[ft nE,CU,cx,hd];rfl
  |false=>
   refine aJ.mk rfl (bO.mk false (by omega) ((get_some nE).trans (congrArg some hd)) ?_);exact .drop 0 1 (.done ⟨congrArg AV.bool (WK nE hd).symm,rfl⟩)
 ·have h:¬(k:Int)<dn.length:=h;exact .drop 0 1 (.done ⟨congrArg AV.bool (by rw[← eR (show dn.length≤k by omega)];exact cx.symm),rfl⟩)
set_option maxHeartbeats 4000000
theorem ACalls.XG{P:Program}{f:FuncId}{xs:List AV}{σ σ2:Hp}{R R':AV→Hp→Prop}(h:ACalls P f xs σ2 R)(hp:σ2.Perm σ)(go:∀r σ',R r σ'→∃eJ,eJ.Perm σ'∧R' r eJ):ACalls P f xs σ R':=
 Hl (.perm R hp h go)
structure WZ where
 r:Nat
 c:AV
 acc:Hp
 x:WS
 rd:z7 c acc x.now
def yI(s:Sy)(l:Lay)(y:(Nat×Nat)×WZ):Hp:=WB s l y.1.1 y.1.2 y.2.r y.2.c y.2.acc y.2.x
def eU(s:Sy)(l:Lay)(I:List (Nat×Nat))(Z:List WZ):Hp:=(I.zip Z).flatMap (yI s l)
structure WA where
 W:List WS
 ws:List Int
structure sP where
 ws:List Int
 Z:List WZ
def sP.abs(t:sP):WA:=⟨t.Z.map (·.x),t.ws⟩
def ej(s:Sy)(l:Lay)(a:WA)(i:Nat)(d:Int):WA×Bool:=match a.W[i]? with
 |some x=>(⟨a.W.set i (dB bJ s l i x d a.ws).1,(dB bJ s l i x d a.ws).2.1⟩,(dB bJ s l i x d a.ws).2.2)
 |none=>(a,true)
structure uD(s:Sy)(l:Lay)(a:WA):Prop where
 len:(a.W.length:Int)=l.k
 fl:qq s l a.ws
 wv:∀(i:Nat) (x:WS),a.W[i]?=some x→WV s l i x
theorem Bm{s:Sy}{l:Lay}{a:WA}{i:Nat}{d:Int}{x:WS}(h:a.W[i]?=some x):ej s l a i d=(⟨a.W.set i (dB bJ s l i x d a.ws).1,(dB bJ s l i x d a.ws).2.1⟩,(dB bJ s l i x d a.ws).2.2):=by
 unfold ej;rw[h]
theorem uD.step{s:Sy}{l:Lay}{a:WA}(hs:LS s l)(h:uD s l a)(i:Nat)(d:Int):uD s l (ej s l a i d).1:=by
 cases hx:a.W[i]? with
 |none=>unfold ej;rw[hx];exact h
 |some x=>
  rw[Bm hx];have hi:=(bZ.1 hx).1;have hl:=h.len;obtain⟨h1,h2,h3⟩:=aeG (d:=d) hs ⟨by omega,by omega⟩ h.fl.2 (h.wv i x hx);refine⟨?_,⟨h2.trans h.fl.1,h1⟩,fun j y hy=>?_⟩
  ·show ((a.W.set i _).length:Int)=l.k;rw[cz];exact hl
  ·have hy:(a.W.set i (dB bJ s l i x d a.ws).1)[j]?=some y:=hy;rw[eA]at hy
   by_cases fj:i=j
   ·subst fj;rw[af rfl,af hi]at hy;cases hy;exact h3
   ·rw[ag fj]at hy;exact h.wv j y hy
section
variable {s:Sy} {l:Lay} {p q:Nat} {I:List (Nat×Nat)}
theorem U4{Z:List WZ}{i:Nat}(hi:i<I.length)(hz:i<Z.length):(eU s l I Z).Perm (WB s l I[i].1 I[i].2 Z[i].r Z[i].c Z[i].acc Z[i].x++((I.zip Z).eraseIdx i).flatMap (yI s l)):=by
 have h:i<(I.zip Z).length:=by simp;omega
 have h1:=R2 (f:=yI s l) h;have e:(I.zip Z)[i]=(I[i],Z[i]):=by simp
 rw[e]at h1;exact h1
theorem acf{Z:List WZ}{i:Nat}(hi:i<I.length)(hz:i<Z.length)(y:WZ):(eU s l I (Z.set i y)).Perm (WB s l I[i].1 I[i].2 y.r y.c y.acc y.x++((I.zip Z).eraseIdx i).flatMap (yI s l)):=by
 have h:i<(I.zip Z).length:=by simp;omega
 have h1:=abw (f:=yI s l) h (I[i],y);rw[← aeA _ _ _ _ hi]at h1;exact h1
theorem wzP{X Y:Hp}(b:Hp)(h:X.Perm (b++Y))(ws:List Int)(σ:Hp):(cm p q ws X++σ).Perm (b++cm p q ws (Y++σ)):=by
 have h1:(cm p q ws X++σ).Perm (cm p q ws (b++Y)++σ):=List.Perm.append_right σ (List.Perm.append_left [_,_] h);refine h1.trans ?_;show ([(p,uY q ws.length),(q,aR ws)]++((b++Y)++σ)).Perm (b++([(p,uY q ws.length),(q,aR ws)]++(Y++σ)));rw[dW];exact nO [[(p,uY q ws.length),(q,aR ws)],b,Y] σ (a:=[0,1,2]) (b:=[1,0,2]) (by decide)
theorem aiD{t:sP}{i:Nat}{d:Int}(σ:Hp)(hs:LS s l)(hi:i<I.length)(hI:I[i].1=i)(hk:(I.length:Int)=l.k)(hf:uD s l t.abs):ACalls Tryz.prog 390 [.ptr I[i].2 0,ny p,.int .i64 d] (cm p q t.ws (eU s l I t.Z)++σ) (fun x σ'=>∃t':sP,t'.abs=(ej s l t.abs i d).1∧x=.bool (ej s l t.abs i d).2∧σ'=cm p q t'.ws (eU s l I t'.Z)++σ):=by
 have hz:i<t.Z.length:=by
  have h1:=hf.len;have h2:((t.Z.map (·.x)).length:Int)=l.k:=h1;rw[bX]at h2;omega
 have hW:t.abs.W[i]?=some t.Z[i].x:=by
  show (t.Z.map (·.x))[i]?=_;rw[fk,bB hz];rfl
 have hB:=wzP (p:=p) (q:=q) _ (U4 (s:=s) (l:=l) hi hz) t.ws σ;have Kl:=fun (ws:List Int) (y:WZ)=>wzP (p:=p) (q:=q) _ (acf (s:=s) (l:=l) hi hz y) ws σ;have rE:=hf.wv i _ hW;rw[hI]at hB Kl;have aq:=Bm (s:=s) (l:=l) (d:=d) hW;have kA:∀(y:WZ),(t.Z.set i y).map (·.x)=t.abs.W.set i y.x:=fun y=>by show _=(t.Z.map (·.x)).set i y.x;rw[oI]
 rw[aq];refine (ajN p q I[i].2 t.Z[i].r t.Z[i].c t.Z[i].acc s l i t.Z[i].x d t.ws (((I.zip t.Z).eraseIdx i).flatMap (yI s l)++σ) hs.fit hf.fl.2.a64 (rE.ok hs) t.Z[i].rd (x':=(dB bJ s l i t.Z[i].x d t.ws).1) (ws':=(dB bJ s l i t.Z[i].x d t.ws).2.1) (b:=(dB bJ s l i t.Z[i].x d t.ws).2.2) rfl).XG hB.symm ?_;rintro _ _ ⟨r',c',aY,oy,rfl,rfl⟩;refine⟨_,Kl _ ⟨r',c',aY,(dB bJ s l i t.Z[i].x d t.ws).1,oy⟩,⟨(dB bJ s l i t.Z[i].x d t.ws).2.1,t.Z.set i ⟨r',c',aY,(dB bJ s l i t.Z[i].x d t.ws).1,oy⟩⟩,?_,rfl,rfl⟩;exact congrArg (fun z=>WA.mk z _) (kA _)
end
theorem mWorker_ : Meth Tryz.prog 168 "Step" 390 := fun a w => by kernel_rfl
def Ev(s:Sy)(l:Lay)(hs:LS s l)(p q:Nat)(I:List (Nat×Nat))(hI:∀i (h:i<I.length),I[i].1=i)(hk:(I.length:Int)=l.k):AWorld where
 A:=WA
 S:=sP
 abs:=sP.abs
 B t:=cm p q t.ws (eU s l I t.Z)
 L:=I.map fun y=>.iface 168 (.ptr y.2 0)
 mt:=94
 mp:=p
 step:=ej s l
 tell a _:=a
 free:=uD s l
 keeps a i d h _:=h.step hs i d
 told _ _ h:=h
 mach i h:=by
  have hi:i<I.length:=by simpa using h
  refine .inr ⟨168,I[i].2,by simp,_,mWorker_,fun t d σ hf=>?_⟩;refine (aiD (p:=p) (q:=q) (t:=t) (d:=d) σ hs hi (hI i hi) hk hf).mono ?_;rintro _ _ ⟨t',h1,rfl,rfl⟩;exact⟨t',h1,rfl,rfl⟩
set_option maxHeartbeats 4000000
def wG(l:Lay)(ws:List Int)(n:Nat):List (List Int):=(List.range n).map fun v:Nat=>qo (bc l v) ws (cw l.words)
theorem ZD(bl bm p q v:Nat)(l:Lay)(ws:List Int)(τ:Hp):ACalls Tryz.prog 105 [.int .i64 v,.ptr bl 0,.ptr bm 0] ((bl,ik l)::(bm,[ny p])::cm p q ws τ) (aC (.ah (.int .u64) (qo (bc l v) ws (cw l.words))) ((bl,ik l)::(bm,[ny p])::cm p q ws τ)):=by
 refine ay Tryz.func105 ?_;refine .quiet (by kernel_rfl) ?_;refine aa 0 ?_;refine aK [] (I4 l v _) ?_;refine aa 1 ?_;refine aK [3,3] (ajW p q ws _ _ _ _) ?_;exact .done ⟨rfl,rfl⟩
theorem Sc(p q:Nat)(l:Lay)(n:Nat)(ws:List Int)(σ:Hp)(hn:l.n=n)(mq:n≤100000):ACalls Tryz.prog 43 [ny p,.agg (ik l)] (cm p q ws σ) (aC (.ah (.slice (.int .u64)) (wG l ws n)) (cm p q ws σ)):=by
 refine ay Tryz.func43 ?_;intro bm;intro bl;refine aa 0 ?_;have hE:=fun τ=>ahQ 105 [.ptr bl 0,.ptr bm 0] ((bl,ik l)::(bm,[ny p])::cm p q ws []) τ (fun v:Nat=>qo (bc l v) ws (cw l.words)) n mq (fun i _ τ=>ZD bl bm p q i l ws τ);rw[← hn]at hE;refine ax [] (hE _) ?_;exact .drop 0 2 (.done ⟨rfl,rfl⟩)
def ep(mv:AV)(l:Lay)(wv st dn:AV)(us:Int):List AV:=[mv,.int .i64 l.what,.int .i64 l.words,.int .i64 l.n,.int .i64 l.k,wv,st,dn,.int .i64 us]
def pW(w:Nat):AV:=.ptr w 0
def iW(w:Nat):AV:=.iface 168 (.ptr w 0)
theorem ahB(bs bp i:Nat)(s:Sy)(l:Lay)(mv wv st dn:AV)(us:Int)(τ:Hp)(hf:Fit s)(he:cM s l.k=0)(hL:je s l.k=l)(h1:(i:Int)<l.k):ACalls Tryz.prog 99 [.int .i64 i,.ptr bs 0,.ptr bp 0] ((bs,cc s)::(bp,ep mv l wv st dn us)::τ) (fun r σ'=>∃w,r=.ptr w 0∧σ'=WB s l i w 0 .an [] oh++((bs,cc s)::(bp,ep mv l wv st dn us)::τ)):=by
 refine ay Tryz.func99 ?_;refine aa 0 ?_;refine aa 1 ?_
 (refine .mk [] _ (ahL s l i _ hf he hL (by omega) h1) ?_;rintro _ _ ⟨w,rfl,rfl⟩)
 exact .done ⟨w,rfl,rfl⟩
theorem ahA(bp lw i n:Nat)(L:List Nat)(l:Lay)(mv st dn:AV)(us:Int)(τ:Hp)(hl:L.length=n)(hi:i<n):ACalls Tryz.prog 103 [.int .i64 i,.ptr bp 0] ((bp,ep mv l (.ae lw 0 n 1) st dn us)::(lw,L.map pW)::τ) (aC (iW (L.getD i 0)) ((bp,ep mv l (.ae lw 0 n 1) st dn us)::(lw,L.map pW)::τ)):=by
 have hg:(L.map pW)[0+((i:Int)).toNat*1]?=some (.ptr (L.getD i 0) 0):=by
  rw[bG,dS,dI,fk,bB (by omega),aZ,bB (by omega)];rfl
 refine ay Tryz.func103 ?_;refine aa 0 ?_;refine aO ?_;refine aW 1 rfl (jz rfl hg) ?_;exact .done ⟨rfl,rfl⟩
def dc(L:List Nat):List (Nat×Nat):=(List.range L.length).zip L
def jJ:WZ:=⟨0,.an,[],oh,trivial⟩
theorem DX(L:List Nat):∀i (h:i<(dc L).length),(dc L)[i].1=i:=fun i h=>by simp[dc]
theorem DW(L:List Nat):(dc L).length=L.length:=by simp[dc]
theorem adx(L:List Nat):(dc L).map (fun y=>AV.iface 168 (.ptr y.2 0))=L.map iW:=by
 unfold dc;have:(fun y:Nat×Nat=>AV.iface 168 (.ptr y.2 0))=iW ∘ Prod.snd:=rfl;rw[this,← List.map_map,List.map_snd_zip (by simp)]
theorem ace(s:Sy)(l:Lay)(L:List Nat)(w:Nat):eU s l (dc (L++[w])) (List.replicate (L++[w]).length jJ)=eU s l (dc L) (List.replicate L.length jJ)++WB s l L.length w 0 .an [] oh:=by
 have e1:dc (L++[w])=dc L++[(L.length,w)]:=by
  unfold dc;rw[List.length_append,List.length_singleton,List.range_succ,List.zip_append (by simp)];rfl
 have e2:List.replicate (L++[w]).length jJ=List.replicate L.length jJ++[jJ]:=by
  rw[bQ,sN,List.replicate_succ']
 unfold eU;rw[e1,e2,List.zip_append (by rw[fQ,DW]),xC];rfl
set_option maxHeartbeats 4000000
theorem iN(l:List Int)(i j:Nat)(x:Int):(l.set i x).getD j 0=if i=j∧j<l.length then x else l.getD j 0:=by
 rw[aZ,eA,aZ]
 by_cases h:i=j
 ·subst h
  by_cases h2:i<l.length
  ·simp[h2]
  ·simp[h2]
 ·simp[h]
theorem Wl{a c m:Nat}(h1:a<c)(h2:c-a<m):¬a % m=c % m:=fun h=>by
 have h3:=Nat.sub_mod_eq_zero_of_mod_eq h.symm;have h4:=Nat.le_of_dvd (by omega) (Ql h3);omega
theorem qa{n:Nat}(h:n<9000000000000000000):wr (n:Int)=n:=by
 show IntKind.i64.wrap _=_;rw[IntKind.wrap_i64];omega
theorem EL{n:Nat}(h:n<9000000000000000000):wu (n:Int)=n:=by
 show IntKind.u64.wrap _=_;rw[IntKind.wrap_u64];omega
theorem yf{bs:Nat}(h:bs<1000000000):hG (bs:Int)=((bs+1:Nat):Int):=by
 unfold hG;exact qa (n:=bs+1) (by omega)
theorem HR{bs:Nat}(h:bs<1000000000)(cap:Int)(i:Nat):l0 (bs:Int) cap (i:Nat)=((bs+2+i % rm cap:Nat):Int):=by
 have hr:=wC cap;have hm:i % rm cap<rm cap:=mU _ (by omega);unfold l0;rw[show ((bs:Int)+2)=((bs+2:Nat):Int) by omega,qa (by omega),← Int.natCast_emod,qa (by omega),← qC];exact qa (by omega)
theorem s5(ws:List Int)(a:Nat):gY ws (a:Int)=ws.getD a 0:=oS
theorem EM(ws:List Int)(a:Nat)(x:Int):iE ws (a:Int) x=ws.set a x:=lX x
theorem IN{ws:List Int}{a:Nat}(h:a<ws.length)(o x:Int):(oc ws (a:Int) o=decide (ws.getD a 0=o))∧jy ws (a:Int) o x=if ws.getD a 0=o then ws.set a x else ws:=by
 have e:oc ws (a:Int) o=decide (ws.getD a 0=o):=by
  unfold oc;rw[DE (by omega) (by omega),oS];rfl
 refine⟨e,?_⟩;unfold jy;rw[e,lX]
 by_cases h2:ws.getD a 0=o
 ·rw[af h2,af (bu h2)]
 ·rw[ag h2,cf h2,ag go2]
abbrev Own:Type:=Option (Bool×DQ)
def uP:Own→Nat
 |some (true,q)=>if 2≤q.at_ then 1 else 0
 |_=>0
structure DB(bs:Nat)(cap:Int)(ws:List Int)(lo T:Nat)(c:List Int):Prop where
 len:bs+2+rm cap≤ws.length
 top:ws.getD bs 0=(T:Int)
 t1:1≤T
 bot:ws.getD (bs+1) 0=((T+c.length-lo:Nat):Int)
 fits:c.length≤rm cap
 cH:∀i (h:i<c.length),ws.getD (bs+2+(T+i) % rm cap) 0=c[i]
structure Jt(bs:Nat)(cap:Int)(ws:List Int)(T:Nat)(c:List Int)(q:DQ):Prop where
 base:q.base=bs
 cp:q.cap=cap
 on:q.ended=false
 no:q.ok=false
 AX:q.at_≤3
 b:1≤q.at_→q.b=((T+c.length:Nat):Int)
 room:2≤q.at_→c.length<rm cap
 put:q.at_=3→ws.getD (bs+2+(T+c.length) % rm cap) 0=q.n
structure Ah(bs:Nat)(cap:Int)(Th:DQ→Prop)(T:Nat)(c:List Int)(q:DQ):Prop where
 base:q.base=bs
 cp:q.cap=cap
 on:q.ended=false
 Ln:q.at_≤5
 no:q.at_≤4→q.ok=false
 b:1≤q.at_→q.b=((T+c.length-1:Nat):Int)
 a3:q.at_=3→∃t:Nat,q.t=t∧t≤T∧(t<T+c.length-1→1≤c.length∧∀z,Th z→z.ended=false→2≤z.at_→z.t<((T+c.length-1:Nat):Int))
 a4:q.at_=4→q.t=q.b∧c.length≤1∧∀x∈c,x=q.x
 a5:q.at_=5→c=[]
structure ThO(bs:Nat)(cap:Int)(T:Nat)(c:List Int)(z:DQ):Prop where
 base:z.base=bs
 cp:z.cap=cap
 no:z.ok=false
 AX:z.at_≤3
 t:1≤z.at_→∃t:Nat,z.t=t∧t≤T∧(2≤z.at_→t=T→0<c.length)∧(z.at_=3→t=T→c.head?=some z.x)
def J5(bs:Nat)(cap:Int)(ws:List Int)(Th:DQ→Prop)(T:Nat)(c:List Int):Own→Prop
 |none=>True
 |some (false,q)=>Jt bs cap ws T c q
 |some (true,q)=>Ah bs cap Th T c q
structure DI(bs:Nat)(cap:Int)(ws:List Int)(own:Own)(Th:DQ→Prop)(T:Nat)(c:List Int):Prop where
 db:DB bs cap ws (uP own) T c
 ow:J5 bs cap ws Th T c own
 th:∀z,Th z→z.ended=false→ThO bs cap T c z
theorem DB.GR{bs:Nat}{cap:Int}{ws ws':List Int}{lo T:Nat}{c:List Int}(h:DB bs cap ws lo T c)(hl:ws'.length=ws.length)(he:∀a,bs≤a→a<bs+2+rm cap→ws'.getD a 0=ws.getD a 0):DB bs cap ws' lo T c:=by
 have hr:=wC cap;refine⟨by rw[hl];exact h.len,by rw[he _ (by omega) (by omega)];exact h.top,h.t1,by rw[he _ (by omega) (by omega)];exact h.bot,h.fits,fun i hi=>?_⟩;have hm:(T+i) % rm cap<rm cap:=mU _ (by omega);rw[he _ (by omega) (by omega)];exact h.cH i hi
theorem DI.GR{bs:Nat}{cap:Int}{ws ws':List Int}{own:Own}{Th:DQ→Prop}{T:Nat}{c:List Int}(h:DI bs cap ws own Th T c)(hl:ws'.length=ws.length)(he:∀a,bs≤a→a<bs+2+rm cap→ws'.getD a 0=ws.getD a 0):DI bs cap ws' own Th T c:=by
 have hr:=wC cap;refine⟨h.db.GR hl he,?_,h.th⟩;have ho:=h.ow
 match own with
 |none=>trivial
 |some (false,q)=>
  have ho:Jt bs cap ws T c q:=ho;refine⟨ho.base,ho.cp,ho.on,ho.no,ho.AX,ho.b,ho.room,fun h3=>?_⟩;have hm:(T+c.length) % rm cap<rm cap:=mU _ (by omega);rw[he _ (by omega) (by omega)];exact ho.put h3
 |some (true,q)=>exact ho
theorem J5.rb{bs:Nat}{cap:Int}{ws:List Int}{own:Own}{Th GY:DQ→Prop}{T:Nat}{c:List Int}(h:J5 bs cap ws Th T c own)(hT:∀z,GY z→z.ended=false→2≤z.at_→Th z):J5 bs cap ws GY T c own:=by
 match own with
 |none=>trivial
 |some (false,q)=>exact h
 |some (true,q)=>
  have h:Ah bs cap Th T c q:=h;refine⟨h.base,h.cp,h.on,h.Ln,h.no,h.b,fun h3=>?_,h.a4,h.a5⟩;obtain⟨t,h1,h2,h4⟩:=h.a3 h3;exact⟨t,h1,h2,fun h5=>⟨(h4 h5).1,fun z h6 h7 h8=>(h4 h5).2 z (hT z h6 h7 h8) h7 h8⟩⟩
theorem DI.rb{bs:Nat}{cap:Int}{ws:List Int}{own:Own}{Th GY:DQ→Prop}{T:Nat}{c:List Int}(h:DI bs cap ws own Th T c)(hT:∀z,GY z→Th z):DI bs cap ws own GY T c:=
 ⟨h.db,h.ow.rb fun z hz _ _=>hT z hz,fun z hz=>h.th z (hT z hz)⟩
theorem DI.Cs{bs:Nat}{cap:Int}{ws:List Int}{own:Own}{Th:DQ→Prop}{T:Nat}{c:List Int}(h:DI bs cap ws own Th T c){z:DQ}(h0:z.base=bs)(h1:z.cap=cap)(h2:z.ok=false)(h3:z.at_=0):DI bs cap ws own (fun x=>Th x∨x=z) T c:=by
 refine⟨h.db,h.ow.rb fun x hx _ ha=>?_,fun x hx iJ=>?_⟩
 ·rcases hx with hx | rfl
  ·exact hx
  ·omega
 ·rcases hx with hx | rfl
  ·exact h.th x hx iJ
  ·exact⟨h0,h1,h2,by omega,fun h4=>by omega⟩
theorem DI.push{bs:Nat}{cap:Int}{ws:List Int}{Th:DQ→Prop}{T:Nat}{c:List Int}(h:DI bs cap ws none Th T c){z:DQ}(h0:z.base=bs)(h1:z.cap=cap)(h2:z.ok=false)(h3:z.at_=0)(h4:z.ended=false):DI bs cap ws (some (false,z)) Th T c:=
 ⟨h.db,⟨h0,h1,h4,h2,by omega,fun _=>by omega,fun _=>by omega,fun _=>by omega⟩,h.th⟩
theorem DI.pop{bs:Nat}{cap:Int}{ws:List Int}{Th:DQ→Prop}{T:Nat}{c:List Int}(h:DI bs cap ws none Th T c){z:DQ}(h0:z.base=bs)(h1:z.cap=cap)(h2:z.ok=false)(h3:z.at_=0)(h4:z.ended=false):DI bs cap ws (some (true,z)) Th T c:=by
 refine⟨?_,⟨h0,h1,h4,by omega,fun _=>h2,fun _=>by omega,fun _=>by omega,fun _=>by omega,fun _=>by omega⟩,h.th⟩;rw[show uP (some (true,z))=0 by simp[uP,h3]];exact h.db
theorem DB.more{bs:Nat}{cap:Int}{ws:List Int}{T:Nat}{c:List Int}(h:DB bs cap ws 0 T c){n:Int}(hf:c.length<rm cap)(hn:ws.getD (bs+2+(T+c.length) % rm cap) 0=n):DB bs cap (ws.set (bs+1) ((T+c.length+1:Nat):Int)) 0 T (c++[n]):=by
 have hr:=wC cap;have hl:=h.len;refine⟨by simpa using hl,?_,h.t1,?_,by simp;omega,fun i hi=>?_⟩
 ·rw[iN,ag (by omega)];exact h.top
 ·rw[iN,if_pos ⟨rfl,by omega⟩];simp;omega
 ·have hm:(T+i) % rm cap<rm cap:=mU _ (by omega);rw[iN,ag (by omega)];simp only[bQ,sN]at hi
  by_cases hic:i<c.length
  ·rw[List.getElem_append_left hic];exact h.cH i hic
  ·obtain rfl:i=c.length:=by omega
   simpa using hn
theorem af6{bs:Nat}{cap:Int}{ws ws':List Int}{q q':DQ}{e:Bool}{Th:DQ→Prop}{T:Nat}{c:List Int}(h:DI bs cap ws (some (false,q)) Th T c)(eX:bs<1000000000)(hN:T+c.length<4000000000000000000)(hs:gH bJ q ws=(q',ws',e)):
  ws'.length=ws.length∧(∀a,¬(bs≤a∧a<bs+2+rm cap)→ws'.getD a 0=ws.getD a 0)∧q'.n=q.n∧q'.base=q.base∧((e=false∧DI bs cap ws' (some (false,q')) Th T c)∨(e=true∧q'.ok=false∧rm cap≤c.length∧DI bs cap ws' none Th T c)∨(e=true∧q'.ok=true∧c.length<rm cap∧DI bs cap ws' none Th T (c++[q.n]))):=by
 have hr:=wC cap;have ho:Jt bs cap ws T c q:=h.ow;have fO:DB bs cap ws 0 T c:=h.db;have hl:=fO.len;obtain⟨base,jH,n,ok,ended,at_,b,t,x⟩:=q;obtain⟨e1,e2,e3,e4,h3,hb,oY,uQ⟩:=ho;dsimp only at e1 e2 e3 e4 h3 hb oY uQ hs;subst e1 e2 e3 e4;have h3:at_=0∨at_=1∨at_=2∨at_=3:=by omega
 rcases h3 with rfl | rfl | rfl | rfl
 ·simp only[gH,yf eX,s5,fO.bot]at hs;simp at hs;obtain⟨rfl,rfl,rfl⟩:=hs;exact⟨rfl,fun _ _=>rfl,rfl,rfl,.inl ⟨rfl,fO,⟨rfl,rfl,rfl,rfl,by simp,fun _=>rfl,fun h=>absurd h (by simp),fun h=>absurd h (by simp)⟩,h.th⟩⟩
 ·have hb:=hb (aQ _);subst hb
  have e1:wr (wu (((T+c.length:Nat):Int)-(T:Int)))=(c.length:Nat):=by
   rw[show ((T+c.length:Nat):Int)-(T:Int)=(c.length:Nat) by omega,EL (by omega),qa (by omega)]
  by_cases hf:rm jH≤c.length
  ·simp only[gH,s5,fO.top,e1]at hs;simp[hf]at hs;obtain⟨rfl,rfl,rfl⟩:=hs;exact⟨rfl,fun _ _=>rfl,rfl,rfl,.inr (.inl ⟨rfl,rfl,hf,fO,trivial,h.th⟩)⟩
  ·simp only[gH,s5,fO.top,e1]at hs;simp[hf]at hs;obtain⟨rfl,rfl,rfl⟩:=hs;exact⟨rfl,fun _ _=>rfl,rfl,rfl,.inl ⟨rfl,fO,⟨rfl,rfl,rfl,rfl,by simp,fun _=>rfl,fun _=>by omega,fun h=>absurd h (by simp)⟩,h.th⟩⟩
 ·have hb:=hb (by omega);have oY:=oY (aQ _);subst hb;have hm:(T+c.length) % rm jH<rm jH:=mU _ (by omega);simp only[gH,HR eX,EM]at hs;simp at hs;obtain⟨rfl,rfl,rfl⟩:=hs
  have hd:DB bs jH (ws.set (bs+2+(T+c.length) % rm jH) n) 0 T c:=by
   refine⟨by simpa using hl,?_,fO.t1,?_,fO.fits,fun i hi=>?_⟩
   ·rw[iN,ag (by omega)];exact fO.top
   ·rw[iN,ag (by omega)];exact fO.bot
   ·have:=Wl (a:=T+i) (c:=T+c.length) (m:=rm jH) (by omega) (by omega);rw[iN,ag (by omega)];exact fO.cH i hi
  refine⟨by simp,fun a ha=>?_,rfl,rfl,.inl ⟨rfl,hd,⟨rfl,rfl,rfl,rfl,by simp,fun _=>rfl,fun _=>oY,fun _=>?_⟩,h.th⟩⟩
  ·rw[iN,ag (by omega)]
  ·rw[iN,af ⟨rfl,by omega⟩]
 ·have hb:=hb (by omega);have oY:=oY (by omega);have uQ:=uQ rfl;subst hb;have e1:wu (((T+c.length:Nat):Int)+1)=((T+c.length+1:Nat):Int):=EL (n:=T+c.length+1) (by omega);simp only[gH,yf eX,e1,EM]at hs;simp only[my,↓reduceIte,Nat.reduceEqDiff,Prod.mk.injEq]at hs;obtain⟨rfl,rfl,rfl⟩:=hs;refine⟨by simp,fun a ha=>?_,rfl,rfl,.inr (.inr ⟨rfl,rfl,oY,fO.more oY uQ,trivial,fun z hz fY=>?_⟩)⟩
  ·rw[iN,ag (by omega)]
  ·have:=h.th z hz fY;refine⟨this.base,this.cp,this.no,this.AX,fun h1=>?_⟩;obtain⟨t,a1,a2,a3,a4⟩:=this.t h1;refine⟨t,a1,a2,fun _ _=>by simp,fun h5 h6=>?_⟩;have:=a4 h5 h6;cases c with
   |nil=>cases this
   |cons y c=>exact this
theorem agV{bs:Nat}{cap:Int}{ws ws':List Int}{q q':DQ}{e:Bool}{Th:DQ→Prop}{T:Nat}{c:List Int}(h:DI bs cap ws (some (true,q)) Th T c)(eX:bs<1000000000)(hN:T+c.length<4000000000000000000)(hs:fK bJ q ws=(q',ws',e)):
  ws'.length=ws.length∧(∀a,¬(bs≤a∧a<bs+2+rm cap)→ws'.getD a 0=ws.getD a 0)∧q'.base=q.base∧
  ((e=false∧(q.at_=5→False)∧(q'.at_=5→q'.ok=false)∧DI bs cap ws' (some (true,q')) Th T c)∨
   (e=false∧q'.at_=5∧q'.ok=true∧c=[q'.x]∧DI bs cap ws' (some (true,q')) Th (T+1) [])∨
   (e=true∧q'.ok=false∧(q.at_=5→q.ok=false)∧c=[]∧DI bs cap ws' none Th T c)∨
   (e=true∧q'.ok=true∧q.at_=3∧∃c',c=c'++[q'.n]∧DI bs cap ws' none Th T c')∨
   (e=true∧q'.ok=true∧q.at_=5∧q.ok=true∧q'.n=q.x∧c=[]∧DI bs cap ws' none Th T [])):=by
 have hr:=wC cap;have ho:Ah bs cap Th T c q:=h.ow;have fO:=h.db;have hl:=fO.len;have FY:=fO.t1;have qn:=fO.fits;obtain⟨base,jH,n,ok,ended,at_,b,t,x⟩:=q;obtain⟨e1,e2,e3,h5,kJ,hb,ha3,ha4,ha5⟩:=ho;dsimp only at e1 e2 e3 h5 kJ hb ha3 ha4 ha5 hs;subst e1 e2 e3;have h5:at_=0∨at_=1∨at_=2∨at_=3∨at_=4∨at_=5:=by omega
 have ajh:((T+c.length:Nat):Int)-1=((T+c.length-1:Nat):Int):=by omega
 have EX:wu (((T+c.length-1:Nat):Int)+1)=((T+c.length:Nat):Int):=by
  rw[show ((T+c.length-1:Nat):Int)+1=((T+c.length:Nat):Int) by omega,EL (by omega)]
 rcases h5 with rfl | rfl | rfl | rfl | rfl | rfl
 ·have kJ:ok=false:=kJ (by omega);subst kJ;have hd:DB bs jH ws 0 T c:=fO;have hbt:=hd.bot;have e1:wu (((T+c.length:Nat):Int)-1)=((T+c.length-1:Nat):Int):=by rw[ajh,EL (by omega)]
  simp only[fK,yf eX,s5,hbt,Nat.sub_zero,e1]at hs;simp at hs;obtain⟨rfl,rfl,rfl⟩:=hs;exact⟨rfl,fun _ _=>rfl,rfl,.inl ⟨rfl,by simp,by simp,hd,⟨rfl,rfl,rfl,by simp,fun _=>rfl,fun _=>rfl,fun h=>absurd h (by simp),fun h=>absurd h (by simp),fun h=>absurd h (by simp)⟩,h.th⟩⟩
 ·have kJ:ok=false:=kJ (by omega);subst kJ;have hd:DB bs jH ws 0 T c:=fO;have hb:=hb (aQ _);subst hb;simp only[fK,yf eX,EM]at hs;simp only[my,↓reduceIte,Nat.reduceEqDiff,Prod.mk.injEq]at hs;simp at hs;obtain⟨rfl,rfl,rfl⟩:=hs;refine⟨by simp,fun a ha=>?_,rfl,.inl ⟨rfl,by simp,by simp,⟨by simpa using hl,?_,FY,?_,qn,fun i hi=>?_⟩,⟨rfl,rfl,rfl,by simp,fun _=>rfl,fun _=>rfl,fun h=>absurd h (by simp),fun h=>absurd h (by simp),fun h=>absurd h (by simp)⟩,h.th⟩⟩
  ·rw[iN,ag (by omega)]
  ·rw[iN,ag (by omega)];exact hd.top
  ·rw[iN,af ⟨rfl,by omega⟩];rfl
  ·have hm:(T+i) % rm jH<rm jH:=mU _ (by omega);rw[iN,ag (by omega)];exact hd.cH i hi
 ·have kJ:ok=false:=kJ (by omega);subst kJ;have hd:DB bs jH ws 1 T c:=fO;have hb:=hb (by omega);subst hb;simp only[fK,s5,hd.top]at hs;simp at hs;obtain⟨rfl,rfl,rfl⟩:=hs;refine⟨rfl,fun _ _=>rfl,rfl,.inl ⟨rfl,by simp,by simp,hd,⟨rfl,rfl,rfl,by simp,fun _=>rfl,fun _=>rfl,fun _=>⟨T,rfl,Nat.le_refl _,fun h5=>⟨by omega,fun z hz fY mQ=>?_⟩⟩,fun h=>absurd h (by simp),fun h=>absurd h (by simp)⟩,h.th⟩⟩;obtain⟨t,a1,a2,_⟩:=(h.th z hz fY).t (by omega);rw[a1];omega
 ·have kJ:ok=false:=kJ (by omega);subst kJ;have hd:DB bs jH ws 1 T c:=fO;have hb:=hb (by omega);subst hb;obtain⟨tt,rfl,CD,fB⟩:=ha3 rfl
  by_cases h1:T+c.length-1<tt
  ·have hc:c=[]:=iz.1 (by omega);subst hc;simp only[fK,qa (n:=T+([]:List Int).length-1) (by omega),qa (n:=tt) (by omega),yf eX,EM,EX]at hs;have h1:T-1<tt:=h1;simp[h1]at hs;obtain⟨rfl,rfl,rfl⟩:=hs;refine⟨by simp,fun a ha=>?_,rfl,.inr (.inr (.inl ⟨rfl,rfl,by simp,rfl,⟨by simpa using hl,?_,FY,?_,qn,fun i hi=>absurd hi (by simp)⟩,trivial,h.th⟩))⟩
   ·rw[iN,ag (by omega)]
   ·rw[iN,ag (by omega)];exact hd.top
   ·rw[iN,af ⟨rfl,by omega⟩];rfl
  ·have e1:¬((T+c.length-1:Nat):Int)<(tt:Int):=by omega
   by_cases h2:tt<T+c.length-1
   ·have e2:(tt:Int)<((T+c.length-1:Nat):Int):=by omega
    simp only[fK,qa (n:=T+c.length-1) (by omega),qa (n:=tt) (by omega),ag e1,af e2,HR eX,s5]at hs;simp only[my,↓reduceIte,Nat.reduceEqDiff,Prod.mk.injEq]at hs;obtain⟨rfl,rfl,rfl⟩:=hs;obtain⟨iY,tD⟩:=fB h2;have aS:c≠[]:=fun h=>by subst h;simp at iY
    have N8:ws.getD (bs+2+(T+c.length-1) % rm jH) 0=c.getLast aS:=by
     rw[show T+c.length-1=T+(c.length-1) by omega,hd.cH (c.length-1) (by omega),List.getLast_eq_getElem]
    refine⟨rfl,fun _ _=>rfl,rfl,.inr (.inr (.inr (.inl ⟨rfl,rfl,rfl,c.dropLast,?_,⟨hl,hd.top,FY,?_,by simp;omega,fun i hi=>?_⟩,trivial,fun z hz fY=>?_⟩)))⟩
    ·dsimp only;rw[N8];exact (List.dropLast_concat_getLast aS).symm
    ·rw[hd.bot,List.length_dropLast];show ((T+c.length-1:Nat):Int)=((T+(c.length-1)-0:Nat):Int);omega
    ·rw[List.getElem_dropLast];exact hd.cH i (by simp at hi;omega)
    ·have iv:=h.th z hz fY;refine⟨iv.base,iv.cp,iv.no,iv.AX,fun mQ=>?_⟩;obtain⟨t,a1,a2,a3,a4⟩:=iv.t mQ;have hz4:2≤z.at_→(t:Int)<((T+c.length-1:Nat):Int):=fun h=>a1▸tD z hz fY h;refine⟨t,a1,a2,fun h6 h7=>?_,fun h6 h7=>?_⟩
     ·have:=hz4 h6;simp;omega
     ·have:=hz4 (by omega);have h8:=a4 h6 h7
      match c,h8,iY,this,h7 with
      | [y],_,_,h9,AI=>simp at h9;omega
      |y::y2::c,h8,_,_,_=>exact h8
   ·have e2:¬(tt:Int)<((T+c.length-1:Nat):Int):=by omega
    simp only[fK,qa (n:=T+c.length-1) (by omega),qa (n:=tt) (by omega),ag e1,ag e2,HR eX,s5]at hs;simp only[my,↓reduceIte,Nat.reduceEqDiff,Prod.mk.injEq]at hs;obtain⟨rfl,rfl,rfl⟩:=hs;refine⟨rfl,fun _ _=>rfl,rfl,.inl ⟨rfl,by simp,by simp,hd,⟨rfl,rfl,rfl,by simp,fun _=>rfl,fun _=>rfl,fun h=>absurd h (by simp),fun _=>⟨?_,by omega,fun y hy=>?_⟩,fun h=>absurd h (by simp)⟩,h.th⟩⟩
    ·show (tt:Int)=((T+c.length-1:Nat):Int);omega
    ·have eQ:c.length≤1:=by omega
     match c,eQ,hy with
     | [y2],_,hy=>
      have:=hd.cH 0 (by simp);simp at hy this;subst hy;show y=ws.getD (bs+2+(T+1-1) % rm jH) 0;rw[gq2,aZ];exact this.symm
 ·have kJ:ok=false:=kJ (by omega);subst kJ;have hd:DB bs jH ws 1 T c:=fO;have hb:=hb (by omega);subst hb;obtain⟨rfl,iY,hx⟩:=ha4 rfl;obtain⟨k1,k2⟩:=IN (ws:=ws) (a:=bs) (by omega) ((T+c.length-1:Nat):Int) ((T+c.length:Nat):Int);rw[hd.top]at k1 k2;simp only[fK,EX,k1,k2]at hs
  match c,iY with
  | [],_=>
   have h2:¬((T:Int)=((T+([]:List Int).length-1:Nat):Int)):=by simp;omega
   simp only[ag h2,cf h2]at hs;simp only[my,↓reduceIte,Nat.reduceEqDiff,Prod.mk.injEq]at hs;obtain⟨rfl,rfl,rfl⟩:=hs;exact⟨rfl,fun _ _=>rfl,rfl,.inl ⟨rfl,by simp,fun _=>rfl,hd,⟨rfl,rfl,rfl,by simp,fun _=>rfl,fun _=>rfl,fun h=>absurd h (by simp),fun h=>absurd h (by simp),fun _=>rfl⟩,h.th⟩⟩
  | [y],_=>
   have h2:((T:Int)=((T+([y]:List Int).length-1:Nat):Int)):=by simp
   obtain rfl:y=x:=hx y (by simp);simp only[af h2,bu h2]at hs;simp only[my,↓reduceIte,Nat.reduceEqDiff,Prod.mk.injEq]at hs;obtain⟨rfl,rfl,rfl⟩:=hs;refine⟨by simp,fun a ha=>?_,rfl,.inr (.inl ⟨rfl,rfl,rfl,rfl,⟨by simpa using hl,?_,by omega,?_,by simp,fun i hi=>absurd hi (by simp)⟩,⟨rfl,rfl,rfl,by simp,fun h=>absurd h (by simp),fun _=>by simp,fun h=>absurd h (by simp),fun h=>absurd h (by simp),fun _=>rfl⟩,fun z hz fY=>?_⟩)⟩
   ·rw[iN,ag (by omega)]
   ·rw[iN,if_pos ⟨rfl,by omega⟩];simp
   ·rw[iN,if_neg (by omega),hd.bot];simp[uP]
   ·have iv:=h.th z hz fY;refine⟨iv.base,iv.cp,iv.no,iv.AX,fun mQ=>?_⟩;obtain⟨t,a1,a2,a3,a4⟩:=iv.t mQ;exact⟨t,a1,by omega,fun _ h=>by omega,fun _ h=>by omega⟩
 ·have hd:DB bs jH ws 1 T c:=fO;have hb:=hb (by omega);have hc:=ha5 rfl;subst hc hb;simp only[fK,EX,yf eX,EM]at hs;simp only[my,↓reduceIte,Nat.reduceEqDiff,Prod.mk.injEq]at hs;obtain⟨rfl,rfl,rfl⟩:=hs
  have mS:DI bs jH (ws.set (bs+1) ((T+([]:List Int).length:Nat):Int)) none Th T []:=by
   refine⟨⟨by simpa using hl,?_,FY,?_,by simp,fun i hi=>absurd hi (by simp)⟩,trivial,h.th⟩
   ·rw[iN,ag (by omega)];exact hd.top
   ·rw[iN,af ⟨rfl,by omega⟩];rfl
  refine⟨by simp,fun a ha=>by rw[iN,if_neg (by omega)],rfl,?_⟩;cases ok with
  |true=>exact .inr (.inr (.inr (.inr ⟨rfl,rfl,rfl,rfl,rfl,rfl,mS⟩)))
  |false=>exact .inr (.inr (.inl ⟨rfl,rfl,fun _=>rfl,rfl,mS⟩))
theorem acx{bs:Nat}{cap:Int}{ws ws':List Int}{q q':DQ}{e:Bool}{own:Own}{Th:DQ→Prop}{T:Nat}{c:List Int}(h:DI bs cap ws own Th T c)(hq:Th q)(mn:q.ended=false)(eX:bs<1000000000)(hN:T+c.length<4000000000000000000)(hs:gU bJ q ws=(q',ws',e)):
  ws'.length=ws.length∧(∀a,¬(bs≤a∧a<bs+2+rm cap)→ws'.getD a 0=ws.getD a 0)∧q'.base=q.base∧
  ((e=false∧q'.ended=false∧DI bs cap ws' own (fun z=>Th z∨z=q') T c)∨(e=true∧q'.ok=false∧DI bs cap ws' own Th T c)∨(e=true∧q'.ok=true∧∃c',c=q'.n::c'∧DI bs cap ws' own Th (T+1) c')):=by
 have hr:=wC cap;have hz:=h.th q hq mn;have fO:=h.db;have hl:=fO.len;have FY:=fO.t1;have qn:=fO.fits;have Ab:=fO.top;have Ci:=fO.bot;have tD:=h.th;have jY:=h.ow;obtain⟨base,jH,n,ok,ended,at_,b,t,x⟩:=q;obtain⟨e1,e2,e3,h3,ht⟩:=hz;dsimp only at e1 e2 e3 h3 ht hs mn;subst e1 e2 e3 mn;have h3:at_=0∨at_=1∨at_=2∨at_=3:=by omega
 have fB:uP own≤1:=by unfold uP;split <;> (try split) <;> omega
 rcases h3 with rfl | rfl | rfl | rfl
 ·simp only[gU,s5,Ab]at hs;simp at hs;obtain⟨rfl,rfl,rfl⟩:=hs;refine⟨rfl,fun _ _=>rfl,rfl,.inl ⟨rfl,rfl,fO,jY.rb fun z hz _ ha=>?_,fun z hz fY=>?_⟩⟩
  ·rcases hz with hz | rfl
   ·exact hz
   ·simp at ha
  ·rcases hz with hz | rfl
   ·exact tD z hz fY
   ·exact⟨rfl,rfl,rfl,by simp,fun _=>⟨T,rfl,Nat.le_refl _,fun h=>absurd h (by simp),fun h=>absurd h (by simp)⟩⟩
 ·obtain⟨tt,rfl,CD,_,_⟩:=ht (aQ _);clear ht;have hbw:=qa (n:=T+c.length-uP own) (AL (Nat.sub_le _ _) (Gz hN (by decide)));have htw:=qa (n:=tt) (AL CD (AL (GG T c.length) (Gz hN (by decide))))
  by_cases h1:T+c.length-uP own≤tt
  ·simp only[gU,yf eX,s5,Ci,hbw,htw]at hs;simp[h1]at hs;obtain⟨rfl,rfl,rfl⟩:=hs;exact⟨rfl,fun _ _=>rfl,rfl,.inr (.inl ⟨rfl,rfl,h⟩)⟩
  ·simp only[gU,yf eX,s5,Ci,hbw,htw]at hs;simp[h1]at hs;obtain⟨rfl,rfl,rfl⟩:=hs;refine⟨rfl,fun _ _=>rfl,rfl,.inl ⟨rfl,rfl,fO,?_,fun z hz fY=>?_⟩⟩
   ·match own,jY,h1 with
    |none,_,_=>trivial
    |some (false,p),hp,_=>exact hp
    |some (true,p),hp,h1=>
     have hp:Ah bs jH Th T c p:=hp;refine⟨hp.base,hp.cp,hp.on,hp.Ln,hp.no,hp.b,fun p3=>?_,hp.a4,hp.a5⟩;obtain⟨t3,b1,b2,b3⟩:=hp.a3 p3;refine⟨t3,b1,b2,fun h5=>⟨(b3 h5).1,fun z hz fY mQ=>?_⟩⟩
     rcases hz with hz | rfl
     ·exact (b3 h5).2 z hz fY mQ
     ·have e1:uP (some (true,p))=1:=by simp[uP,p3]
      rw[e1]at h1;show (tt:Int)<((T+c.length-1:Nat):Int);omega
   ·rcases hz with hz | rfl
    ·exact tD z hz fY
    ·exact⟨rfl,rfl,rfl,by simp,fun _=>⟨tt,rfl,CD,fun _ h6=>by omega,fun h=>absurd h (by simp)⟩⟩
 ·obtain⟨tt,rfl,CD,ha,_⟩:=ht (by decide);clear ht;have ha:=ha (aQ _);simp only[gU,HR eX,s5]at hs;simp only[my,↓reduceIte,Nat.reduceEqDiff,Prod.mk.injEq]at hs;obtain⟨rfl,rfl,rfl⟩:=hs;refine⟨rfl,fun _ _=>rfl,rfl,.inl ⟨rfl,rfl,fO,?_,fun z hz fY=>?_⟩⟩
  ·match own,jY with
   |none,_=>trivial
   |some (false,p),hp=>exact hp
   |some (true,p),hp=>
    have hp:Ah bs jH Th T c p:=hp;refine⟨hp.base,hp.cp,hp.on,hp.Ln,hp.no,hp.b,fun p3=>?_,hp.a4,hp.a5⟩;obtain⟨t3,b1,b2,b3⟩:=hp.a3 p3;refine⟨t3,b1,b2,fun h5=>⟨(b3 h5).1,fun z hz fY mQ=>?_⟩⟩
    rcases hz with hz | rfl
    ·exact (b3 h5).2 z hz fY mQ
    ·have h9:(tt:Int)<((T+c.length-1:Nat):Int):=(b3 h5).2 _ hq rfl (aQ _);exact h9
  ·rcases hz with hz | rfl
   ·exact tD z hz fY
   ·refine⟨rfl,rfl,rfl,by simp,fun _=>⟨tt,rfl,CD,fun _ h6=>ha h6,fun _ h6=>?_⟩⟩;have hc:=ha h6;subst h6;have:ws.getD (bs+2+tt % rm jH) 0=c[0]:=fO.cH 0 hc;show c.head?=some (ws.getD (bs+2+tt % rm jH) 0);rw[this,List.head?_eq_getElem?,bB hc]
 ·obtain⟨tt,rfl,CD,ha,hb⟩:=ht (by decide);clear ht;have ha:=ha (by omega);have hb:=hb rfl;have e0:wu ((tt:Int)+1)=((tt+1:Nat):Int):=EL (n:=tt+1) (by omega);obtain⟨k1,k2⟩:=IN (ws:=ws) (a:=bs) (by omega) (tt:Int) ((tt+1:Nat):Int);rw[Ab]at k1 k2;simp only[gU,e0,k1,k2]at hs
  by_cases h1:(T:Int)=tt
  ·simp only[af h1,bu h1]at hs;simp only[my,↓reduceIte,Nat.reduceEqDiff,Prod.mk.injEq]at hs;obtain⟨rfl,rfl,rfl⟩:=hs;obtain rfl:tt=T:=by omega
   have hc:=ha rfl;have hx:=hb rfl
   match c,hc,hx,qn,fO,tD,jY,Ci with
   |y::c,_,hx,qn,fO,tD,jY,Ci=>
    obtain rfl:y=x:=by simpa using hx
    simp only[gj]at qn Ci;refine⟨by simp,fun a ha=>by rw[iN,if_neg (by omega)],rfl,.inr (.inr ⟨rfl,rfl,c,rfl,⟨by simpa using hl,?_,by omega,?_,by omega,fun i hi=>?_⟩,?_,fun z hz fY=>?_⟩)⟩
    ·rw[iN,af ⟨rfl,by omega⟩]
    ·rw[iN,ag (by omega),Ci];congr 1;omega
    ·rw[iN,ag (by omega),show tt+1+i=tt+(i+1) by omega];exact fO.cH (i+1) (by simp;omega)
    ·match own,jY with
     |none,_=>trivial
     |some (false,p),hp=>
      have hp:Jt bs jH ws tt (y::c) p:=hp;have el:tt+(y::c).length=tt+1+c.length:=by simp;omega
      refine⟨hp.base,hp.cp,hp.on,hp.no,hp.AX,fun h=>by rw[hp.b h,el],fun h=>by have:=hp.room h;simp at this;omega,fun h=>?_⟩;have:=hp.put h;rw[el]at this;rw[iN,ag (by omega)];exact this
     |some (true,p),hp=>
      have hp:Ah bs jH Th tt (y::c) p:=hp;have el:tt+(y::c).length=tt+1+c.length:=by simp;omega
      refine⟨hp.base,hp.cp,hp.on,hp.Ln,hp.no,fun h=>by rw[hp.b h,el],fun h=>?_,fun h=>?_,fun h=>absurd (hp.a5 h) (by simp)⟩
      ·obtain⟨t3,b1,b2,b3⟩:=hp.a3 h;rw[el]at b3;refine⟨t3,b1,by omega,fun h5=>⟨?_,(b3 h5).2⟩⟩;have:=(b3 h5).2 _ hq rfl (by simp);have:(tt:Int)<((tt+1+c.length-1:Nat):Int):=this;omega
      ·obtain⟨b1,b2,b3⟩:=hp.a4 h;simp at b2;subst b2;exact⟨b1,by simp,by simp⟩
    ·have iv:=tD z hz fY;refine⟨iv.base,iv.cp,iv.no,iv.AX,fun mQ=>?_⟩;obtain⟨t,a1,a2,a3,a4⟩:=iv.t mQ;exact⟨t,a1,by omega,fun _ h=>by omega,fun _ h=>by omega⟩
  ·simp only[ag h1,cf h1]at hs;simp only[my,↓reduceIte,Nat.reduceEqDiff,Prod.mk.injEq]at hs;obtain⟨rfl,rfl,rfl⟩:=hs;exact⟨rfl,fun _ _=>rfl,rfl,.inr (.inl ⟨rfl,rfl,h⟩)⟩
set_option maxHeartbeats 4000000
theorem Dg{what w:Int}(h:what=1∨what=2∨what=3){i:Nat}{x:Int}(hx:gd what w i x):da what x x=x:=by
 obtain⟨sw,iJ⟩:=hx;obtain⟨a,rfl⟩:=mY sw.1;have ha:a<18446744073709551616:=by have:=sw.2;omega
 rcases h with rfl | rfl | rfl
 ·rw[show da 1 (a:Int) a=bits .or .u64 (a:Int) a from rfl,tX ha ha,Nat.or_self]
 ·rw[show da 2 (a:Int) a=bits .and .u64 (a:Int) a from rfl,rP ha ha,Nat.and_self]
 ·rw[af rfl]at iJ;rw[r7,xV iJ iJ,Bw]
theorem ZG{what w:Int}(h:what=1∨what=2∨what=3){i:Nat}{x y:Int}(hx:gd what w i x)(hy:gd what w i y):da what x y=da what y x:=by
 obtain⟨sw,iJ⟩:=hx;obtain⟨u0,xd⟩:=hy;obtain⟨a,rfl⟩:=mY sw.1;obtain⟨b,rfl⟩:=mY u0.1;have ha:a<18446744073709551616:=by have:=sw.2;omega
 have hb:b<18446744073709551616:=by have:=u0.2;omega
 rcases h with rfl | rfl | rfl
 ·show bits .or .u64 (a:Int) b=bits .or .u64 (b:Int) a;rw[tX ha hb,tX hb ha,Nat.or_comm]
 ·show bits .and .u64 (a:Int) b=bits .and .u64 (b:Int) a;rw[rP ha hb,rP hb ha,Nat.and_comm]
 ·rw[af rfl]at iJ xd;rw[r7,r7,xV iJ xd,xV xd iJ,Iv]
theorem YR{what w:Int}(h:what=1∨what=2∨what=3){i:Nat}{x y z:Int}(hx:gd what w i x)(hy:gd what w i y)(hz:gd what w i z):da what (da what x y) z=da what x (da what y z):=by
 have aU:=(Dh h hx hy).2;have FR:=(Dh h hy hz).2;obtain⟨sw,iJ⟩:=hx;obtain⟨u0,xd⟩:=hy;obtain⟨Cx,fY⟩:=hz;obtain⟨a,rfl⟩:=mY sw.1;obtain⟨b,rfl⟩:=mY u0.1;obtain⟨c,rfl⟩:=mY Cx.1;have ha:a<18446744073709551616:=by have:=sw.2;omega
 have hb:b<18446744073709551616:=by have:=u0.2;omega
 have hc:c<18446744073709551616:=by have:=Cx.2;omega
 rcases h with rfl | rfl | rfl
 ·have h1:a ||| b<2 ^ 64:=KS ha hb
  have h2:b ||| c<2 ^ 64:=KS hb hc
  show bits .or .u64 (bits .or .u64 (a:Int) b) c=bits .or .u64 (a:Int) (bits .or .u64 (b:Int) c);rw[tX ha hb,tX hb hc,tX h1 hc,tX ha h2,Nat.or_assoc]
 ·have h1:a &&& b≤a:=GD;have h2:b &&& c≤b:=GD;show bits .and .u64 (bits .and .u64 (a:Int) b) c=bits .and .u64 (a:Int) (bits .and .u64 (b:Int) c);rw[rP ha hb,rP hb hc,rP (by omega) hc,rP ha (by omega),Nat.and_assoc]
 ·rw[af rfl]at iJ xd fY aU FR;rw[r7]at aU FR;rw[r7,r7,r7,r7];rw[xV aU fY,xV iJ FR,xV iJ xd,xV xd fY,Ux]
theorem s7(a:List Int)(i:Nat):a.getD i 0=wd a i:=by rw[aZ];rfl
section
variable {s:Sy} {l:Lay} (hs:LS s l)
include hs
theorem LS.On:eG s.what s.w=(nW l:Int):=by have:=hs.words;have:=hs.ww;omega
theorem LS.sh{a:List Int}:eS s.what s.w a↔(a.length=nW l∧∀i,i<nW l→gd s.what s.w i (a.getD i 0)):=by
 rw[Hr hs.im.sr,hs.On];constructor
 ·rintro⟨h1,h2⟩;have h1:a.length=nW l:=by omega
  exact⟨h1,fun i hi=>by rw[s7];exact h2 i (by omega)⟩
 ·rintro⟨h1,h2⟩;exact⟨by omega,fun i hi=>by rw[← s7];exact h2 i (by omega)⟩
theorem LS.yM{a b:List Int}(ha:eS s.what s.w a)(hb:eS s.what s.w b):dG s.what s.w a b↔∀i,i<nW l→da s.what (a.getD i 0) (b.getD i 0)=b.getD i 0:=by
 have la:=((hs.sh).1 ha).1;have lb:=((hs.sh).1 hb).1;constructor
 ·intro h i hi;rw[s7,s7,← zD (by omega) (by omega),h.2.2]
 ·intro h;refine⟨ha,hb,zH ?_ fun i hi=>?_⟩
  ·rw[jv (by omega)];omega
  ·rw[jv (by omega)]at hi;rw[zD hi (by omega),← s7,← s7];exact h i (by omega)
theorem LS.XJ{v:Nat}(hv:v<nN s){y:List Int}(hy:eS s.what s.w y):eS s.what s.w (iS s y v):=
 (Mq hs.fit hs.im (dG.refl hy) (v:=v) (by have:=hs.nn;omega)).1
end
def xb(s:Sy)(v:Nat):List Nat:=(aw s.n s.aN v).map Int.toNat
theorem ah6{s:Sy}{v u:Nat}(h:u∈xb s v):u<nN s:=by
 obtain⟨z,hz,rfl⟩:=cX.1 h;obtain⟨hz,_⟩:=kL.1 hz;obtain⟨i,hi,rfl⟩:=cX.1 hz;rw[bG];exact fF.1 hi
theorem V7{s:Sy}{v:Int}{z:Int}(h:z∈aw s.n s.aN v):∃u:Nat,z=u∧u<nN s:=by
 obtain⟨hz,_⟩:=kL.1 h;obtain⟨i,hi,rfl⟩:=cX.1 hz;exact⟨i,rfl,fF.1 hi⟩
def cS(s:Sy)(l:Lay)(hs:LS s l):SX.AP where
 n:=nN s
 W:=nW l
 k:=l.k.toNat
 nx:=xb s
 jw:=da s.what
 out v y:=iS s y v
 ok i z:=gd s.what s.w i z
 EN _ h:=ah6 h
 idem h:=Dg hs.wz h
 comm h1 h2:=ZG hs.wz h1 h2
 assoc h1 h2 h3:=YR hs.wz h1 h2 h3
 O8 h1 h2:=Dh hs.wz h1 h2
 Ja hv h1 h2:=(hs.sh).1 (hs.XJ hv ((hs.sh).2 ⟨h1,h2⟩))
 mono:=fun {v y z} hv h1 h2 h3 h4 h5=>by
  have hy:=(hs.sh).2 ⟨h1,h3⟩;have hz:=(hs.sh).2 ⟨h2,h4⟩;have hl:=Mq hs.fit hs.im ((hs.yM hy hz).2 h5) (v:=v) (by have:=hs.nn;omega);exact (hs.yM hl.1 hl.2.1).1 hl
def Aq(does:Int)(node:Nat)(out:List Int)(u:Nat)(r:List Nat):SX.Ph:=
 if does=0 then .idle 0 0
 else if does=1 then .idle 1 0
 else if does=2 then .idle 2 0
 else if does=3 then .clear node
 else if does=4 then .read node []
 else if does=5 then .join node out u r 0 none false
 else if does=6 then .take node out u r
 else if does=7 then .push node out u r 0
 else .dK node
def phN(does:Int)(node:Nat)(out:List Int)(u:Nat)(r:List Nat):Nw→SX.Ph
 |.none=>Aq does node out u r
 |.pop q=>if q.at_=5∧q.ok=true then .held q.x.toNat else .idle 0 q.at_
 |.cu z=>.idle 1 z.at_
 |.quiet _=>.idle 2 0
 |.clear _=>.clear node
 |.read y=>.read node y
 |.join j=>.join node out u r j.at_ (if j.fM=true then some j.x else none) j.changed
 |.take t=>if t.j7=true then .add node out u r else .take node out u r
 |.push q=>.push node out u r q.at_
 |.dK _=>.dK node
def dC(x:WS):SX.Ph:=if x.en=true then .done else phN x.does x.node.toNat x.out (x.nx.headD 0).toNat (x.nx.tail.map Int.toNat) x.now
theorem Ud(l:Lay)(who d:Int)(x:WS):dC ⟨x.ev,x.jo,x.en,x.does,kN l who x d,x.node,x.has,x.nx,x.out⟩=dC x:=by
 unfold dC;dsimp only
 congr 1
 unfold kN;cases hn:x.now with
 |none=>
  dsimp only;show _=Aq _ _ _ _ _;unfold Aq
  by_cases h0:x.does=0
  ·rw[JX h0,af h0];rfl
  by_cases h1:x.does=1
  ·rw[JW h1,ag h0,af h1];rfl
  by_cases h2:x.does=2
  ·rw[JV h2,ag h0,ag h1,af h2];rfl
  by_cases h3:x.does=3
  ·rw[JU h3,ag h0,ag h1,ag h2,af h3];rfl
  by_cases h4:x.does=4
  ·rw[JT h4,ag h0,ag h1,ag h2,ag h3,af h4];rfl
  by_cases h5:x.does=5
  ·rw[JS h5,ag h0,ag h1,ag h2,ag h3,ag h4,af h5];rfl
  by_cases h6:x.does=6
  ·rw[JR h6,ag h0,ag h1,ag h2,ag h3,ag h4,ag h5,af h6];rfl
  by_cases h7:x.does=7
  ·rw[JQ h7,ag h0,ag h1,ag h2,ag h3,ag h4,ag h5,ag h6,af h7];rfl
  rw[JP h0 h1 h2 h3 h4 h5 h6 h7,ag h0,ag h1,ag h2,ag h3,ag h4,ag h5,ag h6,ag h7];rfl
 |_=>rfl
theorem Ed{ev jo:Int}{does node:Int}{has:Bool}{nx out:List Int}(hd:does=if nx.length=0 then 8 else 5):dC ⟨ev,jo,false,does,.none,node,has,nx,out⟩=SX.eV node.toNat out (nx.map Int.toNat):=by
 subst hd;cases nx with
 |nil=>rfl
 |cons u r=>rfl
abbrev ib(s:Sy)(l:Lay)(j:Nat):Nat:=nN s*nW l+nN s+1+j*(nN s+3)
def tb:Nw→Own
 |.pop q=>some (true,q)
 |.push q=>some (false,q)
 |_=>none
def l9(W:List WS)(j:Nat):Own:=match W[j]? with
 |some x=>tb x.now
 |none=>none
def mg(s:Sy)(l:Lay)(W:List WS)(j:Nat)(z:DQ):Prop:=∃(i:Nat) (x:WS),W[i]?=some x∧x.now=.cu z∧z.base=(ib s l j:Int)
abbrev jV(c:List Nat):List Int:=c.map fun v:Nat=>(v:Int)
def bV(s:Sy)(l:Lay)(W:List WS)(ws:List Int)(D:List (List Nat)):SX.AS where
 cell v i:=if v<nN s∧i<nW l then ws.getD (v*nW l+i) 0 else 0
 flag v:=decide (v<nN s∧¬ws.getD (nN s*nW l+v) 0=0)
 aH:=(ws.getD (nN s*nW l+nN s) 0).toNat
 dq:=D
 ph:=W.map dC
 ev:=SX.aI (fun x=>x.ev.toNat) W
 jo:=SX.aI (fun x=>x.jo.toNat) W
structure RJ(s:Sy)(l:Lay)(hs:LS s l)(W:List WS)(ws:List Int)(D:List (List Nat))(T:Nat→Nat)(M:Nat):Prop where
 len:(W.length:Int)=l.k
 fl:ws.length=om l
 lu:0≤ws.getD (nN s*nW l+nN s) 0
 dl:D.length=W.length
 di:∀(j:Nat) (c:List Nat),D[j]?=some c→DI (ib s l j) (eM l) ws (l9 W j) (mg s l W j) (T j) (jV c)
 top:∀j,T j≤M
 ev:∀x∈W,0≤x.ev∧x.ev≤M∧0≤x.jo∧x.jo≤M
 jn:∀x∈W,∀j,x.now=.join j→j.fM=true→da j.what j.x (wd j.a j.at_)≠j.x
 pn:∀x∈W,∀q,x.now=.push q→q.n=x.nx.headD 0
 ti:SX.TI (cS s l hs) (bV s l W ws D)
theorem Bu{W:List WS}{i:Nat}{x:WS}(h:W[i]?=some x):l9 W i=tb x.now:=by unfold l9;rw[h]
theorem Mp{W:List WS}{i:Nat}(hi:i<W.length)(x:WS)(j:Nat):l9 (W.set i x) j=if i=j then tb x.now else l9 W j:=by
 unfold l9;rw[eA]
 by_cases h:i=j
 ·subst h;rw[af rfl,af hi,af rfl]
 ·rw[ag h,ag h]
theorem oR{α:Type}{W:List α}{i:Nat}{x:α}(h:W[i]?=some x):W.set i x=W:=by
 refine AK fun j=>?_;rw[eA]
 by_cases hj:i=j
 ·subst hj;rw[af rfl,af (bZ.1 h).1,h]
 ·rw[ag hj]
theorem Ib{s:Sy}{l:Lay}{W:List WS}{i:Nat}{x:WS}{j:Nat}{z:DQ}(h:mg s l (W.set i x) j z):mg s l W j z∨(x.now=.cu z∧z.base=(ib s l j:Int)):=by
 obtain⟨k,y,hy,h1,h2⟩:=h;rw[eA]at hy
 by_cases hk:i=k
 ·subst hk;rw[af rfl]at hy;split at hy
  ·cases hy;exact .inr ⟨h1,h2⟩
  ·cases hy
 ·rw[ag hk]at hy;exact .inl ⟨k,y,hy,h1,h2⟩
theorem WC{N b i j:Nat}(h:i≠j){a:Nat}(h1:b+i*(N+3)≤a)(h2:a<b+i*(N+3)+2+(N+1)):¬(b+j*(N+3)≤a∧a<b+j*(N+3)+2+(N+1)):=by
 rintro⟨h3,h4⟩
 rcases Nat.lt_or_gt_of_ne h with h5 | h5
 ·have:=jm (N+3) (show i+1≤j by omega);rw[oH]at this;omega
 ·have:=jm (N+3) (show j+1≤i by omega);rw[oH]at this;omega
theorem A4{α:Type}{W:List α}{i:Nat}{x y:α}(h:y∈W.set i x):y∈W∨y=x:=qG h
section
variable {s:Sy} {l:Lay} {hs:LS s l} {W:List WS} {ws:List Int} {D:List (List Nat)} {T:Nat→Nat} {M:Nat}
theorem RJ.fin(hR:RJ s l hs W ws D T M){i:Nat}{x x':WS}(hx:W[i]?=some x){ws':List Int}{D':List (List Nat)}{T':Nat→Nat}(gD:ws'.length=ws.length)(hc:0≤ws'.getD (nN s*nW l+nN s) 0)(eK:D'.length=D.length)
  (lh:∀(j:Nat) (c:List Nat),D'[j]?=some c→DI (ib s l j) (eM l) ws' (l9 (W.set i x') j) (mg s l (W.set i x') j) (T' j) (jV c))
  (Ab:∀j,T' j≤M+1) (lT:x'.ev=x.ev∨x'.ev=x.ev+1) (nF:x'.jo=x.jo∨x'.jo=x.jo+1) (Ax:∀j,x'.now=.join j→j.fM=true→da j.what j.x (wd j.a j.at_)≠j.x) (tF:∀q,x'.now=.push q→q.n=x'.nx.headD 0)
  (rG:SX.Tr (cS s l hs) (bV s l W ws D) i (bV s l (W.set i x') ws' D')):RJ s l hs (W.set i x') ws' D' T' (M+1)∧SX.Tr (cS s l hs) (bV s l W ws D) i (bV s l (W.set i x') ws' D'):=by
 have h0:=hR.ev x (bU hx);refine⟨⟨by rw[cz];exact hR.len,gD.trans hR.fl,hc,by rw[cz,eK];exact hR.dl,lh,Ab,fun y hy=>?_,fun y hy=>?_,fun y hy=>?_,hR.ti.step rG⟩,rG⟩
 ·rcases A4 hy with hy | rfl
  ·have:=hR.ev y hy;omega
  ·omega
 ·rcases A4 hy with hy | rfl
  ·exact hR.jn y hy
  ·exact Ax
 ·rcases A4 hy with hy | rfl
  ·exact hR.pn y hy
  ·exact tF
theorem yj(hR:RJ s l hs W ws D T M){i:Nat}{x x':WS}(hx:W[i]?=some x){ws':List Int}{c':List Nat}{T':Nat}(gD:ws'.length=ws.length)
  (jG:∀a,¬(ib s l i≤a∧a<ib s l i+2+rm (eM l))→ws'.getD a 0=ws.getD a 0) (OD:∀z,x'.now≠.cu z)
  (hD:DI (ib s l i) (eM l) ws' (tb x'.now) (mg s l W i) T' (jV c')):∀(j:Nat) (c:List Nat),(D.set i c')[j]?=some c→DI (ib s l j) (eM l) ws' (l9 (W.set i x') j) (mg s l (W.set i x') j) (if j=i then T' else T j) (jV c):=by
 intro j c hj;have hi:=(bZ.1 hx).1
 have tD:∀z,mg s l (W.set i x') j z→mg s l W j z:=fun z hz=>by
  rcases Ib hz with h | h
  ·exact h
  ·exact absurd h.1 (OD z)
 rw[Mp hi];rw[eA]at hj
 by_cases h:i=j
 ·subst h;rw[af rfl,af (by rw[hR.dl];exact hi)]at hj;cases hj;rw[af rfl,af rfl];exact hD.rb tD
 ·rw[ag h]at hj;rw[ag h,ag (fun e=>h e.symm)];refine ((hR.di j c hj).GR gD fun a h1 h2=>?_).rb tD;rw[hs.room.2]at h2 jG;exact jG a (WC (fun e=>h e.symm) h1 h2)
theorem pX(hR:RJ s l hs W ws D T M){i:Nat}{x x':WS}(hx:W[i]?=some x){ws':List Int}(gD:ws'.length=ws.length)
  (jG:∀a,nN s*nW l+nN s+1≤a→ws'.getD a 0=ws.getD a 0) (OD:∀z,x'.now≠.cu z) (ho:tb x.now=tb x'.now) :
  ∀(j:Nat) (c:List Nat),D[j]?=some c→DI (ib s l j) (eM l) ws' (l9 (W.set i x') j) (mg s l (W.set i x') j) (T j) (jV c):=by
 intro j c hj;have hi:=(bZ.1 hx).1
 have e:l9 (W.set i x') j=l9 W j:=by
  rw[Mp hi]
  by_cases h:i=j
  ·subst h;rw[af rfl,Bu hx,ho]
  ·rw[ag h]
 rw[e];refine ((hR.di j c hj).GR gD fun a h1 h2=>jG a (by unfold ib at h1;omega)).rb fun z hz=>?_
 rcases Ib hz with h | h
 ·exact h
 ·exact absurd h.1 (OD z)
theorem IU(hR:RJ s l hs W ws D T M){i v:Nat}{x x':WS}{q':DQ}(hx:W[i]?=some x)(hv:v<D.length){ws':List Int}{c':List Nat}{T':Nat}(gD:ws'.length=ws.length)
  (jG:∀a,¬(ib s l v≤a∧a<ib s l v+2+rm (eM l))→ws'.getD a 0=ws.getD a 0) (aq:(x'.now=.cu q'∧q'.base=(ib s l v:Int))∨∀z,x'.now≠.cu z) (ho:tb x.now=tb x'.now)
  (hD:DI (ib s l v) (eM l) ws' (l9 W v) (fun z=>mg s l W v z∨(x'.now=.cu z∧z=q')) T' (jV c')):∀(j:Nat) (c:List Nat),(D.set v c')[j]?=some c→DI (ib s l j) (eM l) ws' (l9 (W.set i x') j) (mg s l (W.set i x') j) (if j=v then T' else T j) (jV c):=by
 intro j c hj;have hi:=(bZ.1 hx).1
 have e:l9 (W.set i x') j=l9 W j:=by
  rw[Mp hi]
  by_cases h:i=j
  ·subst h;rw[af rfl,Bu hx,ho]
  ·rw[ag h]
 rw[e];rw[eA]at hj
 by_cases h:v=j
 ·subst h;rw[af rfl,af hv]at hj;cases hj;rw[af rfl];refine hD.rb fun z hz=>?_
  rcases Ib hz with h | h
  ·exact .inl h
  ·refine .inr ⟨h.1,?_⟩
   rcases aq with h2 | h2
   ·have:=h.1.symm.trans h2.1;cases this;rfl
   ·exact absurd h.1 (h2 z)
 ·rw[ag h]at hj;rw[ag (fun e=>h e.symm)];refine ((hR.di j c hj).GR gD fun a h1 h2=>?_).rb fun z hz=>?_
  ·rw[hs.room.2]at h2 jG;exact jG a (WC (fun e=>h e.symm) h1 h2)
  ·rcases Ib hz with h3 | h3
   ·exact h3
   ·rcases aq with h2 | h2
    ·have h4:=h3.1.symm.trans h2.1;cases h4;have h5:=h3.2.symm.trans h2.2;have h6:j*(nN s+3)=v*(nN s+3):=by unfold ib at h5;omega
     exact absurd (Nat.eq_of_mul_eq_mul_right (by omega) h6).symm h
    ·exact absurd h3.1 (h2 z)
theorem B3{A B:SX.AS}(h1:∀v i,A.cell v i=B.cell v i)(h2:∀v,A.flag v=B.flag v)(h3:A.aH=B.aH)(h4:A.dq=B.dq)(h5:A.ph=B.ph)(h6:A.ev=B.ev)(h7:A.jo=B.jo):A=B:=by
 obtain⟨a1,a2,a3,a4,a5,a6,a7⟩:=A;obtain⟨b1,b2,b3,b4,b5,b6,b7⟩:=B;obtain rfl:a1=b1:=funext fun v=>funext fun i=>h1 v i;obtain rfl:a2=b2:=funext h2;cases h3;cases h4;cases h5;cases h6;cases h7;rfl
theorem vU{f:WS→Nat}{i:Nat}{x x':WS}(hx:W[i]?=some x)(h:f x'=f x):SX.aI f (W.set i x')=SX.aI f W:=by
 have:=SX.fu f W i x x' hx;omega
theorem mD{i:Nat}{x x':WS}(hx:W[i]?=some x){ws':List Int}(fB:∀a,a<nN s*nW l+nN s+1→ws'.getD a 0=ws.getD a 0)(lT:x'.ev=x.ev)(nF:x'.jo=x.jo)(D':List (List Nat)):
  bV s l (W.set i x') ws' D' = { bV s l W ws D with dq:=D',ph:=(bV s l W ws D).ph.set i (dC x') }:=by
 refine B3 (fun v j=>?_) (fun v=>?_) ?_ rfl ?_ ?_ ?_
 ·show (if _ then _ else _)=(if _ then _ else _)
  by_cases h:v<nN s∧j<nW l
  ·have:=ud h.1 h.2;rw[af h,af h,fB _ (by omega)]
  ·rw[ag h,ag h]
 ·show decide _=decide _
  by_cases h:v<nN s
  ·rw[fB _ (by omega)]
  ·rw[cf (fun e=>h e.1),cf (fun e=>h e.1)]
 ·show (ws'.getD _ 0).toNat=(ws.getD _ 0).toNat;rw[fB _ (by omega)]
 ·show (W.set i x').map dC=(W.map dC).set i (dC x');rw[oI]
 ·exact vU hx (by rw[lT])
 ·exact vU hx (by rw[nF])
theorem ni{i:Nat}{x:WS}(hx:W[i]?=some x):(bV s l W ws D).ph[i]?=some (dC x):=by
 show (W.map dC)[i]?=_;rw[fk,hx];rfl
theorem UT{i:Nat}{x x':WS}(hx:W[i]?=some x){ws':List Int}{u:Nat}{z:Int}(hu:u<nN s)(hl:nN s*nW l+u<ws.length)(hw:ws'=ws.set (nN s*nW l+u) z)(lT:x'.ev=x.ev)(nF:x'.jo=x.jo):
  bV s l (W.set i x') ws' D = { bV s l W ws D with flag:=fun v=>if v=u then decide (¬z=0) else (bV s l W ws D).flag v,ph:=(bV s l W ws D).ph.set i (dC x') }:=by
 subst hw;refine B3 (fun v j=>?_) (fun v=>?_) ?_ rfl ?_ ?_ ?_
 ·show (if _ then _ else _)=(if _ then _ else _)
  by_cases h:v<nN s∧j<nW l
  ·have:=ud h.1 h.2;rw[af h,af h,kp,ag (by omega)]
  ·rw[ag h,ag h]
 ·show decide _=if v=u then _ else decide _
  by_cases h:v=u
  ·subst h;rw[af rfl,kp,af ⟨rfl,hl⟩];simp[hu]
  ·rw[ag h,kp,ag (by omega)]
 ·show ((ws.set _ _).getD _ 0).toNat=(ws.getD _ 0).toNat;rw[kp,ag (by omega)]
 ·show (W.set i x').map dC=(W.map dC).set i (dC x');rw[oI]
 ·exact vU hx (by rw[lT])
 ·exact vU hx (by rw[nF])
theorem VT{i:Nat}{x x':WS}(hx:W[i]?=some x){ws':List Int}{z:Int}(hl:nN s*nW l+nN s<ws.length)(hw:ws'=ws.set (nN s*nW l+nN s) z)(lT:x'.ev=x.ev)(nF:x'.jo=x.jo):
  bV s l (W.set i x') ws' D = { bV s l W ws D with aH:=z.toNat,ph:=(bV s l W ws D).ph.set i (dC x') }:=by
 subst hw;refine B3 (fun v j=>?_) (fun v=>?_) ?_ rfl ?_ ?_ ?_
 ·show (if _ then _ else _)=(if _ then _ else _)
  by_cases h:v<nN s∧j<nW l
  ·have:=ud h.1 h.2;rw[af h,af h,kp,ag (by omega)]
  ·rw[ag h,ag h]
 ·show decide _=decide _
  by_cases h:v<nN s
  ·rw[kp,ag (by omega)]
  ·rw[cf (fun e=>h e.1),cf (fun e=>h e.1)]
 ·show ((ws.set _ _).getD _ 0).toNat=z.toNat;rw[kp,af ⟨rfl,hl⟩]
 ·show (W.set i x').map dC=(W.map dC).set i (dC x');rw[oI]
 ·exact vU hx (by rw[lT])
 ·exact vU hx (by rw[nF])
theorem ae7{i:Nat}{x x':WS}(hx:W[i]?=some x){ws':List Int}{u j:Nat}{z:Int}(hu:u<nN s)(hj:j<nW l)(hl:u*nW l+j<ws.length)(hw:ws'=ws.set (u*nW l+j) z)(lT:x'.ev=x.ev)(k:Nat)(nF:x'.jo.toNat=x.jo.toNat+k):
  bV s l (W.set i x') ws' D = { bV s l W ws D with cell:=SX.dF (bV s l W ws D).cell u j z,ph:=(bV s l W ws D).ph.set i (dC x'),jo:=(bV s l W ws D).jo+k }:=by
 subst hw;have h0:=ud hu hj;refine B3 (fun v t=>?_) (fun v=>?_) ?_ rfl ?_ ?_ ?_
 ·show (if _ then _ else _)=SX.dF _ _ _ _ _ _;unfold SX.dF
  by_cases h:v<nN s∧t<nW l
  ·rw[af h,kp]
   by_cases e:v=u∧t=j
   ·obtain⟨rfl,rfl⟩:=e;rw[af ⟨rfl,hl⟩,af ⟨rfl,rfl⟩]
   ·rw[ag e,ag fun h2=>e (UQ h.2 hj h2.1.symm)];show _=if _ then _ else _
    rw[af h]
  ·rw[ag h,ag (fun e=>h (by rw[e.1,e.2];exact⟨hu,hj⟩))];show _=if _ then _ else _
   rw[ag h]
 ·show decide _=decide _;rw[kp,ag (by omega)]
 ·show ((ws.set _ _).getD _ 0).toNat=(ws.getD _ 0).toNat;rw[kp,ag (by omega)]
 ·show (W.set i x').map dC=(W.map dC).set i (dC x');rw[oI]
 ·exact vU hx (by rw[lT])
 ·show SX.aI _ _=SX.aI _ _+k;have:=SX.fu (fun x:WS=>x.jo.toNat) W i x x' hx;omega
theorem ahr{i:Nat}{x x':WS}(hx:W[i]?=some x)(lT:x'.ev.toNat=x.ev.toNat+1)(nF:x'.jo=x.jo):
  bV s l (W.set i x') ws D = { bV s l W ws D with ph:=(bV s l W ws D).ph.set i (dC x'),ev:=(bV s l W ws D).ev+1 }:=by
 refine B3 (fun _ _=>rfl) (fun _=>rfl) rfl rfl ?_ ?_ ?_
 ·show (W.set i x').map dC=(W.map dC).set i (dC x');rw[oI]
 ·show SX.aI _ _=SX.aI _ _+1;have:=SX.fu (fun x:WS=>x.ev.toNat) W i x x' hx;omega
 ·exact vU hx (by rw[nF])
theorem ahq{i:Nat}{x x':WS}(hx:W[i]?=some x)(lT:x'.ev=x.ev)(k:Nat)(nF:x'.jo.toNat=x.jo.toNat+k):
  bV s l (W.set i x') ws D = { bV s l W ws D with ph:=(bV s l W ws D).ph.set i (dC x'),jo:=(bV s l W ws D).jo+k }:=by
 refine B3 (fun _ _=>rfl) (fun _=>rfl) rfl rfl ?_ ?_ ?_
 ·show (W.set i x').map dC=(W.map dC).set i (dC x');rw[oI]
 ·exact vU hx (by rw[lT])
 ·show SX.aI _ _=SX.aI _ _+k;have:=SX.fu (fun x:WS=>x.jo.toNat) W i x x' hx;omega
end
end Go.Proofs.YtnikdflhefijbaaGreat
