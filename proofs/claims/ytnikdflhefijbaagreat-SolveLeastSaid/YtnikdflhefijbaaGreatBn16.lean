import Derived.Test.YtnikdflhefijbaaGreatBn14
import Derived.Test.YtnikdflhefijbaaGreatBn15
import Derived.Test.YtnikdflhefijbaaGreatBn6
import Derived.Test.YtnikdflhefijbaaGreatBn10
import Derived.Test.YtnikdflhefijbaaGreatBn11
namespace Go.Proofs.YtnikdflhefijbaaGreat
open Go.RowKit
set_option maxRecDepth 100000
def l9(nx:Int→List Int)(seen:List Int):Nat→Nat
 | 0=>0
 |n+1=>l9 nx seen n+if (n:Int)∈seen then 0 else (nx n).length+2
theorem FJ{nx:Int→List Int}{seen:List Int}{b:Nat}(hb:(b:Int) ∉ seen):∀n,l9 nx (seen++[(b:Int)]) n+(if b<n then (nx b).length+2 else 0)=l9 nx seen n
 | 0=>rfl
 |n+1=>by
  have ih:=FJ (nx:=nx) hb n
  unfold l9
  by_cases h:b=n
  ·subst h
   rw[ag (I5 _)]at ih
   rw[if_pos (by simp),if_neg hb,if_pos (Nat.lt_succ_self _)]
   omega
  ·have h1:((n:Int)∈seen++[(b:Int)])↔(n:Int)∈seen:=by
    rw[bV,bB]
    exact⟨fun h'=>h'.elim id fun e=>absurd (Int.ofNat.inj e).symm h,.inl⟩
   by_cases h2:(n:Int)∈seen
   ·rw[ah (h1.2 h2),ah h2]
    by_cases h3:b<n
    ·rw[ah h3]at ih;rw[ah (by omega)];omega
    ·rw[ag h3]at ih;rw[ag (by omega)];omega
   ·rw[ag (fun h'=>h2 (h1.1 h')),ag h2]
    by_cases h3:b<n
    ·rw[ah h3]at ih;rw[ah (by omega)];omega
    ·rw[ag h3]at ih;rw[ag (by omega)];omega
def dZ(nx:Int→List Int):List (Int×Nat)→Nat
 | []=>0
 |t::w=>dZ nx w+((nx t.1).length-t.2)+1
def se(n:Nat)(met:List Bool)(seen:List Int):Prop:=met.length=n∧∀u:Nat,u<n→met.getD u false=decide ((u:Int)∈seen)
theorem se.at_{n:Nat}{met:List Bool}{seen:List Int}(h:se n met seen){a:Int}(ha:0≤a∧a<n):met.getD a.toNat false=decide (a∈seen):=by
 have:=h.2 a.toNat (by omega)
 rw[lZ ha.1]at this
 exact this
theorem se.set{n:Nat}{met:List Bool}{seen:List Int}(h:se n met seen){a:Int}(ha:0≤a∧a<n):se n (met.set a.toNat true) (seen++[a]):=by
 refine⟨by rw[cN];exact h.1,fun u hu=>?_⟩
 rw[bg,e8]
 by_cases e:a.toNat=u
 ·subst e
  rw[ah rfl,ah (by rw[h.1];omega),lZ ha.1]
  simp
 ·rw[ag e,← bg,h.2 u hu]
  have e2:¬(u:Int)=a:=fun e'=>e (by omega)
  simp[e2]
structure j4(n:Nat)(nx:Int→List Int)(F:List Int)(met:List Bool)(seen out:List Int)(gW:List (Int×Nat)):Prop where
 nG:se n met seen
 nd:seen.Nodup
 rg:∀x∈seen,0≤x∧x<(n:Int)
 len:out.length+gW.length=seen.length
 wy:∀t∈gW,(0≤t.1∧t.1<(n:Int))∧t.2≤(nx t.1).length
 tell:F=out++lI n nx gW seen
 mem:∀x,x∈seen↔x∈out++gW.map Prod.fst
 od:(out++gW.map Prod.fst).Nodup
theorem FZ:∀(n:Nat) (l:List Int),l.Nodup→(∀z∈l,0≤z∧z<(n:Int))→l.length≤n
 | 0,l,_,h=>by
  cases l with
  |nil=>exact a8 _
  |cons z l=>have:=h z (ck ..);omega
 |n+1,l,hn,h=>by
  have h1:=FZ n (l.erase (n:Int)) (hn.erase _) (fun z hz=>by
   rw[hn.mem_erase_iff]at hz
   have:=h z hz.2
   have:=hz.1
   omega)
  have h2:=List.length_erase (a:=(n:Int)) (l:=l)
  split at h2 <;> omega
theorem j4.small{n:Nat}{nx:Int→List Int}{F:List Int}{met:List Bool}{seen out:List Int}{gW:List (Int×Nat)}(h:j4 n nx F met seen out gW):out.length+gW.length≤n:=by
 rw[h.len];exact FZ n seen h.nd h.rg
theorem j4.skip{n:Nat}{nx:Int→List Int}{F:List Int}{met:List Bool}{seen out:List Int}{v:Int}{k:Nat}{w:List (Int×Nat)}(h:j4 n nx F met seen out ((v,k)::w))(hk:k<(nx v).length)(hb:(nx v)[k]∈seen):j4 n nx F met seen out ((v,k+1)::w):=
 ⟨h.nG,h.nd,h.rg,h.len,fun t ht=>by
  rcases eF.1 ht with rfl | ht
  ·exact⟨(h.wy (v,k) (ck ..)).1,hk⟩
  ·exact h.wy t (cW _ ht),by rw[h.tell,aa0 hk hb],h.mem,h.od⟩
theorem j4.push{n:Nat}{nx:Int→List Int}(cQ:∀x,∀y∈nx x,0≤y∧y<(n:Int)){F:List Int}{met:List Bool}{seen out:List Int}{v:Int}{k:Nat}{w:List (Int×Nat)}(h:j4 n nx F met seen out ((v,k)::w))(hk:k<(nx v).length)(hb:(nx v)[k] ∉ seen):j4 n nx F (met.set (nx v)[k].toNat true) (seen++[(nx v)[k]]) out (((nx v)[k],0)::(v,k+1)::w):=by
 have hr:=cQ v _ (cj hk)
 refine⟨h.nG.set hr,List.nodup_append.2 ⟨h.nd,by simp,fun a ha b xz e=>?_⟩,fun x hx=>?_,?_,fun t ht=>?_,by rw[h.tell,aa1 cQ hk hb],fun x=>?_,?_⟩
 ·rw[bB.1 xz]at e
  exact hb (e▸ha)
 ·rcases bV.1 hx with hx | hx
  ·exact h.rg x hx
  ·rw[bB.1 hx];exact hr
 ·have:=h.len
  rw[bP]
  show out.length+(w.length+1+1)=seen.length+1
  have this:out.length+(w.length+1)=seen.length:=this
  omega
 ·rcases eF.1 ht with rfl | ht
  ·exact⟨hr,bD _⟩
  ·rcases eF.1 ht with rfl | ht
   ·exact⟨(h.wy (v,k) (ck ..)).1,hk⟩
   ·exact h.wy t (cW _ ht)
 ·rw[bV,h.mem,bV,bV,bB]
  show _↔_∨x∈(nx v)[k]::v::w.map Prod.fst
  rw[eF (a:=x)]
  exact⟨fun h'=>h'.elim (fun h'=>h'.elim .inl fun h'=>.inr (.inr h')) fun h'=>.inr (.inl h'),fun h'=>h'.elim (fun h'=>.inl (.inl h')) fun h'=>h'.elim .inr fun h'=>.inl (.inr h')⟩
 ·have hp:(out++(nx v)[k]::v::w.map Prod.fst).Perm ((nx v)[k]::(out++v::w.map Prod.fst)):=nS
  exact hp.nodup_iff.2 (mr.2 ⟨fun hm=>hb ((h.mem _).2 hm),h.od⟩)
theorem j4.pop{n:Nat}{nx:Int→List Int}{F:List Int}{met:List Bool}{seen out:List Int}{v:Int}{k:Nat}{w:List (Int×Nat)}(h:j4 n nx F met seen out ((v,k)::w))(hk:(nx v).length≤k):j4 n nx F met seen (out++[v]) w:=by
 refine⟨h.nG,h.nd,h.rg,?_,fun t ht=>h.wy t (cW _ ht),by rw[h.tell,ac0 hk,dQ];rfl,fun x=>by rw[h.mem,dQ];rfl,by rw[dQ];exact h.od⟩
 have:=h.len
 rw[bP]
 have this:out.length+(w.length+1)=seen.length:=this
 show out.length+1+w.length=_
 omega
theorem j4.top{n:Nat}{nx:Int→List Int}{met:List Bool}{out:List Int}(hm:se n met out)(hn:out.Nodup)(hr:∀x∈out,0≤x∧x<(n:Int)){a:Int}(ha:0≤a∧a<(n:Int))(h:a ∉ out):j4 n nx (out++gU nx (n+1) a out) (met.set a.toNat true) (out++[a]) out [(a,0)]:=by
 refine⟨hm.set ha,List.nodup_append.2 ⟨hn,by simp,fun x hx b xz e=>?_⟩,fun x hx=>?_,by rw[List.length_append];rfl,fun t ht=>by rw[List.mem_singleton.1 ht];exact⟨ha,Nat.zero_le _⟩,by rw[abZ h],fun _=>Iff.rfl,?_⟩
 ·rw[bB.1 xz]at e
  exact h (e▸hx)
 ·rcases bV.1 hx with hx | hx
  ·exact hr x hx
  ·rw[bB.1 hx];exact ha
 ·refine List.nodup_append.2 ⟨hn,by simp,fun x hx b xz e=>?_⟩
  rw[bB.1 (show b∈[a] from xz)]at e
  exact h (e▸hx)
theorem j4.done{n:Nat}{nx:Int→List Int}{F:List Int}{met:List Bool}{seen out:List Int}(h:j4 n nx F met seen out []):F=out∧se n met F∧F.Nodup∧∀x∈F,0≤x∧x<(n:Int):=by
 have e:F=out:=by rw[h.tell];unfold lI;exact mU _
 have hm:∀x,x∈seen↔x∈out:=fun x=>by have:=h.mem x;rwa [show out++List.map Prod.fst []=out from mU _]at this
 have ho:=h.od
 rw[show out++List.map Prod.fst []=out from mU _]at ho
 subst e
 exact⟨rfl,⟨h.nG.1,fun u hu=>(h.nG.2 u hu).trans (by rw[decide_eq_decide];exact hm _)⟩,ho,fun x hx=>h.rg x ((hm x).2 hx)⟩
set_option maxHeartbeats 8000000
theorem Wm{P:Program}{TT:TypeId→Option TI}{fn:Go.Func}{a c:Go.Code}{xs:List AV}{σ:Hp}{R:AV→Hp→Prop}{S:Type}(hb:fn.body=some (.seq a (.scope c)))(fX:S→Nat)(L:S→List (Nat×AV))(H:S→Hp)(p:S→Prop)(μ:S→Nat)
  (hr:C3 (mG P TT 998) c fX L H p μ (uN TT fn.results.toList R))
  (h:C3 (mG P TT 998) c fX L H p μ (uN TT fn.results.toList R)→codeF P TT (mG P TT 999) (.seq a (.scope c)) (t0 xs) σ (uN TT fn.results.toList R)):uO P TT fn xs σ R:=by
 have h1:mG P TT 1000 (.seq a (.scope c)) (t0 xs) σ (uN TT fn.results.toList R):=h hr
 unfold uO
 rw[hb]
 exact h1
abbrev OR:=(Bool×Int×List Bool×List Int)×(List (Int×Nat)×Int×Nat)×(Nat×List AV)×(AV×Hp×List Int)
def VsP(n:Nat)(nx:Int→List Int)(F:List Int)(x:OR):Prop:=match x.1.1 with
 |true=>j4 n nx F (x.1.2.2.1.set x.1.2.1.toNat true) (x.1.2.2.2++[x.1.2.1]) x.2.2.2.2.2 ((x.1.2.1,0)::(x.2.1.2.1,x.2.1.2.2)::x.2.1.1.reverse)∧x.1.2.2.1.length=n∧0≤x.1.2.1∧x.1.2.1<n
 |false=>j4 n nx F x.1.2.2.1 x.1.2.2.2 x.2.2.2.2.2 ((x.2.1.2.1,x.2.1.2.2)::x.2.1.1.reverse)
def VsM(n:Nat)(nx:Int→List Int)(x:OR):Nat:=match x.1.1 with
 |true=>dZ nx ((x.1.2.1,0)::(x.2.1.2.1,x.2.1.2.2)::x.2.1.1.reverse)+l9 nx (x.1.2.2.2++[x.1.2.1]) n+1
 |false=>dZ nx ((x.2.1.2.1,x.2.1.2.2)::x.2.1.1.reverse)+l9 nx x.1.2.2.2 n
theorem ad1(n:Nat)(l:List bE)(a:Int)(met:List Bool)(out:List Int)(bm:Nat)(vo:AV)(vc σ:Hp)(_hl:l.length≤100000)(hn:n≤1000)(ha:0≤a∧a<n)(hm:se n met out)(ca:out.Nodup)(Nu:∀x∈out,0≤x∧x<(n:Int))(hO:Acc 1 out.length vo vc (an out)):
  ACalls Tryz.prog 311 [.af (.slice (.int .i64)) (bY n l),.ae bm 0 n 1,.int .i64 a,.via vo] ((bm,bN met)::(vc++σ))
   (fun r σ'=>∃rh k8 rn q9,k8=out++gU (ar n l) (n+1) a out∧se n rh k8∧k8.Nodup∧(∀x∈k8,0≤x∧x<(n:Int))∧Acc 1 k8.length rn q9 (an k8)∧r=rn∧σ'=(bm,bN rh)::(q9++σ)):=by
 have cQ:∀x,∀y∈ar n l x,0≤y∧y<(n:Int):=fun x y hy=>(lD.1 hy).1
 obtain⟨F,hF⟩:∃F,out++gU (ar n l) (n+1) a out=F:=⟨_,rfl⟩
 refine az Tryz.func311 ?_
 refine Wm (S:=OR) rfl (fun x=>match x.1.1 with | true=>0 | false=>1)
  (fun x=>[(0,.af (.slice (.int .i64)) (bY n l)),(1,.ae bm 0 n 1),(2,.int .i64 x.1.2.1),(3,.via x.2.2.2.1),(9,.ae x.2.2.1.1 0 (x.2.1.1.length+1) 2)])
  (fun x=>(bm,bN x.1.2.2.1)::(x.2.2.1.1,bK (x.2.1.1++[(x.2.1.2.1,x.2.1.2.2)])++x.2.2.1.2)::(x.2.2.2.2.1++σ))
  (fun x=>VsP n (ar n l) F x∧Acc 1 x.2.2.2.2.2.length x.2.2.2.1 x.2.2.2.2.1 (an x.2.2.2.2.2))
  (fun x=>VsM n (ar n l) x) ?_ ?_
 ·rintro⟨⟨f,b,nz,iO⟩,⟨wy,v,k⟩,⟨bw,J⟩,⟨D4,Fl,kZ⟩⟩ g ⟨hP,xE⟩
  have xE:Acc 1 kZ.length D4 Fl (an kZ):=xE
  cases f with
  |true=>
   obtain⟨hV,MI,mq,rD⟩:=hP
   have hV:j4 n (ar n l) F (nz.set b.toNat true) (iO++[b]) kZ ((b,0)::(v,k)::wy.reverse):=hV
   have MI:nz.length=n:=MI
   have mq:0≤b:=mq
   have rD:b<n:=rD
   have vC:(bK (wy++[(v,k)])).length=(wy.length+1)*2:=by rw[my,bP];rfl
   have afM:=hV.small
   rw[iy,iy,sI]at afM
   refine aM ?_
   refine da 0 rfl (x7 rfl true mq (by omega)) ?_
   intro aG
   refine xT (k:=wy.length+1) (n:=1) [_,_] (.ae bw (wy.length+1) (bK (wy++[(v,k)])) J vC) (.ae 0 aG 0 1 _ rfl (cD rfl)) rfl (by omega) (by decide) (by decide) (fun v' aU h'=>?_)
   obtain⟨oV,J2,rfl,rfl,_⟩:=h'.pos (by omega)
   have HC:(wy++[(v,k)]).reverse=(v,k)::wy.reverse:=by rw[List.reverse_append];rfl
   have qw:bK (wy++[(v,k)])++[AV.int .i64 b,.int .i64 ((0:Nat):Int)]++J2=bK ((wy++[(v,k)])++[(b,0)])++J2:=by rw[oY (wy++[(v,k)]) [(b,0)]];rfl
   have s9:(wy++[(v,k)]).length=wy.length+1:=by rw[bP];rfl
   rw[← HC]at hV
   have xb:=hV.wy (b,0) (ck ..)
   have dm:0≤b∧b<(n:Int):=xb.1
   have Bg:0≤(ar n l b).length:=xb.2
   have mj:=xW n l b
   have oN:=hV.small
   rw[iy,sI,s9]at oN
   have xt:((nz.set b.toNat true)).length=n:=hV.nG.1
   have nE:IntKind.i64.wrap ((((wy.length+1)+1:Nat):Int)-1)=(((wy.length+1):Nat):Int):=by rw[cy (by omega)];omega
   have hX:0+(IntKind.i64.wrap ((((wy.length+1)+1:Nat):Int)-1)).toNat*2=((wy++[(v,k)])).length*2:=by rw[nE,s9];omega
   have mO:ey ⟨.int .i64,1,8,[.int .i64 0]⟩ (bK (wy++[(v,k)])++[AV.int .i64 b,.int .i64 ((0:Nat):Int)]++J2) (0+(IntKind.i64.wrap ((((wy.length+1)+1:Nat):Int)-1)).toNat*2+0)=some (.int .i64 b):=by rw[qw];exact jc rfl (by rw[hX];exact rJ rfl)
   have lR:ey ⟨.int .i64,1,8,[.int .i64 0]⟩ (bK (wy++[(v,k)])++[AV.int .i64 b,.int .i64 ((0:Nat):Int)]++J2) (0+(IntKind.i64.wrap ((((wy.length+1)+1:Nat):Int)-1)).toNat*2+1)=some (.int .i64 ((0:Nat):Int)):=by rw[qw];exact jc rfl (by rw[hX];exact B0 rfl)
   have er:(bK ((wy++[(v,k)])++[(b,0)])++J2).length=((wy++[(v,k)])).length*2+2+(J2:List AV).length:=by rw[bP,my,bP];show (_+1)*2+_=_;omega
   have mR:IntKind.i64.wrap (((0:Nat):Int)+1)=((0+1:Nat):Int):=by rw[cy (by omega)];omega
   have vD:kQ ⟨.int .i64,1,8,[.int .i64 0]⟩ (bK (wy++[(v,k)])++[AV.int .i64 b,.int .i64 ((0:Nat):Int)]++J2) (0+(IntKind.i64.wrap ((((wy.length+1)+1:Nat):Int)-1)).toNat*2+1) (.int .i64 (IntKind.i64.wrap (((0:Nat):Int)+1)))=some (bK ((wy++[(v,k)])++[(b,0+1)])++J2):=by
    rw[qw,uA rfl rfl (by rw[hX,er];omega),hX,mR,Cj rfl]
   have uL:2=2∧0≤IntKind.i64.wrap ((((wy.length+1)+1:Nat):Int)-1)∧IntKind.i64.wrap ((((wy.length+1)+1:Nat):Int)-1)<(((wy.length+1)+1:Nat):Int):=⟨rfl,by omega,by omega⟩
   refine aI.mk uL ?_
   refine .quiet (by kernel_rfl) ?_
   refine aT 2 rfl lR ?_
   refine aT 2 rfl mO ?_
   refine aI.mk rfl ?_
   refine bL.mk (ar n l b) (by omega) (pc dm) ?_
   refine aq (p:=((0:Nat):Int)<(ar n l b).length) (fun ab=>?_) (fun au=>?_)
   ·have ab:0<(ar n l b).length:=by omega
    obtain⟨z,hz⟩:∃z,(ar n l b)[0]=z:=⟨_,rfl⟩
    have Eg:z∈ar n l b:=hz▸cj ab
    have gY:=(lD.1 Eg).1
    refine .quiet (by kernel_rfl) ?_
    refine aT 2 rfl mO ?_
    refine aI.mk rfl ?_
    refine bL.mk (ar n l b) (by omega) (pc dm) ?_
    refine aT 2 rfl lR ?_
    refine aI.mk rfl ?_
    refine bL.mk z (by omega) ((get_some ab).trans (congrArg some hz)) ?_
    refine aT 2 rfl lR ?_
    refine da 2 rfl vD ?_
    refine aM ?_
    refine fE.kD 1 _ _ rfl (sT rfl gY.1 (by rw[xt];omega)) (fun c2=>?_) (fun c2=>?_)
    ·have jF:z∈(iO++[b]):=by rw[hV.nG.at_ gY]at c2;exact fA c2
     have hS:=hV.skip ab (by rw[hz];exact jF)
     have kI:dZ (ar n l) ((b,0+1)::((wy++[(v,k)])).reverse)+1=dZ (ar n l) ((b,0)::((wy++[(v,k)])).reverse):=by show dZ (ar n l) ((wy++[(v,k)])).reverse+((ar n l b).length-(0+1))+1+1=dZ (ar n l) ((wy++[(v,k)])).reverse+((ar n l b).length-0)+1;omega
     exact .mk ((false,z,(nz.set b.toNat true),(iO++[b])),((wy++[(v,k)]),b,0+1),(oV,J2),(D4,Fl,kZ)) rfl (by show dZ (ar n l) ((b,0+1)::((wy++[(v,k)])).reverse)+l9 (ar n l) ((iO++[b])) n<_;(show _<dZ (ar n l) ((b,0)::(v,k)::wy.reverse)+l9 (ar n l) (iO++[b]) n+1);rw[← HC];omega) ⟨hS,xE⟩ ⟨rfl,rfl,rfl,rfl,by rw[s9];rfl,trivial⟩ (.drop 0 1 (.refl _))
    ·have jF:z ∉ (iO++[b]):=by rw[hV.nG.at_ gY]at c2;exact pO c2
     have hS:=hV.push cQ ab (by rw[hz];exact jF)
     rw[hz]at hS
     have kI:dZ (ar n l) ((z,0)::(b,0+1)::((wy++[(v,k)])).reverse)=dZ (ar n l) ((b,0)::((wy++[(v,k)])).reverse)+(ar n l z).length:=by show dZ (ar n l) ((wy++[(v,k)])).reverse+((ar n l b).length-(0+1))+1+((ar n l z).length-0)+1=dZ (ar n l) ((wy++[(v,k)])).reverse+((ar n l b).length-0)+1+(ar n l z).length;omega
     have oP:=FJ (nx:=ar n l) (seen:=(iO++[b])) (b:=z.toNat) (by rw[lZ gY.1];exact jF) n
     rw[ah (by omega),lZ gY.1]at oP
     exact .mk ((true,z,(nz.set b.toNat true),(iO++[b])),((wy++[(v,k)]),b,0+1),(oV,J2),(D4,Fl,kZ)) rfl (by show dZ (ar n l) ((z,0)::(b,0+1)::((wy++[(v,k)])).reverse)+l9 (ar n l) (((iO++[b]))++[z]) n+1<_;(show _<dZ (ar n l) ((b,0)::(v,k)::wy.reverse)+l9 (ar n l) (iO++[b]) n+1);rw[← HC];omega) ⟨⟨hS,xt,gY.1,gY.2⟩,xE⟩ ⟨rfl,rfl,rfl,rfl,by rw[s9];rfl,trivial⟩ (.drop 0 1 (.refl _))
   ·have au:(ar n l b).length≤0:=by omega
    have hS:=hV.pop au
    refine aT 2 rfl mO ?_
    intro bs
    refine ic (k:=(kZ).length) (n:=1) [_,_,_,_] xE (.ae 0 bs 0 1 _ rfl (cD rfl)) rfl (by omega) (by decide) (by decide) (fun qn mX xD=>?_)
    have xC:Acc 1 ((kZ)++[b]).length qn mX (an ((kZ)++[b])):=by
     rw[List.length_append,show an ((kZ)++[b])=an (kZ)++[.int .i64 b] by simp[an]];exact xD
    have qe:(IntKind.i64.wrap ((((wy.length+1)+1:Nat):Int)-1)).toNat-Int.toNat 0=(wy.length+1):=by rw[nE];omega
    have dg:0≤(0:Int)∧(0:Int)≤IntKind.i64.wrap ((((wy.length+1)+1:Nat):Int)-1)∧IntKind.i64.wrap ((((wy.length+1)+1:Nat):Int)-1)≤(((wy.length+1)+1:Nat):Int)∧2=2:=⟨by omega,by omega,by omega,rfl⟩
    refine aI.mk dg ?_
    have jh:(IntKind.i64.wrap ((((wy.length+1)+1:Nat):Int)-1)).toNat-Int.toNat 0=(wy).length+1:=qe.trans (rfl)
    have iR:AV.ae oV (0+Int.toNat 0*2) ((IntKind.i64.wrap ((((wy.length+1)+1:Nat):Int)-1)).toNat-Int.toNat 0) 2=.ae oV 0 ((wy).length+1) 2:=by rw[jh];rfl
    have ou:bK (wy++[(v,k)])++[AV.int .i64 b,.int .i64 ((0:Nat):Int)]++J2=bK (wy++[(v,k)])++([.int .i64 b,.int .i64 ((0:Nat):Int)]++J2):=by rw[qw,oY,dQ];rfl
    rw[HC]at hS
    refine aq (p:=(0:Int)<(((IntKind.i64.wrap ((((wy.length+1)+1:Nat):Int)-1)).toNat-Int.toNat 0:Nat):Int)) (fun c3=>?_) (fun c3=>?_)
    rotate_left
    ·rw[jh]at c3;omega
    have kI:dZ (ar n l) ((v,k)::(wy).reverse)+1≤dZ (ar n l) ((b,0)::(v,k)::(wy).reverse):=by show _≤dZ (ar n l) ((v,k)::(wy).reverse)+((ar n l b).length-0)+1;omega
    have hE:(bm,bN (nz.set b.toNat true))::(oV,bK (wy++[(v,k)])++[AV.int .i64 b,.int .i64 ((0:Nat):Int)]++J2)::(mX++σ)=(bm,bN (nz.set b.toNat true))::(oV,bK (wy++[(v,k)])++([.int .i64 b,.int .i64 ((0:Nat):Int)]++J2))::(mX++σ):=by rw[ou]
    exact .mk ((false,b,(nz.set b.toNat true),(iO++[b])),(wy,v,k),(oV,[AV.int .i64 b,.int .i64 ((0:Nat):Int)]++J2),(qn,mX,(kZ)++[b])) rfl (by show dZ (ar n l) ((v,k)::(wy).reverse)+l9 (ar n l) ((iO++[b])) n<_;(show _<dZ (ar n l) ((b,0)::(v,k)::wy.reverse)+l9 (ar n l) (iO++[b]) n+1);omega) ⟨hS,xC⟩ ⟨rfl,rfl,rfl,rfl,iR,trivial⟩ (.drop 0 2 (aJ hE))
  |false=>
   have hV:j4 n (ar n l) F nz iO kZ ((v,k)::wy.reverse):=hP
   have s9:wy.length=wy.length:=rfl
   have qw:bK (wy++[(v,k)])++J=bK (wy++[(v,k)])++J:=rfl
   have xb:=hV.wy (v,k) (ck ..)
   have dm:0≤v∧v<(n:Int):=xb.1
   have Bg:k≤(ar n l v).length:=xb.2
   have mj:=xW n l v
   have oN:=hV.small
   rw[iy,sI,s9]at oN
   have xt:(nz).length=n:=hV.nG.1
   have nE:IntKind.i64.wrap (((wy.length+1:Nat):Int)-1)=((wy.length:Nat):Int):=by rw[cy (by omega)];omega
   have hX:0+(IntKind.i64.wrap (((wy.length+1:Nat):Int)-1)).toNat*2=(wy).length*2:=by rw[nE,s9];omega
   have mO:ey ⟨.int .i64,1,8,[.int .i64 0]⟩ (bK (wy++[(v,k)])++J) (0+(IntKind.i64.wrap (((wy.length+1:Nat):Int)-1)).toNat*2+0)=some (.int .i64 v):=by rw[qw];exact jc rfl (by rw[hX];exact rJ rfl)
   have lR:ey ⟨.int .i64,1,8,[.int .i64 0]⟩ (bK (wy++[(v,k)])++J) (0+(IntKind.i64.wrap (((wy.length+1:Nat):Int)-1)).toNat*2+1)=some (.int .i64 ((k:Nat):Int)):=by rw[qw];exact jc rfl (by rw[hX];exact B0 rfl)
   have er:(bK (wy++[(v,k)])++J).length=(wy).length*2+2+(J:List AV).length:=by rw[bP,my,bP];show (_+1)*2+_=_;omega
   have mR:IntKind.i64.wrap (((k:Nat):Int)+1)=((k+1:Nat):Int):=by rw[cy (by omega)];omega
   have vD:kQ ⟨.int .i64,1,8,[.int .i64 0]⟩ (bK (wy++[(v,k)])++J) (0+(IntKind.i64.wrap (((wy.length+1:Nat):Int)-1)).toNat*2+1) (.int .i64 (IntKind.i64.wrap (((k:Nat):Int)+1)))=some (bK (wy++[(v,k+1)])++J):=by
    rw[qw,uA rfl rfl (by rw[hX,er];omega),hX,mR,Cj rfl]
   have uL:2=2∧0≤IntKind.i64.wrap (((wy.length+1:Nat):Int)-1)∧IntKind.i64.wrap (((wy.length+1:Nat):Int)-1)<((wy.length+1:Nat):Int):=⟨rfl,by omega,by omega⟩
   refine aI.mk uL ?_
   refine .quiet (by kernel_rfl) ?_
   refine aT 1 rfl lR ?_
   refine aT 1 rfl mO ?_
   refine aI.mk rfl ?_
   refine bL.mk (ar n l v) (by omega) (pc dm) ?_
   refine aq (p:=((k:Nat):Int)<(ar n l v).length) (fun ab=>?_) (fun au=>?_)
   ·have ab:k<(ar n l v).length:=by omega
    obtain⟨z,hz⟩:∃z,(ar n l v)[k]=z:=⟨_,rfl⟩
    have Eg:z∈ar n l v:=hz▸cj ab
    have gY:=(lD.1 Eg).1
    refine .quiet (by kernel_rfl) ?_
    refine aT 1 rfl mO ?_
    refine aI.mk rfl ?_
    refine bL.mk (ar n l v) (by omega) (pc dm) ?_
    refine aT 1 rfl lR ?_
    refine aI.mk rfl ?_
    refine bL.mk z (by omega) ((get_some ab).trans (congrArg some hz)) ?_
    refine aT 1 rfl lR ?_
    refine da 1 rfl vD ?_
    refine aM ?_
    refine fE.kD 0 _ _ rfl (sT rfl gY.1 (by rw[xt];omega)) (fun c2=>?_) (fun c2=>?_)
    ·have jF:z∈iO:=by rw[hV.nG.at_ gY]at c2;exact fA c2
     have hS:=hV.skip ab (by rw[hz];exact jF)
     have kI:dZ (ar n l) ((v,k+1)::(wy).reverse)+1=dZ (ar n l) ((v,k)::(wy).reverse):=by show dZ (ar n l) (wy).reverse+((ar n l v).length-(k+1))+1+1=dZ (ar n l) (wy).reverse+((ar n l v).length-k)+1;omega
     exact .mk ((false,z,nz,iO),(wy,v,k+1),(bw,J),(D4,Fl,kZ)) rfl (by show dZ (ar n l) ((v,k+1)::(wy).reverse)+l9 (ar n l) (iO) n<_;(show _<dZ (ar n l) ((v,k)::wy.reverse)+l9 (ar n l) iO n);omega) ⟨hS,xE⟩ ⟨rfl,rfl,rfl,rfl,rfl,trivial⟩ (.refl _)
    ·have jF:z ∉ iO:=by rw[hV.nG.at_ gY]at c2;exact pO c2
     have hS:=hV.push cQ ab (by rw[hz];exact jF)
     rw[hz]at hS
     have kI:dZ (ar n l) ((z,0)::(v,k+1)::(wy).reverse)=dZ (ar n l) ((v,k)::(wy).reverse)+(ar n l z).length:=by show dZ (ar n l) (wy).reverse+((ar n l v).length-(k+1))+1+((ar n l z).length-0)+1=dZ (ar n l) (wy).reverse+((ar n l v).length-k)+1+(ar n l z).length;omega
     have oP:=FJ (nx:=ar n l) (seen:=iO) (b:=z.toNat) (by rw[lZ gY.1];exact jF) n
     rw[ah (by omega),lZ gY.1]at oP
     exact .mk ((true,z,nz,iO),(wy,v,k+1),(bw,J),(D4,Fl,kZ)) rfl (by show dZ (ar n l) ((z,0)::(v,k+1)::(wy).reverse)+l9 (ar n l) ((iO)++[z]) n+1<_;(show _<dZ (ar n l) ((v,k)::wy.reverse)+l9 (ar n l) iO n);omega) ⟨⟨hS,xt,gY.1,gY.2⟩,xE⟩ ⟨rfl,rfl,rfl,rfl,rfl,trivial⟩ (.refl _)
   ·have au:(ar n l v).length≤k:=by omega
    have hS:=hV.pop au
    refine aT 1 rfl mO ?_
    intro bs
    refine ic (k:=(kZ).length) (n:=1) [_,_,_] xE (.ae 0 bs 0 1 _ rfl (cD rfl)) rfl (by omega) (by decide) (by decide) (fun qn mX xD=>?_)
    have xC:Acc 1 ((kZ)++[v]).length qn mX (an ((kZ)++[v])):=by
     rw[List.length_append,show an ((kZ)++[v])=an (kZ)++[.int .i64 v] by simp[an]];exact xD
    have qe:(IntKind.i64.wrap (((wy.length+1:Nat):Int)-1)).toNat-Int.toNat 0=wy.length:=by rw[nE];omega
    have dg:0≤(0:Int)∧(0:Int)≤IntKind.i64.wrap (((wy.length+1:Nat):Int)-1)∧IntKind.i64.wrap (((wy.length+1:Nat):Int)-1)≤((wy.length+1:Nat):Int)∧2=2:=⟨by omega,by omega,by omega,rfl⟩
    refine aI.mk dg ?_
    rcases E5 wy with xp | ⟨w',⟨u,i⟩,xp⟩
    ·rw[show wy.reverse=[] by rw[xp];rfl]at hS
     refine aq (p:=(0:Int)<(((IntKind.i64.wrap (((wy.length+1:Nat):Int)-1)).toNat-Int.toNat 0:Nat):Int)) (fun c3=>?_) (fun c3=>?_)
     ·rw[qe]at c3;exact absurd c3 (by rw[xp];decide)
     ·obtain⟨e1,e2,e3,e4⟩:=j4.done hS
      rw[← e1]at xC
      exact .drop 0 1 (.drop 1 1 (.done ⟨nz,F,qn,mX,hF.symm,e2,e3,e4,xC,rfl,rfl⟩))
    ·have xp:wy=w'++[(u,i)]:=by simpa using xp
     have Vq:(wy).reverse=(u,i)::w'.reverse:=by rw[xp,List.reverse_append];rfl
     have jh:(IntKind.i64.wrap (((wy.length+1:Nat):Int)-1)).toNat-Int.toNat 0=(w').length+1:=qe.trans (by rw[xp,bP];rfl)
     have iR:AV.ae bw (0+Int.toNat 0*2) ((IntKind.i64.wrap (((wy.length+1:Nat):Int)-1)).toNat-Int.toNat 0) 2=.ae bw 0 ((w').length+1) 2:=by rw[jh];rfl
     have ou:bK (wy++[(v,k)])++J=bK (w'++[(u,i)])++([.int .i64 v,.int .i64 ((k:Nat):Int)]++J):=by rw[qw,xp,oY,dQ];rfl
     rw[Vq]at hS
     refine aq (p:=(0:Int)<(((IntKind.i64.wrap (((wy.length+1:Nat):Int)-1)).toNat-Int.toNat 0:Nat):Int)) (fun c3=>?_) (fun c3=>?_)
     rotate_left
     ·rw[jh]at c3;omega
     have kI:dZ (ar n l) ((u,i)::(w').reverse)+1≤dZ (ar n l) ((v,k)::(wy).reverse):=by rw[← Vq];show _≤dZ (ar n l) (wy).reverse+((ar n l v).length-k)+1;omega
     have hE:(bm,bN nz)::(bw,bK (wy++[(v,k)])++J)::(mX++σ)=(bm,bN nz)::(bw,bK (w'++[(u,i)])++([.int .i64 v,.int .i64 ((k:Nat):Int)]++J))::(mX++σ):=by rw[ou]
     exact .mk ((false,b,nz,iO),(w',u,i),(bw,[AV.int .i64 v,.int .i64 ((k:Nat):Int)]++J),(qn,mX,(kZ)++[v])) rfl (by show dZ (ar n l) ((u,i)::(w').reverse)+l9 (ar n l) (iO) n<_;(show _<dZ (ar n l) ((v,k)::wy.reverse)+l9 (ar n l) iO n);omega) ⟨hS,xC⟩ ⟨rfl,rfl,rfl,rfl,iR,trivial⟩ (.drop 0 1 (aJ hE))
 ·intro hr
  have MI:=hm.1
  refine aM ?_
  refine fE.kD 0 _ _ rfl (sT rfl ha.1 (by omega)) (fun c1=>?_) (fun c1=>?_)
  ·have dY:a∈out:=by rw[hm.at_ ha]at c1;exact fA c1
   have ru:gU (ar n l) (n+1) a out=[]:=by unfold gU;rw[ah dY]
   rw[ru,mU]at hF
   exact .done ⟨met,out,vo,vc,by rw[ru,mU],hm,ca,Nu,hO,rfl,rfl⟩
  ·have dY:a ∉ out:=by rw[hm.at_ ha]at c1;exact pO c1
   have hV:=j4.top (nx:=ar n l) hm ca Nu ha dY
   rw[hF]at hV
   refine aM ?_
   refine da 0 rfl (x7 rfl true ha.1 (by omega)) ?_
   intro aG
   refine xT (k:=0) (n:=1) [_,_] (acc:=[]) .nil (.ae 0 aG 0 1 _ rfl (cD rfl)) rfl (by omega) (by decide) (by decide) (fun v' aU h'=>?_)
   obtain⟨bw,J,rfl,rfl,_⟩:=h'.pos (by omega)
   have qw:[]++[AV.int .i64 a,.int .i64 ((0:Nat):Int)]++J=bK (([]:List (Int×Nat))++[(a,0)])++J:=rfl
   have s9:([]:List (Int×Nat)).length=0:=rfl
   have hV:j4 n (ar n l) F (met.set a.toNat true) (out++[a]) out ((a,0)::([]:List (Int×Nat)).reverse):=hV
   have xb:=hV.wy (a,0) (ck ..)
   have dm:0≤a∧a<(n:Int):=xb.1
   have Bg:0≤(ar n l a).length:=xb.2
   have mj:=xW n l a
   have oN:=hV.small
   rw[iy,sI,s9]at oN
   have xt:((met.set a.toNat true)).length=n:=hV.nG.1
   have nE:IntKind.i64.wrap (((0+1:Nat):Int)-1)=((0:Nat):Int):=by rw[cy (by omega)];omega
   have hX:0+(IntKind.i64.wrap (((0+1:Nat):Int)-1)).toNat*2=(([]:List (Int×Nat))).length*2:=by rw[nE,s9];omega
   have mO:ey ⟨.int .i64,1,8,[.int .i64 0]⟩ ([]++[AV.int .i64 a,.int .i64 ((0:Nat):Int)]++J) (0+(IntKind.i64.wrap (((0+1:Nat):Int)-1)).toNat*2+0)=some (.int .i64 a):=by rw[qw];exact jc rfl (by rw[hX];exact rJ rfl)
   have lR:ey ⟨.int .i64,1,8,[.int .i64 0]⟩ ([]++[AV.int .i64 a,.int .i64 ((0:Nat):Int)]++J) (0+(IntKind.i64.wrap (((0+1:Nat):Int)-1)).toNat*2+1)=some (.int .i64 ((0:Nat):Int)):=by rw[qw];exact jc rfl (by rw[hX];exact B0 rfl)
   have er:(bK (([]:List (Int×Nat))++[(a,0)])++J).length=(([]:List (Int×Nat))).length*2+2+(J:List AV).length:=by rw[bP,my,bP];show (_+1)*2+_=_;omega
   have mR:IntKind.i64.wrap (((0:Nat):Int)+1)=((0+1:Nat):Int):=by rw[cy (by omega)];omega
   have vD:kQ ⟨.int .i64,1,8,[.int .i64 0]⟩ ([]++[AV.int .i64 a,.int .i64 ((0:Nat):Int)]++J) (0+(IntKind.i64.wrap (((0+1:Nat):Int)-1)).toNat*2+1) (.int .i64 (IntKind.i64.wrap (((0:Nat):Int)+1)))=some (bK (([]:List (Int×Nat))++[(a,0+1)])++J):=by
    rw[qw,uA rfl rfl (by rw[hX,er];omega),hX,mR,Cj rfl]
   have uL:2=2∧0≤IntKind.i64.wrap (((0+1:Nat):Int)-1)∧IntKind.i64.wrap (((0+1:Nat):Int)-1)<((0+1:Nat):Int):=⟨rfl,by omega,by omega⟩
   refine aI.mk uL ?_
   refine .quiet (by kernel_rfl) ?_
   refine aT 2 rfl lR ?_
   refine aT 2 rfl mO ?_
   refine aI.mk rfl ?_
   refine bL.mk (ar n l a) (by omega) (pc dm) ?_
   refine aq (p:=((0:Nat):Int)<(ar n l a).length) (fun ab=>?_) (fun au=>?_)
   ·have ab:0<(ar n l a).length:=by omega
    obtain⟨z,hz⟩:∃z,(ar n l a)[0]=z:=⟨_,rfl⟩
    have Eg:z∈ar n l a:=hz▸cj ab
    have gY:=(lD.1 Eg).1
    refine .quiet (by kernel_rfl) ?_
    refine aT 2 rfl mO ?_
    refine aI.mk rfl ?_
    refine bL.mk (ar n l a) (by omega) (pc dm) ?_
    refine aT 2 rfl lR ?_
    refine aI.mk rfl ?_
    refine bL.mk z (by omega) ((get_some ab).trans (congrArg some hz)) ?_
    refine aT 2 rfl lR ?_
    refine da 2 rfl vD ?_
    refine aM ?_
    refine fE.kD 1 _ _ rfl (sT rfl gY.1 (by rw[xt];omega)) (fun c2=>?_) (fun c2=>?_)
    ·have jF:z∈(out++[a]):=by rw[hV.nG.at_ gY]at c2;exact fA c2
     have hS:=hV.skip ab (by rw[hz];exact jF)
     have kI:dZ (ar n l) ((a,0+1)::(([]:List (Int×Nat))).reverse)+1=dZ (ar n l) ((a,0)::(([]:List (Int×Nat))).reverse):=by show dZ (ar n l) (([]:List (Int×Nat))).reverse+((ar n l a).length-(0+1))+1+1=dZ (ar n l) (([]:List (Int×Nat))).reverse+((ar n l a).length-0)+1;omega
     exact wk hr ((false,z,(met.set a.toNat true),(out++[a])),(([]:List (Int×Nat)),a,0+1),(bw,J),(vo,vc,out)) ⟨rfl,⟨hS,hO⟩,⟨rfl,rfl,rfl,rfl,rfl,trivial⟩,(.drop 0 1 (.refl _))⟩
    ·have jF:z ∉ (out++[a]):=by rw[hV.nG.at_ gY]at c2;exact pO c2
     have hS:=hV.push cQ ab (by rw[hz];exact jF)
     rw[hz]at hS
     have kI:dZ (ar n l) ((z,0)::(a,0+1)::(([]:List (Int×Nat))).reverse)=dZ (ar n l) ((a,0)::(([]:List (Int×Nat))).reverse)+(ar n l z).length:=by show dZ (ar n l) (([]:List (Int×Nat))).reverse+((ar n l a).length-(0+1))+1+((ar n l z).length-0)+1=dZ (ar n l) (([]:List (Int×Nat))).reverse+((ar n l a).length-0)+1+(ar n l z).length;omega
     have oP:=FJ (nx:=ar n l) (seen:=(out++[a])) (b:=z.toNat) (by rw[lZ gY.1];exact jF) n
     rw[ah (by omega),lZ gY.1]at oP
     exact wk hr ((true,z,(met.set a.toNat true),(out++[a])),(([]:List (Int×Nat)),a,0+1),(bw,J),(vo,vc,out)) ⟨rfl,⟨⟨hS,xt,gY.1,gY.2⟩,hO⟩,⟨rfl,rfl,rfl,rfl,rfl,trivial⟩,(.drop 0 1 (.refl _))⟩
   ·have au:(ar n l a).length≤0:=by omega
    have hS:=hV.pop au
    refine aT 2 rfl mO ?_
    intro bs
    refine ic (k:=(out).length) (n:=1) [_,_,_,_] hO (.ae 0 bs 0 1 _ rfl (cD rfl)) rfl (by omega) (by decide) (by decide) (fun qn mX xD=>?_)
    have xC:Acc 1 ((out)++[a]).length qn mX (an ((out)++[a])):=by
     rw[List.length_append,show an ((out)++[a])=an (out)++[.int .i64 a] by simp[an]];exact xD
    have qe:(IntKind.i64.wrap (((0+1:Nat):Int)-1)).toNat-Int.toNat 0=0:=by rw[nE];omega
    have dg:0≤(0:Int)∧(0:Int)≤IntKind.i64.wrap (((0+1:Nat):Int)-1)∧IntKind.i64.wrap (((0+1:Nat):Int)-1)≤((0+1:Nat):Int)∧2=2:=⟨by omega,by omega,by omega,rfl⟩
    refine aI.mk dg ?_
    obtain⟨e1,e2,e3,e4⟩:=j4.done hS
    rw[← e1]at xC
    exact .drop 0 2 (.drop 1 1 (.done ⟨(met.set a.toNat true),F,qn,mX,hF.symm,e2,e3,e4,xC,rfl,rfl⟩))
theorem agi{t t':Tm}{b off len es:Nat}{e:Sh}{l:List e.T}(k:Nat)(h:t k=.via (.ae b off len es))(h':t'=eN t [(k,.af e l)])(i:Nat):eI b off len es e l (t i) (t' i):=by
 subst h'
 show eI b off len es e l (t i) (match Nat.beq i k with | true=>.af e l | false=>t i)
 cases hb:Nat.beq i k with
 |true=>rw[jK hb,h];exact .via .here
 |false=>exact .refl _
theorem afC{t t':Tm}(e:Sh)(k:Nat)(h:t k=.via .aj)(h':t'=eN t [(k,.af e [])])(i:Nat):eI 0 0 0 0 .bool [] (t i) (t' i):=by
 subst h'
 show eI 0 0 0 0 .bool [] (t i) (match Nat.beq i k with | true=>.af e [] | false=>t i)
 cases hb:Nat.beq i k with
 |true=>rw[jK hb,h];exact .via (.nil e)
 |false=>exact .refl _
theorem mH.acc{body:Tm→Hp→(Ex→Tm→Hp→Prop)→Prop}{Q:Ex→Tm→Hp→Prop}{t:Tm}(j:Nat)(fr:Hp){acc σ:Hp}{s:Sh}{k:Nat}{v:AV}{cs:List AV}{l:List s.T}(h:Acc s.size k v acc cs)(ht:t j=.via v)(hl:k=l.length)(hc:cs=l.flatMap s.cells)(hp:0<s.size)
  (go:mH body Q (eN t [(j,.af s l)]) (fr++σ)):mH body Q t (fr++(acc++σ)):=by
 cases h with
 |nil=>
  have iv:l=[]:=jv.1 hl.symm
  subst iv
  exact .nil (afC s j ht rfl) go
 |ae b k cs h=>
  refine .dI (.perm (zZ fr [(b,cs)] σ) (.refl _)) ?_
  exact .cJ 0 b 0 k s.size cs s l rfl (by rw[gM,eG (by omega)];exact hc) ⟨hl.symm,rfl,hp⟩ (agi j ht rfl) go
theorem aaG{R:AV→Hp→Prop}(fr:Hp){acc σ:Hp}{s:Sh}{k:Nat}{v x:AV}{cs:List AV}{l:List s.T}(h:Acc s.size k v acc cs)(hl:k=l.length)(hc:cs=l.flatMap s.cells)(hp:0<s.size)(go:Fin R (.tup [.af s l,x]) (fr++σ)):Fin R (.tup [v,x]) (fr++(acc++σ)):=by
 subst hl
 have hlen:=h.length
 refine .perm (zZ fr acc σ) ?_
 generalize hk:l.length=k at h
 cases h with
 |nil=>
  obtain rfl:=jv.1 hk
  exact .nil (cE (.nil _) (.refl _)) go
 |ae b k cs h=>
  subst hk
  exact .cJ 0 b 0 l.length s.size cs s l rfl (by rw[gM,eG (by omega)];exact hc) ⟨rfl,rfl,hp⟩ (cE .here (.refl _)) go
theorem XL{R:AV→Hp→Prop}{r:AV}(a:Hp){σ:Hp}(h:Fin R r σ):Fin R r (a++σ):=.drop 0 a.length (by rw[List.take_zero,ef,List.drop_left];exact h)
set_option maxHeartbeats 4000000
theorem Xa{P:Program}{f:FuncId}{a b:List AV}{v:AV}{σ:Hp}{R:AV→Hp→Prop}(hl:v.leaf=true)(h:ACalls P f (a++.via v::b) σ R):ACalls P f (a++v::b) σ R:=by
 refine⟨h.1,fun F w vs bS aF=>h.2 F w vs ⟨by rw[← bS.1];simp,fun i x hx=>?_⟩ aF⟩
 rcases Nat.lt_trichotomy i a.length with hi | hi | hi
 ·rw[jY hi]at hx
  exact bS.2 i x (by rw[jY hi];exact hx)
 ·subst hi
  rw[iX (a8 _),pL]at hx
  cases hx
  exact .via v _ hl (bS.2 a.length v (by rw[iX (a8 _),pL];rfl))
 ·obtain⟨j,rfl⟩:∃j,i=a.length+(j+1):=⟨i-a.length-1,by omega⟩
  rw[iX (by omega),show a.length+(j+1)-a.length=j+1 by omega]at hx
  exact bS.2 _ x (by rw[iX (by omega),show a.length+(j+1)-a.length=j+1 by omega];exact hx)
theorem Acc.leaf{e k:Nat}{v:AV}{acc:Hp}{cs:List AV}(h:Acc e k v acc cs):v.leaf=true:=by cases h <;> rfl
structure xM(n:Nat)(met:List Bool)(out:List Int):Prop where
 nG:se n met out
 nd:out.Nodup
 rg:∀x∈out,0≤x∧x<(n:Int)
theorem Ur(n:Nat)(l:List bE)(a:Int)(met:List Bool)(out:List Int)(bm:Nat)(vo:AV)(vc σ:Hp)(hl:l.length≤100000)(hn:n≤1000)(ha:0≤a∧a<n)(h:xM n met out)(hO:Acc 1 out.length vo vc (an out)):
  ACalls Tryz.prog 311 [.af (.slice (.int .i64)) (bY n l),.ae bm 0 n 1,.int .i64 a,vo] ((bm,bN met)::(vc++σ))
   (fun r σ'=>∃rh k8 rn q9,k8=out++gU (ar n l) (n+1) a out∧xM n rh k8∧Acc 1 k8.length rn q9 (an k8)∧r=.via rn∧σ'=(bm,bN rh)::(q9++σ)):=
 X2 (R:=fun r σ'=>∃rh k8 rn q9,k8=out++gU (ar n l) (n+1) a out∧xM n rh k8∧Acc 1 k8.length rn q9 (an k8)∧r=rn∧σ'=(bm,bN rh)::(q9++σ)) (Xa (a:=[_,_,_]) (b:=[]) hO.leaf ((ad1 n l a met out bm vo vc σ hl hn ha h.nG h.nd h.rg hO).mono fun _ _ ⟨rh,k8,rn,q9,h1,h2,h3,h4,h5,h6,h7⟩=>⟨rh,k8,rn,q9,h1,⟨h2,h3,h4⟩,h5,h6,h7⟩)) fun r σ' ⟨rh,k8,rn,q9,h1,h2,h3,h4,h5⟩=>⟨h4▸h3.leaf,rh,k8,rn,q9,h1,h2,h3,by rw[h4],h5⟩
theorem afu(bn:Nat)(n:Nat)(x:Int)(σ:Hp):ACalls Tryz.prog 337 [.int .i64 x,.ptr bn 0] ((bn,[.int .i64 n])::σ) (aE (.bool (decide (x<0∨(n:Int)≤x))) ((bn,[.int .i64 n])::σ)):=by
 refine az Tryz.func337 ?_
 refine aq (fun c1=>?_) (fun c1=>?_)
 ·have c1:x<0:=c1
  exact .done ⟨congrArg AV.bool (bu (by omega)).symm,rfl⟩
 ·have c1:¬(x<0):=c1
  refine aa 0 ?_
  refine aq (fun c2=>?_) (fun c2=>?_)
  ·have c2:(↑n:Int)≤x:=c2
   exact .done ⟨congrArg AV.bool (bu (by omega)).symm,rfl⟩
  ·have c2:¬((↑n:Int)≤x):=c2
   exact .done ⟨congrArg AV.bool (bZ (by omega)).symm,rfl⟩
theorem ads(bn n:Nat)(L:List Int)(σ:Hp)(hl:L.length≤1000000)(hL:∀x∈L,0≤x∧x<(n:Int)):ACalls Tryz.prog 345 [.af (.int .i64) L,.fn (.func 337) [] [.ptr bn 0]] ((bn,[.int .i64 n])::σ) (aE (.int .i64 (-1)) ((bn,[.int .i64 n])::σ)):=by
 refine az Tryz.func345 ?_
 refine cc (S:=Nat) (fun k=>[(0,.af (.int .i64) L),(1,.fn (.func 337) [] [.ptr bn 0]),(7,.int .i64 L.length),(8,.int .i64 k)]) (fun _=>(bn,[.int .i64 n])::σ) (fun k=>k≤L.length) (fun k=>L.length-k) 0 ⟨bD _,⟨rfl,rfl,rfl,rfl,trivial⟩,rfl⟩ ?_
 intro k g aP
 have hk:k≤L.length:=aP
 refine aq (p:=(k:Int)<L.length) (fun ab=>?_) (fun au=>?_)
 ·have ab:k<L.length:=by omega
  have hx:=hL _ (cj ab)
  refine aI.mk rfl (bL.mk L[k] (by omega) (get_some ab) ?_)
  refine eK [] (afu bn n L[k] σ) (fun c=>?_) (fun _=>?_)
  ·have c:=fA c;omega
  ·exact bj (k+1) (by show L.length-(k+1)<L.length-k;omega) ab ⟨rfl,rfl,rfl,aY (by omega),trivial⟩ (.refl _)
 ·exact .done ⟨rfl,rfl⟩
theorem adt(bn n:Nat)(L:List Int)(σ:Hp)(hl:L.length≤1000000)(hL:∀x∈L,0≤x∧x<(n:Int)):ACalls Tryz.prog 336 [.af (.int .i64) L,.fn (.func 337) [] [.ptr bn 0]] ((bn,[.int .i64 n])::σ) (aE (.bool false) ((bn,[.int .i64 n])::σ)):=by
 refine az Tryz.func336 ?_
 refine ay [] (ads bn n L σ hl hL) ?_
 exact .done ⟨rfl,rfl⟩
theorem abt(n:Nat)(l:List bE)(fr:List Int)(σ:Hp)(hl:l.length≤100000)(hf:fr.length≤100000)(dT:fq n l=true)(tM:∀x∈fr,0≤x∧x<(n:Int)):ACalls Tryz.prog 310 [.int .i64 n,.af dB l,.af (.int .i64) fr] σ (aE (.int .i64 0) σ):=by
 refine az Tryz.func310 ?_
 intro aG
 refine aa 0 ?_
 refine eK [] (C2 n l _ (by omega)) (fun _=>?_) (fun c=>absurd c (by rw[dT];decide))
 refine ay [] (adt aG n fr σ (by omega) tM) ?_
 exact .drop 0 1 (.done ⟨rfl,rfl⟩)
def qa(n:Nat)(l:List bE)(fr:List Int):List Int:=rU n (ar n l) (fr++(List.range n).map fun a:Nat=>(a:Int))
theorem PM(n:Nat)(nx:Int→List Int)(L:List Int)(a:Int):rU n nx (L++[a])=rU n nx L++gU nx (n+1) a (rU n nx L):=by unfold rU;rw[tV];rfl
theorem afq(n:Nat)(l:List bE)(fr:List Int)(σ:Hp)(hl:l.length≤100000)(hf:fr.length≤100000)(dT:fq n l=true)(tM:∀x∈fr,0≤x∧x<(n:Int)):ACalls Tryz.prog 288 [.int .i64 n,.af dB l,.af (.int .i64) fr] σ (fun r σ'=>r=.tup [.af (.int .i64) (qa n l fr),.int .i64 0]∧σ'=σ∧(∃met,xM n met (qa n l fr))):=by
 have hn:1≤n∧n≤256:=by
  unfold fq at dT
  simp only[bR,decide_eq_true_eq]at dT
  omega
 have fR:∀k,(cC ((List.range k).map fun a:Nat=>ar n l a)).length=k:=fun k=>by rw[ud,cm,pN]
 refine az Tryz.func288 ?_
 refine ay [] (abt n l fr _ hl hf dT tM) ?_
 refine .wrap 9 .aj rfl rfl ?_
 refine cc (S:=Nat×AV×Hp) (fun x=>[(0,.int .i64 n),(1,.af dB l),(2,.af (.int .i64) fr),(9,.via x.2.1),(23,.int .i64 n),(24,.int .i64 x.1)]) (fun x=>x.2.2++σ) (fun x=>x.1≤n∧Acc 1 x.1 x.2.1 x.2.2 (cC ((List.range x.1).map fun a:Nat=>ar n l a))) (fun x=>n-x.1) (0,.aj,[]) ⟨⟨bD _,.nil⟩,⟨rfl,rfl,rfl,rfl,rfl,rfl,trivial⟩,rfl⟩ ?_
 rintro⟨k,v,acc⟩ g ⟨hk,b9⟩
 have hk:k≤n:=hk
 have b9:Acc 1 k v acc (cC ((List.range k).map fun a:Nat=>ar n l a)):=b9
 refine aq (p:=(k:Int)<n) (fun ab=>?_) (fun au=>?_)
 ·have ab:k<n:=by omega
  refine ay [] (AL n l k _ hl) ?_
  intro bs
  refine ic [_] b9 (.ae 0 bs 0 1 _ rfl (cD rfl)) rfl (by omega) (by decide) (by decide) (fun v' aU h'=>?_)
  refine bj (k+1,v',aU) (by show n-(k+1)<n-k;omega) ⟨ab,?_⟩ ⟨rfl,rfl,rfl,rfl,rfl,aY (by omega),trivial⟩ (.drop 0 1 (.refl _))
  show Acc 1 (k+1) v' aU (cC ((List.range (k+1)).map fun a:Nat=>ar n l a))
  rw[sH,cO,show cC (List.map (fun a:Nat=>ar n l a) (List.range k)++List.map (fun a:Nat=>ar n l a) [k])=cC (List.map (fun a:Nat=>ar n l a) (List.range k))++[.af (.int .i64) (ar n l k)] from cO]
  exact h'
 ·have au:n=k:=by omega
  subst au
  have hlx:∀(c:Nat) (L:List Int) (x:Int),(∀x∈L,0≤x∧x<(n:Int))→L[c]?=some x→0≤x∧x<(n:Int):=fun c L x h hx=>h x (cq hx)
  have hnT:((n:Nat):Int).toNat=n:=bM n
  refine aZ ?_
  intro bm
  refine .wrap 12 .aj rfl rfl ?_
  refine mH.acc 9 [_] (s:=.slice (.int .i64)) b9 rfl ((fR n).symm.trans (ud _)) (wC _) (by decide) ?_
  refine cc (S:=Nat×(List Bool×List Int)×(AV×Hp)) (fun x=>[(0,.int .i64 n),(9,.af (.slice (.int .i64)) (bY n l)),(11,.ae bm 0 n 1),(12,.via x.2.2.1),(37,.af (.int .i64) fr),(38,.int .i64 fr.length),(39,.int .i64 x.1)]) (fun x=>(bm,bN x.2.1.1)::(x.2.2.2++σ)) (fun x=>x.1≤fr.length∧xM n x.2.1.1 x.2.1.2∧x.2.1.2=rU n (ar n l) (fr.take x.1)∧Acc 1 x.2.1.2.length x.2.2.1 x.2.2.2 (an x.2.1.2)) (fun x=>fr.length-x.1) (0,(List.replicate n false,[]),(.aj,[])) ⟨⟨Nat.zero_le _,⟨⟨by simp,fun u hu=>by rw[List.getD_eq_getElem?_getD,List.getElem?_replicate,if_pos hu];rfl⟩,List.nodup_nil,fun x hx=>absurd hx (by simp)⟩,rfl,.nil⟩,⟨rfl,rfl,rfl,rfl,rfl,rfl,rfl,trivial⟩,by rw[show bN (List.replicate n false)=cM [.bool false] n from (CC n).symm];rfl⟩ ?_
  rintro⟨j,⟨met,out⟩,⟨vo,ac⟩⟩ g ⟨hj,hP,ho,hO⟩
  have hj:j≤fr.length:=hj
  have hP:xM n met out:=hP
  have ho:out=rU n (ar n l) (fr.take j):=ho
  have hO:Acc 1 out.length vo ac (an out):=hO
  refine aq (p:=(j:Int)<fr.length) (fun ab=>?_) (fun au=>?_)
  ·have ab:j<fr.length:=by omega
   have hz:=tM _ (cj ab)
   refine aI.mk rfl (bL.mk fr[j] (by omega) (get_some ab) ?_)
   refine .mk [] _ (Ur n l fr[j] met out bm vo ac σ hl (by omega) hz hP hO) ?_
   rintro _ _ ⟨met2,Dz,qn,mX,h1,h2,h3,rfl,rfl⟩
   refine bj (j+1,(met2,Dz),(qn,mX)) (by show fr.length-(j+1)<fr.length-j;omega) ⟨ab,h2,?_,h3⟩ ⟨rfl,rfl,rfl,rfl,rfl,rfl,aY (by omega),trivial⟩ (.refl _)
   show Dz=rU n (ar n l) (fr.take (j+1))
   rw[fL ab,PM,← ho];exact h1
  ·have au:¬(j:Int)<fr.length:=au
   rw[eG (by omega)]at ho
   refine cc (S:=Nat×(List Bool×List Int)×(AV×Hp)) (fun x=>[(9,.af (.slice (.int .i64)) (bY n l)),(11,.ae bm 0 n 1),(12,.via x.2.2.1),(49,.int .i64 n),(50,.int .i64 x.1)]) (fun x=>(bm,bN x.2.1.1)::(x.2.2.2++σ)) (fun x=>x.1≤n∧xM n x.2.1.1 x.2.1.2∧x.2.1.2=rU n (ar n l) (fr++(List.range x.1).map fun a:Nat=>(a:Int))∧Acc 1 x.2.1.2.length x.2.2.1 x.2.2.2 (an x.2.1.2)) (fun x=>n-x.1) (0,(met,out),(vo,ac)) ⟨⟨Nat.zero_le _,hP,by rw[ho];simp,hO⟩,⟨rfl,rfl,rfl,rfl,rfl,trivial⟩,rfl⟩ ?_
   clear hP ho hO hj au
   rintro⟨j,⟨met,out⟩,⟨vo,ac⟩⟩ g ⟨hj,hP,ho,hO⟩
   have hj:j≤n:=hj
   have hP:xM n met out:=hP
   have ho:out=rU n (ar n l) (fr++(List.range j).map fun a:Nat=>(a:Int)):=ho
   have hO:Acc 1 out.length vo ac (an out):=hO
   refine aq (p:=(j:Int)<n) (fun ab=>?_) (fun au=>?_)
   ·have ab:j<n:=by omega
    refine .mk [] _ (Ur n l j met out bm vo ac σ hl (by omega) ⟨by omega,by omega⟩ hP hO) ?_
    rintro _ _ ⟨met2,Dz,qn,mX,h1,h2,h3,rfl,rfl⟩
    refine bj (j+1,(met2,Dz),(qn,mX)) (by show n-(j+1)<n-j;omega) ⟨ab,h2,?_,h3⟩ ⟨rfl,rfl,rfl,rfl,aY (by omega),trivial⟩ (.refl _)
    show Dz=rU n (ar n l) (fr++(List.range (j+1)).map fun a:Nat=>(a:Int))
    rw[sH,cO,← dQ,show List.map (fun a:Nat=>(a:Int)) [j]=[(j:Int)] from rfl,PM,← ho];exact h1
   ·have au:n=j:=by omega
    subst au
    have ho:out=qa n l fr:=ho
    rw[← ho]
    exact aaG [_] (s:=.int .i64) hO rfl (ui _) (by decide) (.drop 0 1 (.done ⟨rfl,rfl,met,hP⟩))
inductive xL(n:Int)(l:List bE)(fr:List Int):Int→Prop where
 |root {a:Int} (h:a∈fr) (h1:0≤a∧a<n):xL n l fr a
 |step {a b:Int} (h:xL n l fr a) (hb:b∈ar n l a):xL n l fr b
theorem xL.node{n:Int}{l:List bE}{fr:List Int}{a:Int}(h:xL n l fr a):0≤a∧a<n:=by
 cases h with
 |root h h1=>exact h1
 |step h hb=>exact (lD.1 hb).1
theorem Ca:∀(n:Nat) (l:List Int),l.Nodup→(∀z∈l,0≤z∧z<n)→l.length≤n
 | 0,[],_,_=>a8 _
 | 0,z::l,_,h=>by have:=h z (ck ..);omega
 |n+1,l,hd,h=>by
  have h1:=Ca n (l.filter fun z=>decide (z≠n)) (hd.filter _) fun z hz=>by
   obtain⟨q1,q2⟩:=nQ.1 hz
   have:=h z q1
   have q2:=fA q2
   omega
  have h2:l.length≤(l.filter fun z=>decide (z≠(n:Int))).length+1:=by
   clear h h1
   induction l with
   |nil=>simp
   |cons z l ih=>
    have kp:=mr.1 hd
    by_cases hz:z=n
    ·subst hz
     have e:(((n:Int)::l).filter fun z=>decide (z≠(n:Int)))=l:=by
      rw[List.filter_cons_of_neg (by simp)]
      exact gu3.2 fun y hy=>bu fun e=>kp.1 (e▸hy)
     rw[e];simp
    ·have:=ih kp.2
     rw[List.filter_cons_of_pos (by simp[hz])]
     simp only[iy];omega
  omega
theorem YO{b:List Bool}{k:Nat}{a:Int}:a∈L8 b k↔(0≤a∧a<k)∧b.getD a.toNat false=true:=by
 unfold L8
 rw[dP]
 constructor
 ·rintro⟨i,hi,rfl⟩
  obtain⟨h1,h2⟩:=nQ.1 hi
  exact⟨by have:=gm.1 h1;omega,h2⟩
 ·rintro⟨h1,h2⟩
  exact⟨a.toNat,nQ.2 ⟨gm.2 (by omega),h2⟩,by omega⟩
theorem Ga(b:List Bool)(i j:Nat):(b.set i true).getD j false=true↔(i=j∧i<b.length)∨b.getD j false=true:=by
 rw[bg,e8,bg]
 by_cases h:i=j
 ·subst h
  rw[ah rfl]
  by_cases h2:i<b.length
  ·rw[if_pos h2];simp[h2]
  ·rw[if_neg h2];simp[h2]
 ·rw[if_neg h];simp[h]
theorem YQ{n:Int}{b:List Bool}{a:Int}(hb:(b.length:Int)=n)(j:Nat):(wZ n b a).getD j false=true↔(0≤a∧a<n∧(j:Int)=a)∨b.getD j false=true:=by
 unfold wZ
 by_cases h:0≤a∧a<n
 ·rw[ah h,Ga]
  constructor
  ·rintro (⟨e,_⟩ | e)
   ·exact .inl ⟨h.1,h.2,by omega⟩
   ·exact .inr e
  ·rintro (⟨_,_,e⟩ | e)
   ·exact .inl ⟨by omega,by omega⟩
   ·exact .inr e
 ·rw[ag h]
  exact⟨.inr,fun h2=>by rcases h2 with h2 | h2;exact absurd ⟨h2.1,h2.2.1⟩ h;exact h2⟩
theorem Kn{n:Int}:∀(fr:List Int) {b:List Bool},(b.length:Int)=n→∀j:Nat,(fr.foldl (wZ n) b).getD j false=true↔((j:Int)∈fr∧(j:Int)<n)∨b.getD j false=true
 | [],b,_,j=>by simp
 |a::fr,b,hb,j=>by
  rw[Jc,Kn fr (by rw[O4];exact hb) j,YQ hb j,eF]
  constructor
  ·rintro (⟨h1,h2⟩ | ⟨h1,h2,h3⟩ | h)
   ·exact .inl ⟨.inr h1,h2⟩
   ·exact .inl ⟨.inl h3,by omega⟩
   ·exact .inr h
  ·rintro (⟨h1 | h1,h2⟩ | h)
   ·exact .inr (.inl ⟨by omega,by omega,h1⟩)
   ·exact .inl ⟨h1,h2⟩
   ·exact .inr (.inr h)
theorem JL(n:Int):∀(fr:List Int) (b:List Bool),(fr.foldl (wZ n) b).length=b.length
 | [],_=>rfl
 |a::fr,b=>by rw[Jc,JL n fr,O4]
def okB(n:Int)(l:List bE)(fr:List Int)(b:List Bool):Prop:=(b.length:Int)=n∧∀j:Nat,b.getD j false=true→xL n l fr j
theorem ae6{n:Int}{l:List bE}{fr:List Int}{b:List Bool}{e:bE}(he:e∈l)(h:okB n l fr b):okB n l fr (rF n b e):=by
 unfold rF
 by_cases c:(0≤e.1∧e.1<n)∧(0≤e.2.1∧e.2.1<n)∧b.getD e.1.toNat false=true
 ·rw[ah c]
  refine⟨by rw[cN];exact h.1,fun j hj=>?_⟩
  rcases (Ga _ _ _).1 hj with ⟨e1,_⟩ | hj
  ·have:=h.2 _ c.2.2
   refine .step this (lD.2 ⟨by omega,by omega,e,he,by omega,by omega⟩)
  ·exact h.2 j hj
 ·rw[ag c];exact h
theorem RC{n:Int}{l:List bE}{fr:List Int}:∀(L:List bE) {b:List Bool},(∀e∈L,e∈l)→okB n l fr b→okB n l fr (L.foldl (rF n) b)
 | [],_,_,h=>h
 |e::L,_,hL,h=>RC L (fun x hx=>hL x (cW _ hx)) (ae6 (hL e (ck ..)) h)
theorem Ud{n:Int}{b:List Bool}{e:bE}{j:Nat}(h:b.getD j false=true):(rF n b e).getD j false=true:=by
 unfold rF
 split
 ·exact (Ga _ _ _).2 (.inr h)
 ·exact h
theorem Cm{n:Int}:∀(L:List bE) {b:List Bool} {j:Nat},b.getD j false=true→(L.foldl (rF n) b).getD j false=true
 | [],_,_,h=>h
 |_::L,_,_,h=>Cm L (Ud h)
theorem RD{n:Int}:∀(L:List bE) {b:List Bool} {e:bE},(b.length:Int)=n→e∈L→(0≤e.1∧e.1<n)→(0≤e.2.1∧e.2.1<n)→b.getD e.1.toNat false=true→(L.foldl (rF n) b).getD e.2.1.toNat false=true
 |x::L,b,e,hb,he,h1,h2,h3=>by
  rcases eF.1 he with rfl | he
  ·refine Cm L ?_
   unfold rF
   rw[ah ⟨h1,h2,h3⟩]
   exact (Ga _ _ _).2 (.inl ⟨rfl,by omega⟩)
  ·exact RD L (by rw[PY];exact hb) he h1 h2 (Ud h3)
def uY(b:List Bool):Nat:=b.countP id
theorem KQ:∀{b c:List Bool},b.length=c.length→(∀j:Nat,b.getD j false=true→c.getD j false=true)→uY b≤uY c∧(uY b=uY c→b=c)
 | [],[],_,_=>⟨a8 _,fun _=>rfl⟩
 |x::b,y::c,hl,h=>by
  obtain⟨h1,h2⟩:=KQ (b:=b) (c:=c) (by simpa using hl) fun j hj=>h (j+1) hj
  have h0:=h 0
  unfold uY at h1 h2 ⊢
  simp only[Jf]
  cases x <;> cases y <;> simp at h0 ⊢
  ·exact⟨h1,h2⟩
  ·omega
  ·exact⟨h1,h2⟩
theorem JK(n:Int):∀(L:List bE) (b:List Bool),(L.foldl (rF n) b).length=b.length
 | [],_=>rfl
 |e::L,b=>by rw[Jc,JK n L,PY]
theorem PJ{n:Int}{l:List bE}{b:List Bool}(h:o9 n l b=b):∀k,uk n l k b=b
 | 0=>rfl
 |k+1=>by rw[rounds_succ,h];exact PJ h k
theorem Pc{n:Int}{l:List bE}:∀(k:Nat) {b:List Bool},(b.length:Int)=n→b.length≤uY b+k→o9 n l (uk n l k b)=uk n l k b
 | 0,b,hb,hc=>by
  have hl:(o9 n l b).length=b.length:=JK n l b
  have hu:=KQ (b:=b) (c:=o9 n l b) hl.symm fun j hj=>Cm l hj
  have h2:uY (o9 n l b)≤(o9 n l b).length:=List.countP_le_length
  show o9 n l b=b
  exact (hu.2 (by omega)).symm
 |k+1,b,hb,hc=>by
  have hl:(o9 n l b).length=b.length:=JK n l b
  have hu:=KQ (b:=b) (c:=o9 n l b) hl.symm fun j hj=>Cm l hj
  by_cases h:o9 n l b=b
  ·rw[PJ h];exact h
  ·rw[rounds_succ]
   refine Pc k (by rw[hl];exact hb) ?_
   have:uY b≠uY (o9 n l b):=fun e=>h (hu.2 e).symm
   omega
theorem PI{n:Int}{l:List bE}{fr:List Int}:∀(k:Nat) {b:List Bool},okB n l fr b→okB n l fr (uk n l k b)
 | 0,_,h=>h
 |k+1,_,h=>by rw[rounds_succ];exact PI k (RC l (fun _ h=>h) h)
theorem Qv{n:Int}{l:List bE}:∀(k:Nat) {b:List Bool} {j:Nat},b.getD j false=true→(uk n l k b).getD j false=true
 | 0,_,_,h=>h
 |k+1,_,_,h=>by rw[rounds_succ];exact Qv k (Cm l h)
theorem Xx{n:Nat}{l:List bE}{fr:List Int}(a:Int):a∈LB n l fr↔xL n l fr a:=by
 have iv:(((List.replicate n false).length:Nat):Int)=n:=by rw[fZ]
 have ao:okB n l fr (fr.foldl (wZ n) (List.replicate n false)):=by
  refine⟨by rw[JL];exact iv,fun j hj=>?_⟩
  rcases (Kn fr iv j).1 hj with ⟨h1,h2⟩ | h
  ·exact .root h1 ⟨by omega,h2⟩
  ·rw[bg,vU]at h
   split at h <;> cases h
 have bO:okB n l fr (CY n l fr):=PI _ ao
 have DP:o9 n l (CY n l fr)=CY n l fr:=by
  refine Pc _ ao.1 ?_
  rw[JL,fZ,bM];omega
 unfold LB
 rw[bM,YO]
 constructor
 ·rintro⟨h1,h2⟩
  have:=bO.2 _ h2
  rwa [lZ h1.1]at this
 ·intro h
  refine⟨h.node,?_⟩
  induction h with
  | @root x hf hn=>
   refine Qv _ ((Kn fr iv _).2 (.inl ⟨?_,?_⟩))
   ·rw[lZ hn.1];exact hf
   ·omega
  | @step x y hx hy ih=>
   obtain⟨tG,rr,e,he,e1,e2⟩:=lD.1 hy
   rw[← DP]
   have:=RD l (b:=CY n l fr) bO.1 he (by omega) (by omega) (by rw[e1];exact ih)
   rw[e2]at this
   exact this
theorem wm{a:Int}:∀{P:List (List Int)},P.flatten.Nodup→∀{i j:Nat} {p q:List Int},P[i]?=some p→P[j]?=some q→a∈p→a∈q→i=j
 | [],_,i,_,_,_,h,_,_,_=>by simp at h
 |r::P,hd,i,j,p,q,hi,hj,hp,hq=>by
  rw[Bz]at hd
  obtain⟨_,h2,h3⟩:=oU.1 hd
  cases i with
  |zero=>
   cases j with
   |zero=>rfl
   |succ j=>
    obtain rfl:r=p:=by simpa using hi
    have hj:P[j]?=some q:=by simpa using hj
    exact absurd rfl (h3 a hp a (oT.2 ⟨q,cq hj,hq⟩))
  |succ i=>
   have hi:P[i]?=some p:=by simpa using hi
   cases j with
   |zero=>
    obtain rfl:r=q:=by simpa using hj
    exact absurd rfl (h3 a hq a (oT.2 ⟨p,cq hi,hp⟩))
   |succ j=>
    have hj:P[j]?=some q:=by simpa using hj
    exact congrArg (· + 1) (wm h2 hi hj hp hq)
theorem qK.le{n:Nat}{nx:Int→List Int}{P:List (List Int)}(h:qK n nx P){x y:Int}(hr:Rx nx x y){i:Nat}{p:List Int}(hi:P[i]?=some p)(hx:x∈p):∃(j:Nat) (q:List Int),j≤i∧P[j]?=some q∧y∈q:=by
 induction hr with
 |refl=>exact⟨i,p,a8 _,hi,hx⟩
 |step _ hc ih=>
  obtain⟨j,q,h1,h2,h3⟩:=ih
  obtain⟨k,r,k1,k2,k3⟩:=h.JF j q h2 _ h3 _ hc
  exact⟨k,r,fx k1 h1,k2,k3⟩
theorem adK{n:Int}{l:List bE}{a b:Int}:xL n l [a] b↔(0≤a∧a<n)∧Rx (ar n l) a b:=by
 constructor
 ·intro h
  induction h with
  |root hm h1=>rw[bB.1 hm]at h1 ⊢;exact⟨h1,.refl _⟩
  |step _ hb ih=>exact⟨ih.1,.step ih.2 hb⟩
 ·rintro⟨ha,h⟩
  induction h with
  |refl=>exact .root (bB.2 rfl) ha
  |step _ hc ih=>exact .step ih hc
theorem GA{n:Nat}{l:List bE}{a b:Int}:A6 n l a b=true↔(0≤a∧a<n)∧Rx (ar n l) a b:=by
 unfold A6
 rw[CK,Xx,adK]
theorem Yz(n:Nat)(l:List bE)(a:Int):(qY n l a).Pairwise (· < ·):=by
 unfold qY LC
 rw[BA]
 refine List.Pairwise.filter _ ?_
 exact List.pairwise_lt_range.imp fun h=>by omega
theorem Ld{n:Nat}{l:List bE}{P:List (List Int)}(h:qK n (ar n l) P){p:List Int}{a:Int}(hp:p∈P)(ha:a∈p):qY n l a=p:=by
 obtain⟨i,hi⟩:=E3 hp
 have sD:=h.node p hp a ha
 refine Ll (Yz ..) (h.A7 p hp) fun z=>?_
 rw[YN]
 constructor
 ·rintro⟨k,hk,hb,rfl⟩
  rw[bR,GA,GA]at hb
  obtain⟨j,q,j1,j2,j3⟩:=h.le hb.1.2 hi ha
  obtain⟨k2,r,k3,k4,k5⟩:=h.le hb.2.2 j2 j3
  have:=wm h.nd hi k4 ha k5
  have:i=j:=by omega
  subst this
  rw[hi]at j2
  rw[Option.some.inj j2];exact j3
 ·intro hz
  have gY:=h.node p hp z hz
  refine⟨z.toNat,by omega,?_,by omega⟩
  rw[lZ gY.1,bR,GA,GA]
  exact⟨⟨sD,h.OA p hp a ha z hz⟩,gY,h.OA p hp z hz a ha⟩
def lp(i:Int)(p:List Int)(w:List Int):List Int:=p.foldl (fun w a=>w.set a.toNat i) w
def mK(P:List (List Int)):Nat→List Int→List Int
 | 0,w=>w
 |k+1,w=>lp k (P.getD k []) (mK P k w)
def bC(n:Nat)(P:List (List Int)):List Int:=mK P P.length (List.replicate n 0)
theorem Fz(i:Int):∀(p w:List Int),(lp i p w).length=w.length
 | [],_=>rfl
 |a::p,w=>by
  show (lp i p (w.set a.toNat i)).length=_
  rw[Fz i p,cN]
theorem BU(P:List (List Int)):∀(k:Nat) (w:List Int),(mK P k w).length=w.length
 | 0,_=>rfl
 |k+1,w=>by
  show (lp k (P.getD k []) (mK P k w)).length=_
  rw[Fz,BU P k]
theorem Pu(n:Nat)(P:List (List Int)):(bC n P).length=n:=by unfold bC;rw[BU,fZ]
theorem SD(i:Int){a:Int}(ha:0≤a):∀(p w:List Int),(∀z∈p,0≤z)→a.toNat<w.length→(lp i p w).getD a.toNat 0=if a∈p then i else w.getD a.toNat 0
 | [],w,_,_=>by simp[lp]
 |z::p,w,hp,hw=>by
  show (lp i p (w.set z.toNat i)).getD a.toNat 0=_
  have hz:=hp z (ck ..)
  rw[SD i ha p _ (fun y hy=>hp y (cW _ hy)) (by rw[cN];exact hw),mz]
  by_cases h1:a∈p
  ·rw[ah h1,ah (cW _ h1)]
  ·rw[ag h1]
   by_cases h2:a=z
   ·rw[ah ⟨by omega,hw⟩,ah (by rw[h2];exact ck ..)]
   ·rw[ag (by omega),ag (by rw[eF];exact fun h=>h.elim h2 h1)]
theorem uv{P:List (List Int)}{i:Nat}{p:List Int}(h:P[i]?=some p):P.getD i []=p:=by rw[bg,h];rfl
theorem SC{n:Nat}{nx:Int→List Int}{P:List (List Int)}(h:qK n nx P){i:Nat}{p:List Int}(hi:P[i]?=some p){a:Int}(ha:a∈p):∀k,k≤P.length→i<k→(mK P k (List.replicate n 0)).getD a.toNat 0=i
 | 0,_,hk=>absurd hk (nR _)
 |k+1,mQ,hk=>by
  have sD:=h.node p (cq hi) a ha
  obtain⟨q,hq⟩:∃q,P[k]?=some q:=⟨P[k],bF (by omega)⟩
  show (lp k (P.getD k []) _).getD a.toNat 0=_
  rw[uv hq,SD k sD.1 _ _ (fun z hz=>(h.node q (cq hq) z hz).1) (by rw[BU,fZ];omega)]
  by_cases hm:a∈q
  ·rw[ah hm,wm h.nd hi hq ha hm]
  ·rw[ag hm]
   have:i≠k:=fun e=>by subst e;rw[hi]at hq;exact hm (Option.some.inj hq▸ha)
   exact SC h hi ha k (by omega) (by omega)
theorem abC{n:Nat}{nx:Int→List Int}{P:List (List Int)}(h:qK n nx P){i:Nat}{p:List Int}(hi:P[i]?=some p){a:Int}(ha:a∈p):(bC n P).getD a.toNat 0=i:=
 SC h hi ha P.length (a8 _) (cg.1 hi).1
def nr(l:List bE)(W:List Int)(T:List Bool)(i:Int):Bool:= !T.getD i.toNat false&&!l.any fun x=>decide (W.getD x.2.1.toNat 0=i)&&decide (W.getD x.1.toNat 0≠i)&&!T.getD (W.getD x.1.toNat 0).toNat false
def iC(P:List (List Int))(i:Nat):Int:=(P.getD i []).headD 0
def fj(P:List (List Int))(l:List bE)(W:List Int)(T:List Bool):Nat→Int
 | 0=> -1
 |k+1=>if nr l W T k=true∧(fj P l W T k<0∨iC P k<iC P (fj P l W T k).toNat) then k else fj P l W T k
theorem FK(P:List (List Int))(l:List bE)(W:List Int)(T:List Bool):∀k:Nat,(fj P l W T k = -1∧∀i:Nat,i<k→nr l W T i=false)∨∃b:Nat,fj P l W T k=b∧b<k∧nr l W T b=true∧∀i:Nat,i<k→nr l W T i=true→iC P b≤iC P i
 | 0=>.inl ⟨rfl,fun _ h=>absurd h (nR _)⟩
 |k+1=>by
  have ih:=FK P l W T k
  by_cases c:nr l W T k=true∧(fj P l W T k<0∨iC P k<iC P (fj P l W T k).toNat)
  ·have e:fj P l W T (k+1)=k:=ah c
   rw[e]
   refine .inr ⟨k,rfl,by omega,c.1,fun i hi hf=>?_⟩
   by_cases EA:i=k
   ·subst EA;exact kq _
   ·rcases ih with ⟨h1,h2⟩ | ⟨b,h1,h2,h3,h4⟩
    ·rw[h2 i (by omega)]at hf;cases hf
    ·have:=h4 i (by omega) hf
     rw[h1,bM]at c
     rcases c.2 with c | c
     ·omega
     ·omega
  ·have e:fj P l W T (k+1)=fj P l W T k:=ag c
   rw[e]
   rcases ih with ⟨h1,h2⟩ | ⟨b,h1,h2,h3,h4⟩
   ·refine .inl ⟨h1,fun i hi=>?_⟩
    by_cases EA:i=k
    ·subst EA
     exact E1.2 fun hf=>c ⟨hf,.inl (by omega)⟩
    ·exact h2 i (by omega)
   ·refine .inr ⟨b,h1,by omega,h3,fun i hi hf=>?_⟩
    by_cases EA:i=k
    ·subst EA
     rw[h1,bM]at c
     exact Int.not_lt.1 fun ab=>c ⟨hf,.inr ab⟩
    ·exact h4 i (by omega) hf
def dD(P:List (List Int))(l:List bE)(W:List Int):Nat→List Bool×List (List Int)
 | 0=>(List.replicate P.length false,[])
 |k+1=>((dD P l W k).1.set (fj P l W (dD P l W k).1 P.length).toNat true,(dD P l W k).2++[P.getD (fj P l W (dD P l W k).1 P.length).toNat []])
def HI(n:Nat)(l:List bE)(told:List Int)(a:Nat):Bool:=decide ((qY n l a).headD 0=(a:Int))&&!sn told a&&Mj l (qY n l a) told
def Dy(n:Nat)(l:List bE):Nat→List (List Int)×List Int→List (List Int)×List Int
 | 0,s=>s
 |f+1,s=>if s.2.length<n then (match (List.range n).find? (HI n l s.2) with | none=>s | some a=>Dy n l f (s.1++[qY n l a],s.2++qY n l a)) else s
def kl(n:Nat)(l:List bE):List (List Int):=(Dy n l (n+1) ([],[])).1
theorem XJ{p:Nat→Bool}{n a:Nat}(ha:a<n)(hp:p a=true)(h:∀b,b<a→p b=false):(List.range n).find? p=some a:=by
 rw[List.find?_range_eq_some]
 exact⟨hp,gm.2 ha,fun b hb=>by rw[h b hb];rfl⟩
structure oI(n:Nat)(l:List bE)(P:List (List Int)):Prop where
 ok:qK n (ar n l) P
 all:∀x:Int,0≤x→x<n→∃p∈P,x∈p
theorem oI.idx{n:Nat}{l:List bE}{P:List (List Int)}(h:oI n l P){x:Int}(hx:0≤x∧x<n):∃(i:Nat) (p:List Int),P[i]?=some p∧x∈p∧(bC n P).getD x.toNat 0=i:=by
 obtain⟨p,hp,rq⟩:=h.all x hx.1 hx.2
 obtain⟨i,hi⟩:=E3 hp
 exact⟨i,p,hi,rq,abC h.ok hi rq⟩
theorem xZ{P:List (List Int)}{i:Nat}{p:List Int}(h:P[i]?=some p):i<P.length:=(cg.1 h).1
structure OI(P:List (List Int))(k:Nat)(T:List Bool)(out:List (List Int)):Prop where
 tl:T.length=P.length
 ol:out.length=k
 aH:T.countP id=k
 mem:∀q,q∈out↔∃i:Nat,T.getD i false=true∧P[i]?=some q
 nd:out.flatten.Nodup
theorem QW{n:Nat}{l:List bE}{P:List (List Int)}(h:oI n l P)(hr:∀e∈l,(0≤e.1∧e.1<(n:Int))∧0≤e.2.1∧e.2.1<(n:Int)){k:Nat}{T:List Bool}{out:List (List Int)}(hO:OI P k T out){i:Nat}{p:List Int}(hi:P[i]?=some p):nr l (bC n P) T i=true↔T.getD i false=false∧Mj l p out.flatten=true:=by
 unfold nr Mj
 rw[bM,bR,lB,lB,By,fy]
 refine and_congr_right fun _=>?_
 refine forall_congr' fun e=>?_
 refine forall_congr' fun he=>?_
 obtain⟨q1,q2⟩:=hr e he
 obtain⟨a,pa,ha,Et,wa⟩:=h.idx q1
 obtain⟨b,pb,hb,qy,wb⟩:=h.idx q2
 rw[wa,wb,bM]
 have dY:∀{j:Nat} {r:List Int} {x:Int},P[j]?=some r→x∈r→(sn p x=true↔j=i):=fun {j r x} hj hx=>by
  rw[CK]
  exact⟨fun hm=>wm h.ok.nd hj hi hx hm,fun e=>by subst e;rw[hi]at hj;rw[Option.some.inj hj];exact hx⟩
 have aeZ:sn out.flatten e.1=true↔T.getD a false=true:=by
  rw[CK,oT]
  constructor
  ·rintro⟨q,hq,hm⟩
   obtain⟨j,hj,qA⟩:=(hO.mem q).1 hq
   rw[wm h.ok.nd ha qA Et hm];exact hj
  ·intro ht
   exact⟨pa,(hO.mem pa).2 ⟨a,ht,ha⟩,Et⟩
 have h1:=dY ha Et
 have h2:=dY hb qy
 rw[bR,bR,decide_eq_true_eq,decide_eq_true_eq,lB,lB,Bool.and_eq_false_iff,Bool.and_eq_false_iff,Jj,Jj]
 have h3:sn p e.2.1=false↔b≠i:=by rw[← Bool.not_eq_true,h2]
 rw[aeZ,h1,h3,← Bool.not_eq_true]
 constructor
 ·intro hn
  by_cases c1:b=i
  ·by_cases c2:a=i
   ·exact .inl (.inr c2)
   ·exact .inr (by
     by_cases c3:T.getD a false=true
     ·exact c3
     ·exact absurd ⟨⟨by omega,by omega⟩,c3⟩ hn)
  ·exact .inl (.inl c1)
 ·rintro ((c | c) | c) ⟨⟨d1,d2⟩,d3⟩
  ·exact c (by omega)
  ·exact d2 (by omega)
  ·exact d3 c
theorem count_set{T:List Bool}{i:Nat}(hi:i<T.length)(h:T.getD i false=false):(T.set i true).countP id=T.countP id+1:=by
 induction T generalizing i with
 |nil=>simp at hi
 |cons t T ih=>
  cases i with
  |zero=>
   have:t=false:=h
   subst this
   simp
  |succ i=>
   have:=ih (i:=i) (by simpa using hi) h
   rw[List.set_cons_succ,Jf,Jf,this];omega
theorem XT:∀{T:List Bool},T.countP id<T.length→∃i,i<T.length∧T.getD i false=false∧∀j,i<j→j<T.length→T.getD j false=true:=by
 intro T
 induction T with
 |nil=>intro h;simp at h
 |cons t T ih=>
  intro h
  rw[Jf,iy]at h
  by_cases c:T.countP id<T.length
  ·obtain⟨i,h1,h2,h3⟩:=ih c
   refine⟨i+1,by rw[iy];omega,h2,fun j hj hl=>?_⟩
   cases j with
   |zero=>omega
   |succ j=>exact h3 j (by omega) (by rw[iy]at hl;omega)
  ·have ht:t=false:=by
    cases t with
    |false=>rfl
    |true=>simp at h;omega
   subst ht
   have cH:T.countP id=T.length:=by have:=List.countP_le_length (p:=id) (l:=T);omega
   refine⟨0,by simp,rfl,fun j hj hl=>?_⟩
   cases j with
   |zero=>omega
   |succ j=>
    have hl:j<T.length:=by rw[iy]at hl;omega
    have:=List.countP_eq_length.1 cH _ (cj hl)
    show T.getD j false=true
    rw[bg,bF hl];exact this
theorem B8{n:Nat}{nx:Int→List Int}{P:List (List Int)}(h:qK n nx P):P.length≤n∧P.flatten.length≤n:=by
 have h1:P.flatten.length≤n:=Ca n _ h.nd fun z hz=>by
  obtain⟨p,hp,hz⟩:=oT.1 hz
  exact h.node p hp z hz
 refine⟨fx ?_ h1,h1⟩
 have:=h.ne
 clear h h1
 induction P with
 |nil=>exact a8 _
 |cons p P ih=>
  have h1:=mW.2 (this p (ck ..))
  have h2:=ih fun q hq=>this q (cW _ hq)
  rw[Bz,bP,iy];omega
theorem KG{n:Nat}{l:List bE}{P:List (List Int)}(h:oI n l P)(hr:∀e∈l,(0≤e.1∧e.1<(n:Int))∧0≤e.2.1∧e.2.1<(n:Int)){k:Nat}(hk:k<P.length){T:List Bool}{out:List (List Int)}(hO:OI P k T out):
  ∃(b:Nat) (p:List Int),fj P l (bC n P) T P.length=b∧P[b]?=some p∧OI P (k+1) (T.set b true) (out++[p])∧out.flatten.length<n∧∃a:Nat,(List.range n).find? (HI n l out.flatten)=some a∧qY n l a=p:=by
 obtain⟨i,vG,pH,hi3⟩:=XT (T:=T) (by rw[hO.aH,hO.tl];exact hk)
 rw[hO.tl]at vG hi3
 obtain⟨pi,hpi⟩:∃p,P[i]?=some p:=⟨P[i],bF vG⟩
 have UW:nr l (bC n P) T i=true:=by
  unfold nr
  rw[bM,pH,bR]
  refine⟨rfl,?_⟩
  rw[lB]
  refine By.2 fun e he=>?_
  obtain⟨q1,q2⟩:=hr e he
  obtain⟨a,pa,ha,Et,wa⟩:=h.idx q1
  obtain⟨b,pb,hb,qy,wb⟩:=h.idx q2
  rw[wa,wb,bM,bR,bR,decide_eq_true_eq,decide_eq_true_eq,lB]
  rintro⟨⟨d1,d2⟩,d3⟩
  obtain⟨j,q,j1,j2,j3⟩:=h.ok.JF a pa ha e.1 Et e.2.1 (lD.2 ⟨q2,q1,e,he,rfl,rfl⟩)
  have:=wm h.ok.nd hb j2 qy j3
  rw[hi3 a (by omega) (xZ ha)]at d3
  cases d3
 rcases FK P l (bC n P) T P.length with ⟨_,ko⟩ | ⟨b,hb,oQ,hbf,sB⟩
 ·rw[ko i vG]at UW;cases UW
 obtain⟨p,hp⟩:∃p,P[b]?=some p:=⟨P[b],bF oQ⟩
 have gj:=cq hp
 obtain⟨vK,hbF⟩:=(QW h hr hO hp).1 hbf
 have Es:p ∉ out:=fun hm=>by
  obtain⟨j,hj,qA⟩:=(hO.mem p).1 hm
  obtain⟨z,hz⟩:=List.exists_mem_of_ne_nil _ (h.ok.ne p gj)
  rw[wm h.ok.nd hp qA hz hz,hj]at vK;cases vK
 have VA:∀z∈p,z ∉ out.flatten:=fun z hz hm=>by
  obtain⟨q,hq,Nh⟩:=oT.1 hm
  obtain⟨j,hj,qA⟩:=(hO.mem q).1 hq
  rw[wm h.ok.nd hp qA hz Nh,hj]at vK;cases vK
 have ca:(out.flatten++p).Nodup:=oU.2 ⟨hO.nd,(h.ok.A7 p gj).imp fun h=>by omega,fun x hx y hy e=>VA y hy (e▸hx)⟩
 have qd:∀z∈out.flatten++p,0≤z∧z<(n:Int):=fun z hz=>by
  rcases bV.1 hz with hz | hz
  ·obtain⟨q,hq,Nh⟩:=oT.1 hz
   obtain⟨j,_,qA⟩:=(hO.mem q).1 hq
   exact h.ok.node q (cq qA) z Nh
  ·exact h.ok.node p gj z hz
 have hlen:=Ca n _ ca qd
 rw[bP]at hlen
 have tI:=mW.2 (h.ok.ne p gj)
 refine⟨b,p,hb,hp,⟨by rw[List.length_set];exact hO.tl,by rw[List.length_append,hO.ol];rfl,by rw[count_set (by rw[hO.tl];exact oQ) vK,hO.aH],fun q=>?_,by rw[List.flatten_append];simpa using ca⟩,by omega,?_⟩
 ·rw[bV,bB,hO.mem]
  constructor
  ·rintro (⟨j,hj,qA⟩ | rfl)
   ·exact⟨j,by rw[J3];split;rfl;exact hj,qA⟩
   ·exact⟨b,by rw[J3,ah ⟨rfl,by rw[hO.tl];exact oQ⟩],hp⟩
  ·rintro⟨j,hj,qA⟩
   rw[J3]at hj
   by_cases e:b=j
   ·subst e;rw[hp]at qA;exact .inr (Option.some.inj qA).symm
   ·rw[ag (fun h=>e h.1)]at hj
    exact .inl ⟨j,hj,qA⟩
 have UU:∀{j:Nat} {q:List Int},P[j]?=some q→iC P j∈q∧iC P j=q.headD 0∧∀z∈q,iC P j≤z:=fun {j q} hj=>by
  have aS:=h.ok.ne q (cq hj)
  have hs:=h.ok.A7 q (cq hj)
  unfold iC
  rw[uv hj]
  cases q with
  |nil=>exact absurd rfl aS
  |cons z q=>
   refine⟨ck ..,rfl,fun y hy=>?_⟩
   rcases eF.1 hy with rfl | hy
   ·exact kq _
   ·have:=(BC.1 hs).1 y hy
    show z≤y
    omega
 obtain⟨m1,m2,_⟩:=UU hp
 have hhn:=h.ok.node p gj _ m1
 refine⟨(iC P b).toNat,XJ (by omega) ?_ fun a' IZ=>E1.2 fun hc=>?_,?_⟩
 ·unfold HI
  rw[lZ hhn.1,Ld h.ok gj m1,hbF,I3,bR,decide_eq_true_eq,lB]
  exact⟨m2.symm,E1.2 fun hm=>VA _ m1 (CK.1 hm)⟩
 ·unfold HI at hc
  rw[bR,bR,decide_eq_true_eq,lB]at hc
  obtain⟨⟨c1,c2⟩,c3⟩:=hc
  obtain⟨j,q,hj,hq,_⟩:=h.idx (x:=(a':Int)) (by omega)
  rw[Ld h.ok (cq hj) hq]at c1 c3
  obtain⟨_,m4,_⟩:=UU hj
  have hjT:T.getD j false=false:=E1.2 fun ht=>by
   have:sn out.flatten a'=true:=CK.2 (oT.2 ⟨q,(hO.mem q).2 ⟨j,ht,hj⟩,hq⟩)
   rw[this]at c2;cases c2
  have:=sB j (xZ hj) ((QW h hr hO hj).2 ⟨hjT,c3⟩)
  rw[m4,c1]at this
  omega
 ·rw[lZ hhn.1];exact Ld h.ok gj m1
theorem GH{n:Nat}{l:List bE}{P:List (List Int)}(h:oI n l P)(hr:∀e∈l,(0≤e.1∧e.1<(n:Int))∧0≤e.2.1∧e.2.1<(n:Int)):∀k,k≤P.length→OI P k (dD P l (bC n P) k).1 (dD P l (bC n P) k).2∧(k<P.length→∃b:Nat,fj P l (bC n P) (dD P l (bC n P) k).1 P.length=b∧b<P.length)∧∀f,Dy n l (k+f) ([],[])=Dy n l f ((dD P l (bC n P) k).2,(dD P l (bC n P) k).2.flatten):=by
 intro k
 induction k with
 |zero=>
  intro _
  have ko:∀i,¬((List.replicate P.length false).getD i false=true):=fun i h1=>by
   rw[bg,vU]at h1
   split at h1 <;> cases h1
  have h0:OI P 0 (List.replicate P.length false) []:=⟨List.length_replicate,rfl,(by rw[List.countP_eq_zero];intro x hx;rw[List.eq_of_mem_replicate hx];simp),fun q=>⟨fun h=>absurd h (by simp),fun ⟨i,h1,_⟩=>absurd h1 (ko i)⟩,List.nodup_nil⟩
  refine⟨h0,fun hk=>?_,fun f=>by rw[ef];rfl⟩
  obtain⟨b,p,hb,hp,_⟩:=KG h hr hk h0
  exact⟨b,hb,xZ hp⟩
 |succ k ih=>
  intro hk
  obtain⟨hO,_,hf⟩:=ih (by omega)
  obtain⟨b,p,hb,hp,xD,ab,a,ha,vL⟩:=KG h hr (by omega) hO
  have e1:(dD P l (bC n P) (k+1)).1=(dD P l (bC n P) k).1.set b true:=by
   show (dD P l (bC n P) k).1.set (fj P l (bC n P) (dD P l (bC n P) k).1 P.length).toNat true=_
   rw[hb,bM]
  have e2:(dD P l (bC n P) (k+1)).2=(dD P l (bC n P) k).2++[p]:=by
   show (dD P l (bC n P) k).2++[P.getD (fj P l (bC n P) (dD P l (bC n P) k).1 P.length).toNat []]=_
   rw[hb,bM,uv hp]
  rw[e1,e2]
  refine⟨xD,fun dX=>?_,fun f=>?_⟩
  ·obtain⟨b2,p2,rD,dA,_⟩:=KG h hr dX xD
   exact⟨b2,rD,xZ dA⟩
  ·rw[show k+1+f=k+(f+1) by omega,hf]
   show (if _ then _ else _)=_
   rw[ah ab,ha]
   show Dy n l f (_++[qY n l a],_++qY n l a)=_
   rw[vL,List.flatten_append];simp
theorem LD{n:Nat}{l:List bE}{P:List (List Int)}(h:oI n l P)(hr:∀e∈l,(0≤e.1∧e.1<(n:Int))∧0≤e.2.1∧e.2.1<(n:Int)):(dD P l (bC n P) P.length).2=kl n l:=by
 obtain⟨hO,_,hf⟩:=GH h hr P.length (a8 _)
 have hl:=(B8 h.ok).1
 have hf:=hf (n+1-P.length)
 rw[show P.length+(n+1-P.length)=n+1 by omega]at hf
 unfold kl
 rw[hf]
 obtain⟨f,hfe⟩:∃f,n+1-P.length=f+1:=⟨n-P.length,by omega⟩
 rw[hfe]
 show _=(if _ then _ else _:List (List Int)×List Int).1
 have cH:∀i,i<P.length→(dD P l (bC n P) P.length).1.getD i false=true:=fun i hi=>by
  have hc:(dD P l (bC n P) P.length).1.countP id=(dD P l (bC n P) P.length).1.length:=by rw[hO.aH,hO.tl]
  have:=List.countP_eq_length.1 hc _ (cj (n:=i) (by rw[hO.tl];exact hi))
  rw[bg,bF (by rw[hO.tl];exact hi)];exact this
 have mb:∀x∈(List.range n).map (fun i:Nat=>(i:Int)),x∈(dD P l (bC n P) P.length).2.flatten:=fun x hx=>by
  obtain⟨i,hi,rfl⟩:=dP.1 hx
  have hi:=gm.1 hi
  obtain⟨j,p,hj,hp,_⟩:=h.idx (x:=(i:Int)) (by omega)
  exact oT.2 ⟨p,(hO.mem p).2 ⟨j,cH j (xZ hj),hj⟩,hp⟩
 have au:=Kz (l:=(List.range n).map (fun i:Nat=>(i:Int))) (by rw[List.nodup_iff_pairwise_ne,BA];exact List.pairwise_lt_range.imp fun h=>by omega) mb
 rw[cm,pN]at au
 rw[ag (by show ¬((dD P l (bC n P) P.length).2.flatten.length<n);omega)]
end Go.Proofs.YtnikdflhefijbaaGreat
