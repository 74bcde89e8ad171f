import Derived.Test.YtnikdflhefijbaaGreatBs15
import Derived.Test.YtnikdflhefijbaaGreatBs16
import Derived.Test.YtnikdflhefijbaaGreatBs6
import Derived.Test.YtnikdflhefijbaaGreatBs10
import Derived.Test.YtnikdflhefijbaaGreatBs11
import Derived.Test.YtnikdflhefijbaaGreatBs12
namespace Go.Proofs.YtnikdflhefijbaaGreat
open Go.RowKit
set_option maxRecDepth 100000
def lQ(nx:Int→List Int)(seen:List Int):Nat→Nat
 | 0=>0
 |n+1=>lQ nx seen n+if (n:Int)∈seen then 0 else (nx n).length+2
theorem EJ{nx:Int→List Int}{seen:List Int}{b:Nat}(hb:(b:Int) ∉ seen):∀n,lQ nx (seen++[(b:Int)]) n+(if b<n then (nx b).length+2 else 0)=lQ nx seen n
 | 0=>rfl
 |n+1=>by
  have ih:=EJ (nx:=nx) hb n;unfold lQ
  by_cases h:b=n
  ·subst h;rw[aB (HH _)]at ih;rw[if_pos (by simp),if_neg hb,if_pos (Nat.lt_succ_self _)];omega
  ·have h1:((n:Int)∈seen++[(b:Int)])↔(n:Int)∈seen:=by
    rw[bQ,bj];exact⟨fun h'=>h'.elim id fun e=>absurd (Int.ofNat.inj e).symm h,.inl⟩
   by_cases h2:(n:Int)∈seen
   ·rw[az (h1.2 h2),az h2]
    by_cases h3:b<n
    ·rw[az h3]at ih;rw[az (by omega)];omega
    ·rw[aB h3]at ih;rw[aB (by omega)];omega
   ·rw[aB (fun h'=>h2 (h1.1 h')),aB h2]
    by_cases h3:b<n
    ·rw[az h3]at ih;rw[az (by omega)];omega
    ·rw[aB h3]at ih;rw[aB (by omega)];omega
def ey(nx:Int→List Int):List (Int×Nat)→Nat
 | []=>0
 |t::w=>ey nx w+((nx t.1).length-t.2)+1
def se(n:Nat)(met:List Bool)(seen:List Int):Prop:=met.length=n∧∀u:Nat,u<n→met.getD u false=decide ((u:Int)∈seen)
theorem se.at_{n:Nat}{met:List Bool}{seen:List Int}(h:se n met seen){a:Int}(ha:0≤a∧a<n):met.getD a.toNat false=decide (a∈seen):=by
 have:=h.2 a.toNat (by omega);rw[mE ha.1]at this;exact this
theorem se.set{n:Nat}{met:List Bool}{seen:List Int}(h:se n met seen){a:Int}(ha:0≤a∧a<n):se n (met.set a.toNat true) (seen++[a]):=by
 refine⟨by rw[dY];exact h.1,fun u hu=>?_⟩;rw[bK,gQ]
 by_cases e:a.toNat=u
 ·subst e;rw[az rfl,az (by rw[h.1];omega),mE ha.1];simp
 ·rw[aB e,← bK,h.2 u hu];have e2:¬(u:Int)=a:=fun e'=>e (by omega);simp[e2]
structure jM(n:Nat)(nx:Int→List Int)(F:List Int)(met:List Bool)(seen out:List Int)(gL:List (Int×Nat)):Prop where
 nj:se n met seen
 nd:seen.Nodup
 rg:∀x∈seen,0≤x∧x<(n:Int)
 len:out.length+gL.length=seen.length
 wy:∀t∈gL,(0≤t.1∧t.1<(n:Int))∧t.2≤(nx t.1).length
 tell:F=out++k9 n nx gL seen
 mem:∀x,x∈seen↔x∈out++gL.map Prod.fst
 od:(out++gL.map Prod.fst).Nodup
theorem EU:∀(n:Nat) (l:List Int),l.Nodup→(∀z∈l,0≤z∧z<(n:Int))→l.length≤n
 | 0,l,_,h=>by
  cases l with
  |nil=>exact bg _
  |cons z l=>have:=h z (cF ..);omega
 |n+1,l,hn,h=>by
  have h1:=EU n (l.erase (n:Int)) (hn.erase _) (fun z hz=>by
   rw[hn.mem_erase_iff]at hz;have:=h z hz.2;have:=hz.1
   omega)
  have h2:=List.length_erase (a:=(n:Int)) (l:=l);split at h2 <;> omega
theorem jM.small{n:Nat}{nx:Int→List Int}{F:List Int}{met:List Bool}{seen out:List Int}{gL:List (Int×Nat)}(h:jM n nx F met seen out gL):out.length+gL.length≤n:=by
 rw[h.len];exact EU n seen h.nd h.rg
theorem jM.skip{n:Nat}{nx:Int→List Int}{F:List Int}{met:List Bool}{seen out:List Int}{v:Int}{k:Nat}{w:List (Int×Nat)}(h:jM n nx F met seen out ((v,k)::w))(hk:k<(nx v).length)(hb:(nx v)[k]∈seen):jM n nx F met seen out ((v,k+1)::w):=
 ⟨h.nj,h.nd,h.rg,h.len,fun t ht=>by
  rcases dW.1 ht with rfl | ht
  ·exact⟨(h.wy (v,k) (cF ..)).1,hk⟩
  ·exact h.wy t (dq _ ht),by rw[h.tell,Zz hk hb],h.mem,h.od⟩
theorem jM.push{n:Nat}{nx:Int→List Int}(cz:∀x,∀y∈nx x,0≤y∧y<(n:Int)){F:List Int}{met:List Bool}{seen out:List Int}{v:Int}{k:Nat}{w:List (Int×Nat)}(h:jM n nx F met seen out ((v,k)::w))(hk:k<(nx v).length)(hb:(nx v)[k] ∉ seen):jM n nx F (met.set (nx v)[k].toNat true) (seen++[(nx v)[k]]) out (((nx v)[k],0)::(v,k+1)::w):=by
 have hr:=cz v _ (bU hk);refine⟨h.nj.set hr,List.nodup_append.2 ⟨h.nd,by simp,fun a ha b vA e=>?_⟩,fun x hx=>?_,?_,fun t ht=>?_,by rw[h.tell,ZA cz hk hb],fun x=>?_,?_⟩
 ·rw[bj.1 vA]at e;exact hb (e▸ha)
 ·rcases bQ.1 hx with hx | hx
  ·exact h.rg x hx
  ·rw[bj.1 hx];exact hr
 ·have:=h.len;rw[bB];show out.length+(w.length+1+1)=seen.length+1;have this:out.length+(w.length+1)=seen.length:=this;omega
 ·rcases dW.1 ht with rfl | ht
  ·exact⟨hr,aV _⟩
  ·rcases dW.1 ht with rfl | ht
   ·exact⟨(h.wy (v,k) (cF ..)).1,hk⟩
   ·exact h.wy t (dq _ ht)
 ·rw[bQ,h.mem,bQ,bQ,bj];show _↔_∨x∈(nx v)[k]::v::w.map Prod.fst;rw[dW (a:=x)];exact⟨fun h'=>h'.elim (fun h'=>h'.elim .inl fun h'=>.inr (.inr h')) fun h'=>.inr (.inl h'),fun h'=>h'.elim (fun h'=>.inl (.inl h')) fun h'=>h'.elim .inr fun h'=>.inl (.inr h')⟩
 ·have hp:(out++(nx v)[k]::v::w.map Prod.fst).Perm ((nx v)[k]::(out++v::w.map Prod.fst)):=ns;exact hp.nodup_iff.2 (mD.2 ⟨fun hm=>hb ((h.mem _).2 hm),h.od⟩)
theorem jM.pop{n:Nat}{nx:Int→List Int}{F:List Int}{met:List Bool}{seen out:List Int}{v:Int}{k:Nat}{w:List (Int×Nat)}(h:jM n nx F met seen out ((v,k)::w))(hk:(nx v).length≤k):jM n nx F met seen (out++[v]) w:=by
 refine⟨h.nj,h.nd,h.rg,?_,fun t ht=>h.wy t (dq _ ht),by rw[h.tell,abC hk,cU];rfl,fun x=>by rw[h.mem,cU];rfl,by rw[cU];exact h.od⟩;have:=h.len;rw[bB];have this:out.length+(w.length+1)=seen.length:=this;show out.length+1+w.length=_;omega
theorem jM.top{n:Nat}{nx:Int→List Int}{met:List Bool}{out:List Int}(hm:se n met out)(hn:out.Nodup)(hr:∀x∈out,0≤x∧x<(n:Int)){a:Int}(ha:0≤a∧a<(n:Int))(h:a ∉ out):jM n nx (out++fe nx (n+1) a out) (met.set a.toNat true) (out++[a]) out [(a,0)]:=by
 refine⟨hm.set ha,List.nodup_append.2 ⟨hn,by simp,fun x hx b vA e=>?_⟩,fun x hx=>?_,by rw[List.length_append];rfl,fun t ht=>by rw[List.mem_singleton.1 ht];exact⟨ha,Nat.zero_le _⟩,by rw[abB h],fun _=>Iff.rfl,?_⟩
 ·rw[bj.1 vA]at e;exact h (e▸hx)
 ·rcases bQ.1 hx with hx | hx
  ·exact hr x hx
  ·rw[bj.1 hx];exact ha
 ·refine List.nodup_append.2 ⟨hn,by simp,fun x hx b vA e=>?_⟩;rw[bj.1 (show b∈[a] from vA)]at e;exact h (e▸hx)
theorem jM.done{n:Nat}{nx:Int→List Int}{F:List Int}{met:List Bool}{seen out:List Int}(h:jM n nx F met seen out []):F=out∧se n met F∧F.Nodup∧∀x∈F,0≤x∧x<(n:Int):=by
 have e:F=out:=by rw[h.tell];unfold k9;exact fC _
 have hm:∀x,x∈seen↔x∈out:=fun x=>by have:=h.mem x;rwa [show out++List.map Prod.fst []=out from fC _]at this
 have ho:=h.od;rw[show out++List.map Prod.fst []=out from fC _]at ho;subst e;exact⟨rfl,⟨h.nj.1,fun u hu=>(h.nj.2 u hu).trans (by rw[decide_eq_decide];exact hm _)⟩,ho,fun x hx=>h.rg x ((hm x).2 hx)⟩
set_option maxHeartbeats 8000000
theorem VB{P:Program}{TT:TypeId→Option TI}{fn:Go.Func}{a c:Go.Code}{xs:List AV}{σ:Hp}{R:AV→Hp→Prop}{S:Type}(hb:fn.body=some (.seq a (.scope c)))(fS:S→Nat)(L:S→List (Nat×AV))(H:S→Hp)(p:S→Prop)(μ:S→Nat)
  (hr:Ce (mi P TT 998) c fS L H p μ (uE TT fn.results.toList R))
  (h:Ce (mi P TT 998) c fS L H p μ (uE TT fn.results.toList R)→codeF P TT (mi P TT 999) (.seq a (.scope c)) (t0 xs) σ (uE TT fn.results.toList R)):ta P TT fn xs σ R:=by
 have h1:mi P TT 1000 (.seq a (.scope c)) (t0 xs) σ (uE TT fn.results.toList R):=h hr;unfold ta;rw[hb];exact h1
abbrev NF:=(Bool×Int×List Bool×List Int)×(List (Int×Nat)×Int×Nat)×(Nat×List AV)×(AV×Hp×List Int)
def VsP(n:Nat)(nx:Int→List Int)(F:List Int)(x:NF):Prop:=match x.1.1 with
 |true=>jM n nx F (x.1.2.2.1.set x.1.2.1.toNat true) (x.1.2.2.2++[x.1.2.1]) x.2.2.2.2.2 ((x.1.2.1,0)::(x.2.1.2.1,x.2.1.2.2)::x.2.1.1.reverse)∧x.1.2.2.1.length=n∧0≤x.1.2.1∧x.1.2.1<n
 |false=>jM n nx F x.1.2.2.1 x.1.2.2.2 x.2.2.2.2.2 ((x.2.1.2.1,x.2.1.2.2)::x.2.1.1.reverse)
def VsM(n:Nat)(nx:Int→List Int)(x:NF):Nat:=match x.1.1 with
 |true=>ey nx ((x.1.2.1,0)::(x.2.1.2.1,x.2.1.2.2)::x.2.1.1.reverse)+lQ nx (x.1.2.2.2++[x.1.2.1]) n+1
 |false=>ey nx ((x.2.1.2.1,x.2.1.2.2)::x.2.1.1.reverse)+lQ nx x.1.2.2.2 n
theorem acH(n:Nat)(l:List aO)(a:Int)(met:List Bool)(out:List Int)(bm:Nat)(vo:AV)(uU σ:Hp)(_hl:l.length≤100000)(hn:n≤1000)(ha:0≤a∧a<n)(hm:se n met out)(cm:out.Nodup)(Mc:∀x∈out,0≤x∧x<(n:Int))(hO:Acc 1 out.length vo uU (aj out)):
  ACalls Tryz.prog 311 [.ae (.slice (.int .i64)) (ck n l),.af bm 0 n 1,.int .i64 a,.via vo] ((bm,bG met)::(uU++σ))
   (fun r σ'=>∃qX kM q9 qP,kM=out++fe (au n l) (n+1) a out∧se n qX kM∧kM.Nodup∧(∀x∈kM,0≤x∧x<(n:Int))∧Acc 1 kM.length q9 qP (aj kM)∧r=q9∧σ'=(bm,bG qX)::(qP++σ)):=by
 have cz:∀x,∀y∈au n l x,0≤y∧y<(n:Int):=fun x y hy=>(kD.1 hy).1;obtain⟨F,hF⟩:∃F,out++fe (au n l) (n+1) a out=F:=⟨_,rfl⟩
 refine ao Tryz.func311 ?_
 refine VB (S:=NF) rfl (fun x=>match x.1.1 with | true=>0 | false=>1)
  (fun x=>[(0,.ae (.slice (.int .i64)) (ck n l)),(1,.af bm 0 n 1),(2,.int .i64 x.1.2.1),(3,.via x.2.2.2.1),(9,.af x.2.2.1.1 0 (x.2.1.1.length+1) 2)])
  (fun x=>(bm,bG x.1.2.2.1)::(x.2.2.1.1,bL (x.2.1.1++[(x.2.1.2.1,x.2.1.2.2)])++x.2.2.1.2)::(x.2.2.2.2.1++σ))
  (fun x=>VsP n (au n l) F x∧Acc 1 x.2.2.2.2.2.length x.2.2.2.1 x.2.2.2.2.1 (aj x.2.2.2.2.2))
  (fun x=>VsM n (au n l) x) ?_ ?_
 ·rintro⟨⟨f,b,mW,iD⟩,⟨wy,v,k⟩,⟨bw,J⟩,⟨C6,Em,kL⟩⟩ g ⟨hP,xk⟩;have xk:Acc 1 kL.length C6 Em (aj kL):=xk;cases f with
  |true=>
   obtain⟨hV,Lj,l5,xf⟩:=hP;have hV:jM n (au n l) F (mW.set b.toNat true) (iD++[b]) kL ((b,0)::(v,k)::wy.reverse):=hV;have Lj:mW.length=n:=Lj;have l5:0≤b:=l5;have xf:b<n:=xf;have qh:(bL (wy++[(v,k)])).length=(wy.length+1)*2:=by rw[mb,bB];rfl
   have aga:=hV.small;rw[gH,gH,tO]at aga;refine aH ?_;refine bM 0 rfl (tZ rfl true l5 (by omega)) ?_;intro ax;refine xK (k:=wy.length+1) (n:=1) [_,_] (.af bw (wy.length+1) (bL (wy++[(v,k)])) J qh) (.af 0 ax 0 1 _ rfl (cj rfl)) rfl (by omega) (by decide) (by decide) (fun v' aJ h'=>?_);obtain⟨om,J2,rfl,rfl,_⟩:=h'.pos (by omega);have Gr:(wy++[(v,k)]).reverse=(v,k)::wy.reverse:=by rw[List.reverse_append];rfl
   have qi:bL (wy++[(v,k)])++[AV.int .i64 b,.int .i64 ((0:Nat):Int)]++J2=bL ((wy++[(v,k)])++[(b,0)])++J2:=by rw[ov (wy++[(v,k)]) [(b,0)]];rfl
   have s9:(wy++[(v,k)]).length=wy.length+1:=by rw[bB];rfl
   rw[← Gr]at hV;have wM:=hV.wy (b,0) (cF ..);have eC:0≤b∧b<(n:Int):=wM.1;have AD:0≤(au n l b).length:=wM.2;have kR:=vR n l b;have qj:=hV.small;rw[gH,tO,s9]at qj;have tE:((mW.set b.toNat true)).length=n:=hV.nj.1;have mZ:IntKind.i64.wrap ((((wy.length+1)+1:Nat):Int)-1)=(((wy.length+1):Nat):Int):=by rw[jF (by omega)];omega
   have hX:0+(IntKind.i64.wrap ((((wy.length+1)+1:Nat):Int)-1)).toNat*2=((wy++[(v,k)])).length*2:=by rw[mZ,s9];omega
   have mA:ef ⟨.int .i64,1,8,[.int .i64 0]⟩ (bL (wy++[(v,k)])++[AV.int .i64 b,.int .i64 ((0:Nat):Int)]++J2) (0+(IntKind.i64.wrap ((((wy.length+1)+1:Nat):Int)-1)).toNat*2+0)=some (.int .i64 b):=by rw[qi];exact gD rfl (by rw[hX];exact rJ rfl)
   have lr:ef ⟨.int .i64,1,8,[.int .i64 0]⟩ (bL (wy++[(v,k)])++[AV.int .i64 b,.int .i64 ((0:Nat):Int)]++J2) (0+(IntKind.i64.wrap ((((wy.length+1)+1:Nat):Int)-1)).toNat*2+1)=some (.int .i64 ((0:Nat):Int)):=by rw[qi];exact gD rfl (by rw[hX];exact Br rfl)
   have fk:(bL ((wy++[(v,k)])++[(b,0)])++J2).length=((wy++[(v,k)])).length*2+2+(J2:List AV).length:=by rw[bB,mb,bB];show (_+1)*2+_=_;omega
   have jr:IntKind.i64.wrap (((0:Nat):Int)+1)=((0+1:Nat):Int):=by rw[jF (by omega)];omega
   have vh:kC ⟨.int .i64,1,8,[.int .i64 0]⟩ (bL (wy++[(v,k)])++[AV.int .i64 b,.int .i64 ((0:Nat):Int)]++J2) (0+(IntKind.i64.wrap ((((wy.length+1)+1:Nat):Int)-1)).toNat*2+1) (.int .i64 (IntKind.i64.wrap (((0:Nat):Int)+1)))=some (bL ((wy++[(v,k)])++[(b,0+1)])++J2):=by
    rw[qi,mO rfl rfl (by rw[hX,fk];omega),hX,jr,BA rfl]
   have uA:2=2∧0≤IntKind.i64.wrap ((((wy.length+1)+1:Nat):Int)-1)∧IntKind.i64.wrap ((((wy.length+1)+1:Nat):Int)-1)<(((wy.length+1)+1:Nat):Int):=⟨rfl,by omega,by omega⟩
   refine aF.mk uA ?_;refine .quiet (by kernel_rfl) ?_;refine aS 2 rfl lr ?_;refine aS 2 rfl mA ?_;refine aF.mk rfl ?_;refine aY.mk (au n l b) (by omega) (oE eC) ?_;refine ai (p:=((0:Nat):Int)<(au n l b).length) (fun ab=>?_) (fun ak=>?_)
   ·have ab:0<(au n l b).length:=by omega
    obtain⟨z,hz⟩:∃z,(au n l b)[0]=z:=⟨_,rfl⟩
    have Dg:z∈au n l b:=hz▸bU ab;have fi:=(kD.1 Dg).1;refine .quiet (by kernel_rfl) ?_;refine aS 2 rfl mA ?_;refine aF.mk rfl ?_;refine aY.mk (au n l b) (by omega) (oE eC) ?_;refine aS 2 rfl lr ?_;refine aF.mk rfl ?_;refine aY.mk z (by omega) ((get_some ab).trans (congrArg some hz)) ?_;refine aS 2 rfl lr ?_;refine bM 2 rfl vh ?_;refine aH ?_;refine ec.jG 1 _ _ rfl (qF rfl fi.1 (by rw[tE];omega)) (fun c2=>?_) (fun c2=>?_)
    ·have gX:z∈(iD++[b]):=by rw[hV.nj.at_ fi]at c2;exact eX c2
     have hS:=hV.skip ab (by rw[hz];exact gX);have fU:ey (au n l) ((b,0+1)::((wy++[(v,k)])).reverse)+1=ey (au n l) ((b,0)::((wy++[(v,k)])).reverse):=by show ey (au n l) ((wy++[(v,k)])).reverse+((au n l b).length-(0+1))+1+1=ey (au n l) ((wy++[(v,k)])).reverse+((au n l b).length-0)+1;omega
     exact .mk ((false,z,(mW.set b.toNat true),(iD++[b])),((wy++[(v,k)]),b,0+1),(om,J2),(C6,Em,kL)) rfl (by show ey (au n l) ((b,0+1)::((wy++[(v,k)])).reverse)+lQ (au n l) ((iD++[b])) n<_;(show _<ey (au n l) ((b,0)::(v,k)::wy.reverse)+lQ (au n l) (iD++[b]) n+1);rw[← Gr];omega) ⟨hS,xk⟩ ⟨rfl,rfl,rfl,rfl,by rw[s9];rfl,trivial⟩ (.drop 0 1 (.refl _))
    ·have gX:z ∉ (iD++[b]):=by rw[hV.nj.at_ fi]at c2;exact py c2
     have hS:=hV.push cz ab (by rw[hz];exact gX);rw[hz]at hS;have fU:ey (au n l) ((z,0)::(b,0+1)::((wy++[(v,k)])).reverse)=ey (au n l) ((b,0)::((wy++[(v,k)])).reverse)+(au n l z).length:=by show ey (au n l) ((wy++[(v,k)])).reverse+((au n l b).length-(0+1))+1+((au n l z).length-0)+1=ey (au n l) ((wy++[(v,k)])).reverse+((au n l b).length-0)+1+(au n l z).length;omega
     have DC:=EJ (nx:=au n l) (seen:=(iD++[b])) (b:=z.toNat) (by rw[mE fi.1];exact gX) n;rw[az (by omega),mE fi.1]at DC;exact .mk ((true,z,(mW.set b.toNat true),(iD++[b])),((wy++[(v,k)]),b,0+1),(om,J2),(C6,Em,kL)) rfl (by show ey (au n l) ((z,0)::(b,0+1)::((wy++[(v,k)])).reverse)+lQ (au n l) (((iD++[b]))++[z]) n+1<_;(show _<ey (au n l) ((b,0)::(v,k)::wy.reverse)+lQ (au n l) (iD++[b]) n+1);rw[← Gr];omega) ⟨⟨hS,tE,fi.1,fi.2⟩,xk⟩ ⟨rfl,rfl,rfl,rfl,by rw[s9];rfl,trivial⟩ (.drop 0 1 (.refl _))
   ·have ak:(au n l b).length≤0:=by omega
    have hS:=hV.pop ak;refine aS 2 rfl mA ?_;intro bs;refine eS (k:=(kL).length) (n:=1) [_,_,_,_] xk (.af 0 bs 0 1 _ rfl (cj rfl)) rfl (by omega) (by decide) (by decide) (fun p8 mF tI=>?_)
    have xj:Acc 1 ((kL)++[b]).length p8 mF (aj ((kL)++[b])):=by
     rw[List.length_append,show aj ((kL)++[b])=aj (kL)++[.int .i64 b] by simp[aj]];exact tI
    have pR:(IntKind.i64.wrap ((((wy.length+1)+1:Nat):Int)-1)).toNat-Int.toNat 0=(wy.length+1):=by rw[mZ];omega
    have bP:0≤(0:Int)∧(0:Int)≤IntKind.i64.wrap ((((wy.length+1)+1:Nat):Int)-1)∧IntKind.i64.wrap ((((wy.length+1)+1:Nat):Int)-1)≤(((wy.length+1)+1:Nat):Int)∧2=2:=⟨by omega,by omega,by omega,rfl⟩
    refine aF.mk bP ?_;have iX:(IntKind.i64.wrap ((((wy.length+1)+1:Nat):Int)-1)).toNat-Int.toNat 0=(wy).length+1:=pR.trans (rfl);have iG:AV.af om (0+Int.toNat 0*2) ((IntKind.i64.wrap ((((wy.length+1)+1:Nat):Int)-1)).toNat-Int.toNat 0) 2=.af om 0 ((wy).length+1) 2:=by rw[iX];rfl
    have nR:bL (wy++[(v,k)])++[AV.int .i64 b,.int .i64 ((0:Nat):Int)]++J2=bL (wy++[(v,k)])++([.int .i64 b,.int .i64 ((0:Nat):Int)]++J2):=by rw[qi,ov,cU];rfl
    rw[Gr]at hS;refine ai (p:=(0:Int)<(((IntKind.i64.wrap ((((wy.length+1)+1:Nat):Int)-1)).toNat-Int.toNat 0:Nat):Int)) (fun c3=>?_) (fun c3=>?_);rotate_left
    ·rw[iX]at c3;omega
    have fU:ey (au n l) ((v,k)::(wy).reverse)+1≤ey (au n l) ((b,0)::(v,k)::(wy).reverse):=by show _≤ey (au n l) ((v,k)::(wy).reverse)+((au n l b).length-0)+1;omega
    have hE:(bm,bG (mW.set b.toNat true))::(om,bL (wy++[(v,k)])++[AV.int .i64 b,.int .i64 ((0:Nat):Int)]++J2)::(mF++σ)=(bm,bG (mW.set b.toNat true))::(om,bL (wy++[(v,k)])++([.int .i64 b,.int .i64 ((0:Nat):Int)]++J2))::(mF++σ):=by rw[nR]
    exact .mk ((false,b,(mW.set b.toNat true),(iD++[b])),(wy,v,k),(om,[AV.int .i64 b,.int .i64 ((0:Nat):Int)]++J2),(p8,mF,(kL)++[b])) rfl (by show ey (au n l) ((v,k)::(wy).reverse)+lQ (au n l) ((iD++[b])) n<_;(show _<ey (au n l) ((b,0)::(v,k)::wy.reverse)+lQ (au n l) (iD++[b]) n+1);omega) ⟨hS,xj⟩ ⟨rfl,rfl,rfl,rfl,iG,trivial⟩ (.drop 0 2 (aL hE))
  |false=>
   have hV:jM n (au n l) F mW iD kL ((v,k)::wy.reverse):=hP;have s9:wy.length=wy.length:=rfl;have qi:bL (wy++[(v,k)])++J=bL (wy++[(v,k)])++J:=rfl;have wM:=hV.wy (v,k) (cF ..);have eC:0≤v∧v<(n:Int):=wM.1;have AD:k≤(au n l v).length:=wM.2;have kR:=vR n l v;have qj:=hV.small;rw[gH,tO,s9]at qj;have tE:(mW).length=n:=hV.nj.1;have mZ:IntKind.i64.wrap (((wy.length+1:Nat):Int)-1)=((wy.length:Nat):Int):=by rw[jF (by omega)];omega
   have hX:0+(IntKind.i64.wrap (((wy.length+1:Nat):Int)-1)).toNat*2=(wy).length*2:=by rw[mZ,s9];omega
   have mA:ef ⟨.int .i64,1,8,[.int .i64 0]⟩ (bL (wy++[(v,k)])++J) (0+(IntKind.i64.wrap (((wy.length+1:Nat):Int)-1)).toNat*2+0)=some (.int .i64 v):=by rw[qi];exact gD rfl (by rw[hX];exact rJ rfl)
   have lr:ef ⟨.int .i64,1,8,[.int .i64 0]⟩ (bL (wy++[(v,k)])++J) (0+(IntKind.i64.wrap (((wy.length+1:Nat):Int)-1)).toNat*2+1)=some (.int .i64 ((k:Nat):Int)):=by rw[qi];exact gD rfl (by rw[hX];exact Br rfl)
   have fk:(bL (wy++[(v,k)])++J).length=(wy).length*2+2+(J:List AV).length:=by rw[bB,mb,bB];show (_+1)*2+_=_;omega
   have jr:IntKind.i64.wrap (((k:Nat):Int)+1)=((k+1:Nat):Int):=by rw[jF (by omega)];omega
   have vh:kC ⟨.int .i64,1,8,[.int .i64 0]⟩ (bL (wy++[(v,k)])++J) (0+(IntKind.i64.wrap (((wy.length+1:Nat):Int)-1)).toNat*2+1) (.int .i64 (IntKind.i64.wrap (((k:Nat):Int)+1)))=some (bL (wy++[(v,k+1)])++J):=by
    rw[qi,mO rfl rfl (by rw[hX,fk];omega),hX,jr,BA rfl]
   have uA:2=2∧0≤IntKind.i64.wrap (((wy.length+1:Nat):Int)-1)∧IntKind.i64.wrap (((wy.length+1:Nat):Int)-1)<((wy.length+1:Nat):Int):=⟨rfl,by omega,by omega⟩
   refine aF.mk uA ?_;refine .quiet (by kernel_rfl) ?_;refine aS 1 rfl lr ?_;refine aS 1 rfl mA ?_;refine aF.mk rfl ?_;refine aY.mk (au n l v) (by omega) (oE eC) ?_;refine ai (p:=((k:Nat):Int)<(au n l v).length) (fun ab=>?_) (fun ak=>?_)
   ·have ab:k<(au n l v).length:=by omega
    obtain⟨z,hz⟩:∃z,(au n l v)[k]=z:=⟨_,rfl⟩
    have Dg:z∈au n l v:=hz▸bU ab;have fi:=(kD.1 Dg).1;refine .quiet (by kernel_rfl) ?_;refine aS 1 rfl mA ?_;refine aF.mk rfl ?_;refine aY.mk (au n l v) (by omega) (oE eC) ?_;refine aS 1 rfl lr ?_;refine aF.mk rfl ?_;refine aY.mk z (by omega) ((get_some ab).trans (congrArg some hz)) ?_;refine aS 1 rfl lr ?_;refine bM 1 rfl vh ?_;refine aH ?_;refine ec.jG 0 _ _ rfl (qF rfl fi.1 (by rw[tE];omega)) (fun c2=>?_) (fun c2=>?_)
    ·have gX:z∈iD:=by rw[hV.nj.at_ fi]at c2;exact eX c2
     have hS:=hV.skip ab (by rw[hz];exact gX);have fU:ey (au n l) ((v,k+1)::(wy).reverse)+1=ey (au n l) ((v,k)::(wy).reverse):=by show ey (au n l) (wy).reverse+((au n l v).length-(k+1))+1+1=ey (au n l) (wy).reverse+((au n l v).length-k)+1;omega
     exact .mk ((false,z,mW,iD),(wy,v,k+1),(bw,J),(C6,Em,kL)) rfl (by show ey (au n l) ((v,k+1)::(wy).reverse)+lQ (au n l) (iD) n<_;(show _<ey (au n l) ((v,k)::wy.reverse)+lQ (au n l) iD n);omega) ⟨hS,xk⟩ ⟨rfl,rfl,rfl,rfl,rfl,trivial⟩ (.refl _)
    ·have gX:z ∉ iD:=by rw[hV.nj.at_ fi]at c2;exact py c2
     have hS:=hV.push cz ab (by rw[hz];exact gX);rw[hz]at hS;have fU:ey (au n l) ((z,0)::(v,k+1)::(wy).reverse)=ey (au n l) ((v,k)::(wy).reverse)+(au n l z).length:=by show ey (au n l) (wy).reverse+((au n l v).length-(k+1))+1+((au n l z).length-0)+1=ey (au n l) (wy).reverse+((au n l v).length-k)+1+(au n l z).length;omega
     have DC:=EJ (nx:=au n l) (seen:=iD) (b:=z.toNat) (by rw[mE fi.1];exact gX) n;rw[az (by omega),mE fi.1]at DC;exact .mk ((true,z,mW,iD),(wy,v,k+1),(bw,J),(C6,Em,kL)) rfl (by show ey (au n l) ((z,0)::(v,k+1)::(wy).reverse)+lQ (au n l) ((iD)++[z]) n+1<_;(show _<ey (au n l) ((v,k)::wy.reverse)+lQ (au n l) iD n);omega) ⟨⟨hS,tE,fi.1,fi.2⟩,xk⟩ ⟨rfl,rfl,rfl,rfl,rfl,trivial⟩ (.refl _)
   ·have ak:(au n l v).length≤k:=by omega
    have hS:=hV.pop ak;refine aS 1 rfl mA ?_;intro bs;refine eS (k:=(kL).length) (n:=1) [_,_,_] xk (.af 0 bs 0 1 _ rfl (cj rfl)) rfl (by omega) (by decide) (by decide) (fun p8 mF tI=>?_)
    have xj:Acc 1 ((kL)++[v]).length p8 mF (aj ((kL)++[v])):=by
     rw[List.length_append,show aj ((kL)++[v])=aj (kL)++[.int .i64 v] by simp[aj]];exact tI
    have pR:(IntKind.i64.wrap (((wy.length+1:Nat):Int)-1)).toNat-Int.toNat 0=wy.length:=by rw[mZ];omega
    have bP:0≤(0:Int)∧(0:Int)≤IntKind.i64.wrap (((wy.length+1:Nat):Int)-1)∧IntKind.i64.wrap (((wy.length+1:Nat):Int)-1)≤((wy.length+1:Nat):Int)∧2=2:=⟨by omega,by omega,by omega,rfl⟩
    refine aF.mk bP ?_
    rcases A4 wy with w5 | ⟨w',⟨u,i⟩,w5⟩
    ·rw[show wy.reverse=[] by rw[w5];rfl]at hS;refine ai (p:=(0:Int)<(((IntKind.i64.wrap (((wy.length+1:Nat):Int)-1)).toNat-Int.toNat 0:Nat):Int)) (fun c3=>?_) (fun c3=>?_)
     ·rw[pR]at c3;exact absurd c3 (by rw[w5];decide)
     ·obtain⟨e1,e2,e3,e4⟩:=jM.done hS;rw[← e1]at xj;exact .drop 0 1 (.drop 1 1 (.done ⟨mW,F,p8,mF,hF.symm,e2,e3,e4,xj,rfl,rfl⟩))
    ·have w5:wy=w'++[(u,i)]:=by simpa using w5
     have Us:(wy).reverse=(u,i)::w'.reverse:=by rw[w5,List.reverse_append];rfl
     have iX:(IntKind.i64.wrap (((wy.length+1:Nat):Int)-1)).toNat-Int.toNat 0=(w').length+1:=pR.trans (by rw[w5,bB];rfl);have iG:AV.af bw (0+Int.toNat 0*2) ((IntKind.i64.wrap (((wy.length+1:Nat):Int)-1)).toNat-Int.toNat 0) 2=.af bw 0 ((w').length+1) 2:=by rw[iX];rfl
     have nR:bL (wy++[(v,k)])++J=bL (w'++[(u,i)])++([.int .i64 v,.int .i64 ((k:Nat):Int)]++J):=by rw[qi,w5,ov,cU];rfl
     rw[Us]at hS;refine ai (p:=(0:Int)<(((IntKind.i64.wrap (((wy.length+1:Nat):Int)-1)).toNat-Int.toNat 0:Nat):Int)) (fun c3=>?_) (fun c3=>?_);rotate_left
     ·rw[iX]at c3;omega
     have fU:ey (au n l) ((u,i)::(w').reverse)+1≤ey (au n l) ((v,k)::(wy).reverse):=by rw[← Us];show _≤ey (au n l) (wy).reverse+((au n l v).length-k)+1;omega
     have hE:(bm,bG mW)::(bw,bL (wy++[(v,k)])++J)::(mF++σ)=(bm,bG mW)::(bw,bL (w'++[(u,i)])++([.int .i64 v,.int .i64 ((k:Nat):Int)]++J))::(mF++σ):=by rw[nR]
     exact .mk ((false,b,mW,iD),(w',u,i),(bw,[AV.int .i64 v,.int .i64 ((k:Nat):Int)]++J),(p8,mF,(kL)++[v])) rfl (by show ey (au n l) ((u,i)::(w').reverse)+lQ (au n l) (iD) n<_;(show _<ey (au n l) ((v,k)::wy.reverse)+lQ (au n l) iD n);omega) ⟨hS,xj⟩ ⟨rfl,rfl,rfl,rfl,iG,trivial⟩ (.drop 0 1 (aL hE))
 ·intro hr;have Lj:=hm.1;refine aH ?_;refine ec.jG 0 _ _ rfl (qF rfl ha.1 (by omega)) (fun c1=>?_) (fun c1=>?_)
  ·have cq:a∈out:=by rw[hm.at_ ha]at c1;exact eX c1
   have oa:fe (au n l) (n+1) a out=[]:=by unfold fe;rw[az cq]
   rw[oa,fC]at hF;exact .done ⟨met,out,vo,uU,by rw[oa,fC],hm,cm,Mc,hO,rfl,rfl⟩
  ·have cq:a ∉ out:=by rw[hm.at_ ha]at c1;exact py c1
   have hV:=jM.top (nx:=au n l) hm cm Mc ha cq;rw[hF]at hV;refine aH ?_;refine bM 0 rfl (tZ rfl true ha.1 (by omega)) ?_;intro ax;refine xK (k:=0) (n:=1) [_,_] (acc:=[]) .nil (.af 0 ax 0 1 _ rfl (cj rfl)) rfl (by omega) (by decide) (by decide) (fun v' aJ h'=>?_);obtain⟨bw,J,rfl,rfl,_⟩:=h'.pos (by omega);have qi:[]++[AV.int .i64 a,.int .i64 ((0:Nat):Int)]++J=bL (([]:List (Int×Nat))++[(a,0)])++J:=rfl;have s9:([]:List (Int×Nat)).length=0:=rfl;have hV:jM n (au n l) F (met.set a.toNat true) (out++[a]) out ((a,0)::([]:List (Int×Nat)).reverse):=hV;have wM:=hV.wy (a,0) (cF ..);have eC:0≤a∧a<(n:Int):=wM.1;have AD:0≤(au n l a).length:=wM.2;have kR:=vR n l a;have qj:=hV.small;rw[gH,tO,s9]at qj;have tE:((met.set a.toNat true)).length=n:=hV.nj.1;have mZ:IntKind.i64.wrap (((0+1:Nat):Int)-1)=((0:Nat):Int):=by rw[jF (by omega)];omega
   have hX:0+(IntKind.i64.wrap (((0+1:Nat):Int)-1)).toNat*2=(([]:List (Int×Nat))).length*2:=by rw[mZ,s9];omega
   have mA:ef ⟨.int .i64,1,8,[.int .i64 0]⟩ ([]++[AV.int .i64 a,.int .i64 ((0:Nat):Int)]++J) (0+(IntKind.i64.wrap (((0+1:Nat):Int)-1)).toNat*2+0)=some (.int .i64 a):=by rw[qi];exact gD rfl (by rw[hX];exact rJ rfl)
   have lr:ef ⟨.int .i64,1,8,[.int .i64 0]⟩ ([]++[AV.int .i64 a,.int .i64 ((0:Nat):Int)]++J) (0+(IntKind.i64.wrap (((0+1:Nat):Int)-1)).toNat*2+1)=some (.int .i64 ((0:Nat):Int)):=by rw[qi];exact gD rfl (by rw[hX];exact Br rfl)
   have fk:(bL (([]:List (Int×Nat))++[(a,0)])++J).length=(([]:List (Int×Nat))).length*2+2+(J:List AV).length:=by rw[bB,mb,bB];show (_+1)*2+_=_;omega
   have jr:IntKind.i64.wrap (((0:Nat):Int)+1)=((0+1:Nat):Int):=by rw[jF (by omega)];omega
   have vh:kC ⟨.int .i64,1,8,[.int .i64 0]⟩ ([]++[AV.int .i64 a,.int .i64 ((0:Nat):Int)]++J) (0+(IntKind.i64.wrap (((0+1:Nat):Int)-1)).toNat*2+1) (.int .i64 (IntKind.i64.wrap (((0:Nat):Int)+1)))=some (bL (([]:List (Int×Nat))++[(a,0+1)])++J):=by
    rw[qi,mO rfl rfl (by rw[hX,fk];omega),hX,jr,BA rfl]
   have uA:2=2∧0≤IntKind.i64.wrap (((0+1:Nat):Int)-1)∧IntKind.i64.wrap (((0+1:Nat):Int)-1)<((0+1:Nat):Int):=⟨rfl,by omega,by omega⟩
   refine aF.mk uA ?_;refine .quiet (by kernel_rfl) ?_;refine aS 2 rfl lr ?_;refine aS 2 rfl mA ?_;refine aF.mk rfl ?_;refine aY.mk (au n l a) (by omega) (oE eC) ?_;refine ai (p:=((0:Nat):Int)<(au n l a).length) (fun ab=>?_) (fun ak=>?_)
   ·have ab:0<(au n l a).length:=by omega
    obtain⟨z,hz⟩:∃z,(au n l a)[0]=z:=⟨_,rfl⟩
    have Dg:z∈au n l a:=hz▸bU ab;have fi:=(kD.1 Dg).1;refine .quiet (by kernel_rfl) ?_;refine aS 2 rfl mA ?_;refine aF.mk rfl ?_;refine aY.mk (au n l a) (by omega) (oE eC) ?_;refine aS 2 rfl lr ?_;refine aF.mk rfl ?_;refine aY.mk z (by omega) ((get_some ab).trans (congrArg some hz)) ?_;refine aS 2 rfl lr ?_;refine bM 2 rfl vh ?_;refine aH ?_;refine ec.jG 1 _ _ rfl (qF rfl fi.1 (by rw[tE];omega)) (fun c2=>?_) (fun c2=>?_)
    ·have gX:z∈(out++[a]):=by rw[hV.nj.at_ fi]at c2;exact eX c2
     have hS:=hV.skip ab (by rw[hz];exact gX);have fU:ey (au n l) ((a,0+1)::(([]:List (Int×Nat))).reverse)+1=ey (au n l) ((a,0)::(([]:List (Int×Nat))).reverse):=by show ey (au n l) (([]:List (Int×Nat))).reverse+((au n l a).length-(0+1))+1+1=ey (au n l) (([]:List (Int×Nat))).reverse+((au n l a).length-0)+1;omega
     exact vV hr ((false,z,(met.set a.toNat true),(out++[a])),(([]:List (Int×Nat)),a,0+1),(bw,J),(vo,uU,out)) ⟨rfl,⟨hS,hO⟩,⟨rfl,rfl,rfl,rfl,rfl,trivial⟩,(.drop 0 1 (.refl _))⟩
    ·have gX:z ∉ (out++[a]):=by rw[hV.nj.at_ fi]at c2;exact py c2
     have hS:=hV.push cz ab (by rw[hz];exact gX);rw[hz]at hS;have fU:ey (au n l) ((z,0)::(a,0+1)::(([]:List (Int×Nat))).reverse)=ey (au n l) ((a,0)::(([]:List (Int×Nat))).reverse)+(au n l z).length:=by show ey (au n l) (([]:List (Int×Nat))).reverse+((au n l a).length-(0+1))+1+((au n l z).length-0)+1=ey (au n l) (([]:List (Int×Nat))).reverse+((au n l a).length-0)+1+(au n l z).length;omega
     have DC:=EJ (nx:=au n l) (seen:=(out++[a])) (b:=z.toNat) (by rw[mE fi.1];exact gX) n;rw[az (by omega),mE fi.1]at DC;exact vV hr ((true,z,(met.set a.toNat true),(out++[a])),(([]:List (Int×Nat)),a,0+1),(bw,J),(vo,uU,out)) ⟨rfl,⟨⟨hS,tE,fi.1,fi.2⟩,hO⟩,⟨rfl,rfl,rfl,rfl,rfl,trivial⟩,(.drop 0 1 (.refl _))⟩
   ·have ak:(au n l a).length≤0:=by omega
    have hS:=hV.pop ak;refine aS 2 rfl mA ?_;intro bs;refine eS (k:=(out).length) (n:=1) [_,_,_,_] hO (.af 0 bs 0 1 _ rfl (cj rfl)) rfl (by omega) (by decide) (by decide) (fun p8 mF tI=>?_)
    have xj:Acc 1 ((out)++[a]).length p8 mF (aj ((out)++[a])):=by
     rw[List.length_append,show aj ((out)++[a])=aj (out)++[.int .i64 a] by simp[aj]];exact tI
    have pR:(IntKind.i64.wrap (((0+1:Nat):Int)-1)).toNat-Int.toNat 0=0:=by rw[mZ];omega
    have bP:0≤(0:Int)∧(0:Int)≤IntKind.i64.wrap (((0+1:Nat):Int)-1)∧IntKind.i64.wrap (((0+1:Nat):Int)-1)≤((0+1:Nat):Int)∧2=2:=⟨by omega,by omega,by omega,rfl⟩
    refine aF.mk bP ?_;obtain⟨e1,e2,e3,e4⟩:=jM.done hS;rw[← e1]at xj;exact .drop 0 2 (.drop 1 1 (.done ⟨(met.set a.toNat true),F,p8,mF,hF.symm,e2,e3,e4,xj,rfl,rfl⟩))
theorem agI{t t':Tm}{b off len es:Nat}{e:Sh}{l:List e.T}(k:Nat)(h:t k=.via (.af b off len es))(h':t'=mr t [(k,.ae e l)])(i:Nat):eB b off len es e l (t i) (t' i):=by
 subst h';show eB b off len es e l (t i) (match Nat.beq i k with | true=>.ae e l | false=>t i);cases hb:Nat.beq i k with
 |true=>rw[ju hb,h];exact .via .here
 |false=>exact .refl _
theorem afX{t t':Tm}(e:Sh)(k:Nat)(h:t k=.via .ag)(h':t'=mr t [(k,.ae e [])])(i:Nat):eB 0 0 0 0 .bool [] (t i) (t' i):=by
 subst h';show eB 0 0 0 0 .bool [] (t i) (match Nat.beq i k with | true=>.ae e [] | false=>t i);cases hb:Nat.beq i k with
 |true=>rw[ju hb,h];exact .via (.nil e)
 |false=>exact .refl _
theorem mj.acc{body:Tm→Hp→(Ex→Tm→Hp→Prop)→Prop}{Q:Ex→Tm→Hp→Prop}{t:Tm}(j:Nat)(fr:Hp){acc σ:Hp}{s:Sh}{k:Nat}{v:AV}{cs:List AV}{l:List s.T}(h:Acc s.size k v acc cs)(ht:t j=.via v)(hl:k=l.length)(hc:cs=l.flatMap s.cells)(hp:0<s.size)
  (go:mj body Q (mr t [(j,.ae s l)]) (fr++σ)):mj body Q t (fr++(acc++σ)):=by
 cases h with
 |nil=>
  have gY:l=[]:=fE.1 hl.symm;subst gY;exact .nil (afX s j ht rfl) go
 |af b k cs h=>
  refine .dT (.perm (we fr [(b,cs)] σ) (.refl _)) ?_;exact .cb 0 b 0 k s.size cs s l rfl (by rw[fy,dZ (by omega)];exact hc) ⟨hl.symm,rfl,hp⟩ (agI j ht rfl) go
theorem aa8{R:AV→Hp→Prop}(fr:Hp){acc σ:Hp}{s:Sh}{k:Nat}{v x:AV}{cs:List AV}{l:List s.T}(h:Acc s.size k v acc cs)(hl:k=l.length)(hc:cs=l.flatMap s.cells)(hp:0<s.size)(go:Fin R (.tup [.ae s l,x]) (fr++σ)):Fin R (.tup [v,x]) (fr++(acc++σ)):=by
 subst hl;have hlen:=h.length;refine .perm (we fr acc σ) ?_;generalize hk:l.length=k at h;cases h with
 |nil=>
  obtain rfl:=fE.1 hk;exact .nil (bZ (.nil _) (.refl _)) go
 |af b k cs h=>
  subst hk;exact .cb 0 b 0 l.length s.size cs s l rfl (by rw[fy,dZ (by omega)];exact hc) ⟨rfl,rfl,hp⟩ (bZ .here (.refl _)) go
theorem Xb{R:AV→Hp→Prop}{r:AV}(a:Hp){σ:Hp}(h:Fin R r σ):Fin R r (a++σ):=.drop 0 a.length (by rw[DY,dD,List.drop_left];exact h)
set_option maxHeartbeats 4000000
theorem Wg{P:Program}{f:FuncId}{a b:List AV}{v:AV}{σ:Hp}{R:AV→Hp→Prop}(hl:v.leaf=true)(h:ACalls P f (a++.via v::b) σ R):ACalls P f (a++v::b) σ R:=by
 refine⟨h.1,fun F w vs bY aG=>h.2 F w vs ⟨by rw[← bY.1];simp,fun i x hx=>?_⟩ aG⟩
 rcases Nat.lt_trichotomy i a.length with hi | hi | hi
 ·rw[ku hi]at hx;exact bY.2 i x (by rw[ku hi];exact hx)
 ·subst hi;rw[iL (bg _),l7]at hx;cases hx;exact .via v _ hl (bY.2 a.length v (by rw[iL (bg _),l7];rfl))
 ·obtain⟨j,rfl⟩:∃j,i=a.length+(j+1):=⟨i-a.length-1,by omega⟩
  rw[iL (by omega),show a.length+(j+1)-a.length=j+1 by omega]at hx;exact bY.2 _ x (by rw[iL (by omega),show a.length+(j+1)-a.length=j+1 by omega];exact hx)
theorem Acc.leaf{e k:Nat}{v:AV}{acc:Hp}{cs:List AV}(h:Acc e k v acc cs):v.leaf=true:=by cases h <;> rfl
structure xF(n:Nat)(met:List Bool)(out:List Int):Prop where
 nj:se n met out
 nd:out.Nodup
 rg:∀x∈out,0≤x∧x<(n:Int)
theorem Td(n:Nat)(l:List aO)(a:Int)(met:List Bool)(out:List Int)(bm:Nat)(vo:AV)(uU σ:Hp)(hl:l.length≤100000)(hn:n≤1000)(ha:0≤a∧a<n)(h:xF n met out)(hO:Acc 1 out.length vo uU (aj out)):
  ACalls Tryz.prog 311 [.ae (.slice (.int .i64)) (ck n l),.af bm 0 n 1,.int .i64 a,vo] ((bm,bG met)::(uU++σ))
   (fun r σ'=>∃qX kM q9 qP,kM=out++fe (au n l) (n+1) a out∧xF n qX kM∧Acc 1 kM.length q9 qP (aj kM)∧r=.via q9∧σ'=(bm,bG qX)::(qP++σ)):=
 Xr (R:=fun r σ'=>∃qX kM q9 qP,kM=out++fe (au n l) (n+1) a out∧xF n qX kM∧Acc 1 kM.length q9 qP (aj kM)∧r=q9∧σ'=(bm,bG qX)::(qP++σ)) (Wg (a:=[_,_,_]) (b:=[]) hO.leaf ((acH n l a met out bm vo uU σ hl hn ha h.nj h.nd h.rg hO).mono fun _ _ ⟨qX,kM,q9,qP,h1,h2,h3,h4,h5,h6,h7⟩=>⟨qX,kM,q9,qP,h1,⟨h2,h3,h4⟩,h5,h6,h7⟩)) fun r σ' ⟨qX,kM,q9,qP,h1,h2,h3,h4,h5⟩=>⟨h4▸h3.leaf,qX,kM,q9,qP,h1,h2,h3,by rw[h4],h5⟩
theorem afJ(bn:Nat)(n:Nat)(x:Int)(σ:Hp):ACalls Tryz.prog 337 [.int .i64 x,.ptr bn 0] ((bn,[.int .i64 n])::σ) (ay (.bool (decide (x<0∨(n:Int)≤x))) ((bn,[.int .i64 n])::σ)):=by
 refine ao Tryz.func337 ?_;refine ai (fun c1=>?_) (fun c1=>?_)
 ·have c1:x<0:=c1;exact .done ⟨congrArg AV.bool (aX (by omega)).symm,rfl⟩
 ·have c1:¬(x<0):=c1;refine aa 0 ?_;refine ai (fun c2=>?_) (fun c2=>?_)
  ·have c2:(↑n:Int)≤x:=c2;exact .done ⟨congrArg AV.bool (aX (by omega)).symm,rfl⟩
  ·have c2:¬((↑n:Int)≤x):=c2;exact .done ⟨congrArg AV.bool (cp (by omega)).symm,rfl⟩
theorem adg(bn n:Nat)(L:List Int)(σ:Hp)(hl:L.length≤1000000)(hL:∀x∈L,0≤x∧x<(n:Int)):ACalls Tryz.prog 345 [.ae (.int .i64) L,.fn (.func 337) [] [.ptr bn 0]] ((bn,[.int .i64 n])::σ) (ay (.int .i64 (-1)) ((bn,[.int .i64 n])::σ)):=by
 refine ao Tryz.func345 ?_;refine bc (S:=Nat) (fun k=>[(0,.ae (.int .i64) L),(1,.fn (.func 337) [] [.ptr bn 0]),(7,.int .i64 L.length),(8,.int .i64 k)]) (fun _=>(bn,[.int .i64 n])::σ) (fun k=>k≤L.length) (fun k=>L.length-k) 0 ⟨aV _,⟨rfl,rfl,rfl,rfl,trivial⟩,rfl⟩ ?_;intro k g aK;have hk:k≤L.length:=aK;refine ai (p:=(k:Int)<L.length) (fun ab=>?_) (fun ak=>?_)
 ·have ab:k<L.length:=by omega
  have hx:=hL _ (bU ab);refine aF.mk rfl (aY.mk L[k] (by omega) (get_some ab) ?_);refine dc [] (afJ bn n L[k] σ) (fun c=>?_) (fun _=>?_)
  ·have c:=eX c;omega
  ·exact aM (k+1) (by show L.length-(k+1)<L.length-k;omega) ab ⟨rfl,rfl,rfl,aI (by omega),trivial⟩ (.refl _)
 ·exact .done ⟨rfl,rfl⟩
theorem adh(bn n:Nat)(L:List Int)(σ:Hp)(hl:L.length≤1000000)(hL:∀x∈L,0≤x∧x<(n:Int)):ACalls Tryz.prog 336 [.ae (.int .i64) L,.fn (.func 337) [] [.ptr bn 0]] ((bn,[.int .i64 n])::σ) (ay (.bool false) ((bn,[.int .i64 n])::σ)):=by
 refine ao Tryz.func336 ?_;refine aw [] (adg bn n L σ hl hL) ?_;exact .done ⟨rfl,rfl⟩
theorem ab6(n:Nat)(l:List aO)(fr:List Int)(σ:Hp)(hl:l.length≤100000)(hf:fr.length≤100000)(ek:eA n l=true)(iI:∀x∈fr,0≤x∧x<(n:Int)):ACalls Tryz.prog 310 [.int .i64 n,.ae cg l,.ae (.int .i64) fr] σ (ay (.int .i64 0) σ):=by
 refine ao Tryz.func310 ?_;intro ax;refine aa 0 ?_;refine dc [] (Cd n l _ (by omega)) (fun _=>?_) (fun c=>absurd c (by rw[ek];decide));refine aw [] (adh ax n fr σ (by omega) iI) ?_;exact .drop 0 1 (.done ⟨rfl,rfl⟩)
def jU(n:Nat)(l:List aO)(fr:List Int):List Int:=lN n (au n l) (fr++(List.range n).map fun a:Nat=>(a:Int))
theorem EE(n:Nat)(nx:Int→List Int)(L:List Int)(a:Int):lN n nx (L++[a])=lN n nx L++fe nx (n+1) a (lN n nx L):=by unfold lN;rw[rE];rfl
theorem afz(n:Nat)(l:List aO)(fr:List Int)(σ:Hp)(hl:l.length≤100000)(hf:fr.length≤100000)(ek:eA n l=true)(iI:∀x∈fr,0≤x∧x<(n:Int)):ACalls Tryz.prog 288 [.int .i64 n,.ae cg l,.ae (.int .i64) fr] σ (fun r σ'=>r=.tup [.ae (.int .i64) (jU n l fr),.int .i64 0]∧σ'=σ∧(∃met,xF n met (jU n l fr))):=by
 have hn:1≤n∧n≤256:=by
  unfold eA at ek;simp only[bS,decide_eq_true_eq]at ek;omega
 have cQ:∀k,(cD ((List.range k).map fun a:Nat=>au n l a)).length=k:=fun k=>by rw[tX,cN,og]
 refine ao Tryz.func288 ?_;refine aw [] (ab6 n l fr _ hl hf ek iI) ?_;refine .wrap 9 .ag rfl rfl ?_;refine bc (S:=Nat×AV×Hp) (fun x=>[(0,.int .i64 n),(1,.ae cg l),(2,.ae (.int .i64) fr),(9,.via x.2.1),(23,.int .i64 n),(24,.int .i64 x.1)]) (fun x=>x.2.2++σ) (fun x=>x.1≤n∧Acc 1 x.1 x.2.1 x.2.2 (cD ((List.range x.1).map fun a:Nat=>au n l a))) (fun x=>n-x.1) (0,.ag,[]) ⟨⟨aV _,.nil⟩,⟨rfl,rfl,rfl,rfl,rfl,rfl,trivial⟩,rfl⟩ ?_;rintro⟨k,v,acc⟩ g ⟨hk,bF⟩;have hk:k≤n:=hk;have bF:Acc 1 k v acc (cD ((List.range k).map fun a:Nat=>au n l a)):=bF;refine ai (p:=(k:Int)<n) (fun ab=>?_) (fun ak=>?_)
 ·have ab:k<n:=by omega
  refine aw [] (Ab n l k _ hl) ?_;intro bs;refine eS [_] bF (.af 0 bs 0 1 _ rfl (cj rfl)) rfl (by omega) (by decide) (by decide) (fun v' aJ h'=>?_);refine aM (k+1,v',aJ) (by show n-(k+1)<n-k;omega) ⟨ab,?_⟩ ⟨rfl,rfl,rfl,rfl,rfl,aI (by omega),trivial⟩ (.drop 0 1 (.refl _));show Acc 1 (k+1) v' aJ (cD ((List.range (k+1)).map fun a:Nat=>au n l a));rw[pz,cE,show cD (List.map (fun a:Nat=>au n l a) (List.range k)++List.map (fun a:Nat=>au n l a) [k])=cD (List.map (fun a:Nat=>au n l a) (List.range k))++[.ae (.int .i64) (au n l k)] from cE];exact h'
 ·have ak:n=k:=by omega
  subst ak;have hlx:∀(c:Nat) (L:List Int) (x:Int),(∀x∈L,0≤x∧x<(n:Int))→L[c]?=some x→0≤x∧x<(n:Int):=fun c L x h hx=>h x (dz hx);have Mh:((n:Nat):Int).toNat=n:=bD n;refine a8 ?_;intro bm;refine .wrap 12 .ag rfl rfl ?_;refine mj.acc 9 [_] (s:=.slice (.int .i64)) bF rfl ((cQ n).symm.trans (tX _)) (ub _) (by decide) ?_;refine bc (S:=Nat×(List Bool×List Int)×(AV×Hp)) (fun x=>[(0,.int .i64 n),(9,.ae (.slice (.int .i64)) (ck n l)),(11,.af bm 0 n 1),(12,.via x.2.2.1),(37,.ae (.int .i64) fr),(38,.int .i64 fr.length),(39,.int .i64 x.1)]) (fun x=>(bm,bG x.2.1.1)::(x.2.2.2++σ)) (fun x=>x.1≤fr.length∧xF n x.2.1.1 x.2.1.2∧x.2.1.2=lN n (au n l) (fr.take x.1)∧Acc 1 x.2.1.2.length x.2.2.1 x.2.2.2 (aj x.2.1.2)) (fun x=>fr.length-x.1) (0,(List.replicate n false,[]),(.ag,[])) ⟨⟨Nat.zero_le _,⟨⟨by simp,fun u hu=>by rw[List.getD_eq_getElem?_getD,List.getElem?_replicate,if_pos hu];rfl⟩,List.nodup_nil,fun x hx=>absurd hx (by simp)⟩,rfl,.nil⟩,⟨rfl,rfl,rfl,rfl,rfl,rfl,rfl,trivial⟩,by rw[show bG (List.replicate n false)=cP [.bool false] n from (zu n).symm];rfl⟩ ?_;rintro⟨j,⟨met,out⟩,⟨vo,ac⟩⟩ g ⟨hj,hP,ho,hO⟩;have hj:j≤fr.length:=hj;have hP:xF n met out:=hP;have ho:out=lN n (au n l) (fr.take j):=ho;have hO:Acc 1 out.length vo ac (aj out):=hO;refine ai (p:=(j:Int)<fr.length) (fun ab=>?_) (fun ak=>?_)
  ·have ab:j<fr.length:=by omega
   have hz:=iI _ (bU ab);refine aF.mk rfl (aY.mk fr[j] (by omega) (get_some ab) ?_);refine .mk [] _ (Td n l fr[j] met out bm vo ac σ hl (by omega) hz hP hO) ?_;rintro _ _ ⟨met2,CF,p8,mF,h1,h2,h3,rfl,rfl⟩;refine aM (j+1,(met2,CF),(p8,mF)) (by show fr.length-(j+1)<fr.length-j;omega) ⟨ab,h2,?_,h3⟩ ⟨rfl,rfl,rfl,rfl,rfl,rfl,aI (by omega),trivial⟩ (.refl _);show CF=lN n (au n l) (fr.take (j+1));rw[eM ab,EE,← ho];exact h1
  ·have ak:¬(j:Int)<fr.length:=ak;rw[dZ (by omega)]at ho;refine bc (S:=Nat×(List Bool×List Int)×(AV×Hp)) (fun x=>[(9,.ae (.slice (.int .i64)) (ck n l)),(11,.af bm 0 n 1),(12,.via x.2.2.1),(49,.int .i64 n),(50,.int .i64 x.1)]) (fun x=>(bm,bG x.2.1.1)::(x.2.2.2++σ)) (fun x=>x.1≤n∧xF n x.2.1.1 x.2.1.2∧x.2.1.2=lN n (au n l) (fr++(List.range x.1).map fun a:Nat=>(a:Int))∧Acc 1 x.2.1.2.length x.2.2.1 x.2.2.2 (aj x.2.1.2)) (fun x=>n-x.1) (0,(met,out),(vo,ac)) ⟨⟨Nat.zero_le _,hP,by rw[ho];simp,hO⟩,⟨rfl,rfl,rfl,rfl,rfl,trivial⟩,rfl⟩ ?_;clear hP ho hO hj ak;rintro⟨j,⟨met,out⟩,⟨vo,ac⟩⟩ g ⟨hj,hP,ho,hO⟩;have hj:j≤n:=hj;have hP:xF n met out:=hP;have ho:out=lN n (au n l) (fr++(List.range j).map fun a:Nat=>(a:Int)):=ho;have hO:Acc 1 out.length vo ac (aj out):=hO;refine ai (p:=(j:Int)<n) (fun ab=>?_) (fun ak=>?_)
   ·have ab:j<n:=by omega
    refine .mk [] _ (Td n l j met out bm vo ac σ hl (by omega) ⟨by omega,by omega⟩ hP hO) ?_;rintro _ _ ⟨met2,CF,p8,mF,h1,h2,h3,rfl,rfl⟩;refine aM (j+1,(met2,CF),(p8,mF)) (by show n-(j+1)<n-j;omega) ⟨ab,h2,?_,h3⟩ ⟨rfl,rfl,rfl,rfl,aI (by omega),trivial⟩ (.refl _);show CF=lN n (au n l) (fr++(List.range (j+1)).map fun a:Nat=>(a:Int));rw[pz,cE,← cU,show List.map (fun a:Nat=>(a:Int)) [j]=[(j:Int)] from rfl,EE,← ho];exact h1
   ·have ak:n=j:=by omega
    subst ak;have ho:out=jU n l fr:=ho;rw[← ho];exact aa8 [_] (s:=.int .i64) hO rfl (ia _) (by decide) (.drop 0 1 (.done ⟨rfl,rfl,met,hP⟩))
inductive xE(n:Int)(l:List aO)(fr:List Int):Int→Prop where
 |root {a:Int} (h:a∈fr) (h1:0≤a∧a<n):xE n l fr a
 |step {a b:Int} (h:xE n l fr a) (hb:b∈au n l a):xE n l fr b
theorem xE.node{n:Int}{l:List aO}{fr:List Int}{a:Int}(h:xE n l fr a):0≤a∧a<n:=by
 cases h with
 |root h h1=>exact h1
 |step h hb=>exact (kD.1 hb).1
theorem Bx:∀(n:Nat) (l:List Int),l.Nodup→(∀z∈l,0≤z∧z<n)→l.length≤n
 | 0,[],_,_=>bg _
 | 0,z::l,_,h=>by have:=h z (cF ..);omega
 |n+1,l,hd,h=>by
  have h1:=Bx n (l.filter fun z=>decide (z≠n)) (hd.filter _) fun z hz=>by
   obtain⟨q1,q2⟩:=jK.1 hz;have:=h z q1;have q2:=eX q2;omega
  have h2:l.length≤(l.filter fun z=>decide (z≠(n:Int))).length+1:=by
   clear h h1
   induction l with
   |nil=>simp
   |cons z l ih=>
    have j6:=mD.1 hd
    by_cases hz:z=n
    ·subst hz
     have e:(((n:Int)::l).filter fun z=>decide (z≠(n:Int)))=l:=by
      rw[List.filter_cons_of_neg (by simp)];exact gv3.2 fun y hy=>aX fun e=>j6.1 (e▸hy)
     rw[e];simp
    ·have:=ih j6.2;rw[List.filter_cons_of_pos (by simp[hz])];simp only[gH];omega
  omega
theorem Yg{b:List Bool}{k:Nat}{a:Int}:a∈kf b k↔(0≤a∧a<k)∧b.getD a.toNat false=true:=by
 unfold kf;rw[eW];constructor
 ·rintro⟨i,hi,rfl⟩;obtain⟨h1,h2⟩:=jK.1 hi;exact⟨by have:=gP.1 h1;omega,h2⟩
 ·rintro⟨h1,h2⟩;exact⟨a.toNat,jK.2 ⟨gP.2 (by omega),h2⟩,by omega⟩
theorem E0(b:List Bool)(i j:Nat):(b.set i true).getD j false=true↔(i=j∧i<b.length)∨b.getD j false=true:=by
 rw[bK,gQ,bK]
 by_cases h:i=j
 ·subst h;rw[az rfl]
  by_cases h2:i<b.length
  ·rw[if_pos h2];simp[h2]
  ·rw[if_neg h2];simp[h2]
 ·rw[if_neg h];simp[h]
theorem Yi{n:Int}{b:List Bool}{a:Int}(hb:(b.length:Int)=n)(j:Nat):(kZ n b a).getD j false=true↔(0≤a∧a<n∧(j:Int)=a)∨b.getD j false=true:=by
 unfold kZ
 by_cases h:0≤a∧a<n
 ·rw[az h,E0];constructor
  ·rintro (⟨e,_⟩ | e)
   ·exact .inl ⟨h.1,h.2,by omega⟩
   ·exact .inr e
  ·rintro (⟨_,_,e⟩ | e)
   ·exact .inl ⟨by omega,by omega⟩
   ·exact .inr e
 ·rw[aB h];exact⟨.inr,fun h2=>by rcases h2 with h2 | h2;exact absurd ⟨h2.1,h2.2.1⟩ h;exact h2⟩
theorem I3{n:Int}:∀(fr:List Int) {b:List Bool},(b.length:Int)=n→∀j:Nat,(fr.foldl (kZ n) b).getD j false=true↔((j:Int)∈fr∧(j:Int)<n)∨b.getD j false=true
 | [],b,_,j=>by simp
 |a::fr,b,hb,j=>by
  rw[AZ,I3 fr (by rw[NR];exact hb) j,Yi hb j,dW];constructor
  ·rintro (⟨h1,h2⟩ | ⟨h1,h2,h3⟩ | h)
   ·exact .inl ⟨.inr h1,h2⟩
   ·exact .inl ⟨.inl h3,by omega⟩
   ·exact .inr h
  ·rintro (⟨h1 | h1,h2⟩ | h)
   ·exact .inr (.inl ⟨by omega,by omega,h1⟩)
   ·exact .inl ⟨h1,h2⟩
   ·exact .inr (.inr h)
theorem Iw(n:Int):∀(fr:List Int) (b:List Bool),(fr.foldl (kZ n) b).length=b.length
 | [],_=>rfl
 |a::fr,b=>by rw[AZ,Iw n fr,NR]
def okB(n:Int)(l:List aO)(fr:List Int)(b:List Bool):Prop:=(b.length:Int)=n∧∀j:Nat,b.getD j false=true→xE n l fr j
theorem adZ{n:Int}{l:List aO}{fr:List Int}{b:List Bool}{e:aO}(he:e∈l)(h:okB n l fr b):okB n l fr (kT n b e):=by
 unfold kT
 by_cases c:(0≤e.1∧e.1<n)∧(0≤e.2.1∧e.2.1<n)∧b.getD e.1.toNat false=true
 ·rw[az c];refine⟨by rw[dY];exact h.1,fun j hj=>?_⟩
  rcases (E0 _ _ _).1 hj with ⟨e1,_⟩ | hj
  ·have:=h.2 _ c.2.2;refine .step this (kD.2 ⟨by omega,by omega,e,he,by omega,by omega⟩)
  ·exact h.2 j hj
 ·rw[aB c];exact h
theorem Qx{n:Int}{l:List aO}{fr:List Int}:∀(L:List aO) {b:List Bool},(∀e∈L,e∈l)→okB n l fr b→okB n l fr (L.foldl (kT n) b)
 | [],_,_,h=>h
 |e::L,_,hL,h=>Qx L (fun x hx=>hL x (dq _ hx)) (adZ (hL e (cF ..)) h)
theorem S1{n:Int}{b:List Bool}{e:aO}{j:Nat}(h:b.getD j false=true):(kT n b e).getD j false=true:=by
 unfold kT;split
 ·exact (E0 _ _ _).2 (.inr h)
 ·exact h
theorem BC{n:Int}:∀(L:List aO) {b:List Bool} {j:Nat},b.getD j false=true→(L.foldl (kT n) b).getD j false=true
 | [],_,_,h=>h
 |_::L,_,_,h=>BC L (S1 h)
theorem Qy{n:Int}:∀(L:List aO) {b:List Bool} {e:aO},(b.length:Int)=n→e∈L→(0≤e.1∧e.1<n)→(0≤e.2.1∧e.2.1<n)→b.getD e.1.toNat false=true→(L.foldl (kT n) b).getD e.2.1.toNat false=true
 |x::L,b,e,hb,he,h1,h2,h3=>by
  rcases dW.1 he with rfl | he
  ·refine BC L ?_;unfold kT;rw[az ⟨h1,h2,h3⟩];exact (E0 _ _ _).2 (.inl ⟨rfl,by omega⟩)
  ·exact Qy L (by rw[OP];exact hb) he h1 h2 (S1 h3)
def uR(b:List Bool):Nat:=b.countP id
theorem JC:∀{b c:List Bool},b.length=c.length→(∀j:Nat,b.getD j false=true→c.getD j false=true)→uR b≤uR c∧(uR b=uR c→b=c)
 | [],[],_,_=>⟨bg _,fun _=>rfl⟩
 |x::b,y::c,hl,h=>by
  obtain⟨h1,h2⟩:=JC (b:=b) (c:=c) (by simpa using hl) fun j hj=>h (j+1) hj;have h0:=h 0;unfold uR at h1 h2 ⊢;simp only[HQ];cases x <;> cases y <;> simp at h0 ⊢
  ·exact⟨h1,h2⟩
  ·omega
  ·exact⟨h1,h2⟩
theorem Iv(n:Int):∀(L:List aO) (b:List Bool),(L.foldl (kT n) b).length=b.length
 | [],_=>rfl
 |e::L,b=>by rw[AZ,Iv n L,OP]
theorem OG{n:Int}{l:List aO}{b:List Bool}(h:kG n l b=b):∀k,pG n l k b=b
 | 0=>rfl
 |k+1=>by rw[rounds_succ,h];exact OG h k
theorem N5{n:Int}{l:List aO}:∀(k:Nat) {b:List Bool},(b.length:Int)=n→b.length≤uR b+k→kG n l (pG n l k b)=pG n l k b
 | 0,b,hb,hc=>by
  have hl:(kG n l b).length=b.length:=Iv n l b;have hu:=JC (b:=b) (c:=kG n l b) hl.symm fun j hj=>BC l hj;have h2:uR (kG n l b)≤(kG n l b).length:=List.countP_le_length;show kG n l b=b;exact (hu.2 (by omega)).symm
 |k+1,b,hb,hc=>by
  have hl:(kG n l b).length=b.length:=Iv n l b;have hu:=JC (b:=b) (c:=kG n l b) hl.symm fun j hj=>BC l hj
  by_cases h:kG n l b=b
  ·rw[OG h];exact h
  ·rw[rounds_succ];refine N5 k (by rw[hl];exact hb) ?_;have:uR b≠uR (kG n l b):=fun e=>h (hu.2 e).symm;omega
theorem OF{n:Int}{l:List aO}{fr:List Int}:∀(k:Nat) {b:List Bool},okB n l fr b→okB n l fr (pG n l k b)
 | 0,_,h=>h
 |k+1,_,h=>by rw[rounds_succ];exact OF k (Qx l (fun _ h=>h) h)
theorem Pp{n:Int}{l:List aO}:∀(k:Nat) {b:List Bool} {j:Nat},b.getD j false=true→(pG n l k b).getD j false=true
 | 0,_,_,h=>h
 |k+1,_,_,h=>by rw[rounds_succ];exact Pp k (BC l h)
theorem WT{n:Nat}{l:List aO}{fr:List Int}(a:Int):a∈uu n l fr↔xE n l fr a:=by
 have gY:(((List.replicate n false).length:Nat):Int)=n:=by rw[gh]
 have aq:okB n l fr (fr.foldl (kZ n) (List.replicate n false)):=by
  refine⟨by rw[Iw];exact gY,fun j hj=>?_⟩
  rcases (I3 fr gY j).1 hj with ⟨h1,h2⟩ | h
  ·exact .root h1 ⟨by omega,h2⟩
  ·rw[bK,xA]at h;split at h <;> cases h
 have cM:okB n l fr (rP n l fr):=OF _ aq
 have agw:kG n l (rP n l fr)=rP n l fr:=by
  refine N5 _ aq.1 ?_;rw[Iw,gh,bD];omega
 unfold uu;rw[bD,Yg];constructor
 ·rintro⟨h1,h2⟩;have:=cM.2 _ h2
  rwa [mE h1.1]at this
 ·intro h;refine⟨h.node,?_⟩
  induction h with
  | @root x hf hn=>
   refine Pp _ ((I3 fr gY _).2 (.inl ⟨?_,?_⟩))
   ·rw[mE hn.1];exact hf
   ·omega
  | @step x y hx hy ih=>
   obtain⟨Hh,L4,e,he,e1,e2⟩:=kD.1 hy;rw[← agw];have:=Qy l (b:=rP n l fr) cM.1 he (by omega) (by omega) (by rw[e1];exact ih);rw[e2]at this;exact this
theorem vX{a:Int}:∀{P:List (List Int)},P.flatten.Nodup→∀{i j:Nat} {p q:List Int},P[i]?=some p→P[j]?=some q→a∈p→a∈q→i=j
 | [],_,i,_,_,_,h,_,_,_=>by simp at h
 |r::P,hd,i,j,p,q,hi,hj,hp,hq=>by
  rw[xv]at hd;obtain⟨_,h2,h3⟩:=ma.1 hd;cases i with
  |zero=>
   cases j with
   |zero=>rfl
   |succ j=>
    obtain rfl:r=p:=by simpa using hi
    have hj:P[j]?=some q:=by simpa using hj
    exact absurd rfl (h3 a hp a (nr.2 ⟨q,dz hj,hq⟩))
  |succ i=>
   have hi:P[i]?=some p:=by simpa using hi
   cases j with
   |zero=>
    obtain rfl:r=q:=by simpa using hj
    exact absurd rfl (h3 a hq a (nr.2 ⟨p,dz hi,hp⟩))
   |succ j=>
    have hj:P[j]?=some q:=by simpa using hj
    exact congrArg (· + 1) (vX h2 hi hj hp hq)
theorem qB.le{n:Nat}{nx:Int→List Int}{P:List (List Int)}(h:qB n nx P){x y:Int}(hr:Rx nx x y){i:Nat}{p:List Int}(hi:P[i]?=some p)(hx:x∈p):∃(j:Nat) (q:List Int),j≤i∧P[j]?=some q∧y∈q:=by
 induction hr with
 |refl=>exact⟨i,p,bg _,hi,hx⟩
 |step _ hc ih=>
  obtain⟨j,q,h1,h2,h3⟩:=ih;obtain⟨k,r,k1,k2,k3⟩:=h.Ip j q h2 _ h3 _ hc;exact⟨k,r,dE k1 h1,k2,k3⟩
theorem adx{n:Int}{l:List aO}{a b:Int}:xE n l [a] b↔(0≤a∧a<n)∧Rx (au n l) a b:=by
 constructor
 ·intro h
  induction h with
  |root hm h1=>rw[bj.1 hm]at h1 ⊢;exact⟨h1,.refl _⟩
  |step _ hb ih=>exact⟨ih.1,.step ih.2 hb⟩
 ·rintro⟨ha,h⟩
  induction h with
  |refl=>exact .root (bj.2 rfl) ha
  |step _ hc ih=>exact .step ih hc
theorem Fp{n:Nat}{l:List aO}{a b:Int}:ng n l a b=true↔(0≤a∧a<n)∧Rx (au n l) a b:=by
 unfold ng;rw[um,WT,adx]
theorem X3(n:Nat)(l:List aO)(a:Int):(eI n l a).Pairwise (· < ·):=by
 unfold eI lK;rw[AY];refine List.Pairwise.filter _ ?_;exact M6.imp fun h=>by omega
theorem JR{n:Nat}{l:List aO}{P:List (List Int)}(h:qB n (au n l) P){p:List Int}{a:Int}(hp:p∈P)(ha:a∈p):eI n l a=p:=by
 obtain⟨i,hi⟩:=A2 hp;have su:=h.node p hp a ha;refine JZ (X3 ..) (h.Ar p hp) fun z=>?_;rw[I2];constructor
 ·rintro⟨k,hk,hb,rfl⟩;rw[bS,Fp,Fp]at hb;obtain⟨j,q,j1,j2,j3⟩:=h.le hb.1.2 hi ha;obtain⟨k2,r,k3,k4,k5⟩:=h.le hb.2.2 j2 j3;have:=vX h.nd hi k4 ha k5;have:i=j:=by omega
  subst this;rw[hi]at j2;rw[Option.some.inj j2];exact j3
 ·intro hz;have fi:=h.node p hp z hz;refine⟨z.toNat,by omega,?_,by omega⟩;rw[mE fi.1,bS,Fp,Fp];exact⟨⟨su,h.Nl p hp a ha z hz⟩,fi,h.Nl p hp z hz a ha⟩
def kP(i:Int)(p:List Int)(w:List Int):List Int:=p.foldl (fun w a=>w.set a.toNat i) w
def mn(P:List (List Int)):Nat→List Int→List Int
 | 0,w=>w
 |k+1,w=>kP k (P.getD k []) (mn P k w)
def bE(n:Nat)(P:List (List Int)):List Int:=mn P P.length (List.replicate n 0)
theorem EB(i:Int):∀(p w:List Int),(kP i p w).length=w.length
 | [],_=>rfl
 |a::p,w=>by
  show (kP i p (w.set a.toNat i)).length=_;rw[EB i p,dY]
theorem Bi(P:List (List Int)):∀(k:Nat) (w:List Int),(mn P k w).length=w.length
 | 0,_=>rfl
 |k+1,w=>by
  show (kP k (P.getD k []) (mn P k w)).length=_;rw[EB,Bi P k]
theorem Ov(n:Nat)(P:List (List Int)):(bE n P).length=n:=by unfold bE;rw[Bi,gh]
theorem RD(i:Int){a:Int}(ha:0≤a):∀(p w:List Int),(∀z∈p,0≤z)→a.toNat<w.length→(kP i p w).getD a.toNat 0=if a∈p then i else w.getD a.toNat 0
 | [],w,_,_=>by simp[kP]
 |z::p,w,hp,hw=>by
  show (kP i p (w.set z.toNat i)).getD a.toNat 0=_;have hz:=hp z (cF ..);rw[RD i ha p _ (fun y hy=>hp y (dq _ hy)) (by rw[dY];exact hw),mc]
  by_cases h1:a∈p
  ·rw[az h1,az (dq _ h1)]
  ·rw[aB h1]
   by_cases h2:a=z
   ·rw[az ⟨by omega,hw⟩,az (by rw[h2];exact cF ..)]
   ·rw[aB (by omega),aB (by rw[dW];exact fun h=>h.elim h2 h1)]
theorem uq{P:List (List Int)}{i:Nat}{p:List Int}(h:P[i]?=some p):P.getD i []=p:=by rw[bK,h];rfl
theorem RC{n:Nat}{nx:Int→List Int}{P:List (List Int)}(h:qB n nx P){i:Nat}{p:List Int}(hi:P[i]?=some p){a:Int}(ha:a∈p):∀k,k≤P.length→i<k→(mn P k (List.replicate n 0)).getD a.toNat 0=i
 | 0,_,hk=>absurd hk (vH _)
 |k+1,qn,hk=>by
  have su:=h.node p (dz hi) a ha;obtain⟨q,hq⟩:∃q,P[k]?=some q:=⟨P[k],bu (by omega)⟩
  show (kP k (P.getD k []) _).getD a.toNat 0=_;rw[uq hq,RD k su.1 _ _ (fun z hz=>(h.node q (dz hq) z hz).1) (by rw[Bi,gh];omega)]
  by_cases hm:a∈q
  ·rw[az hm,vX h.nd hi hq ha hm]
  ·rw[aB hm];have:i≠k:=fun e=>by subst e;rw[hi]at hq;exact hm (Option.some.inj hq▸ha)
   exact RC h hi ha k (by omega) (by omega)
theorem abf{n:Nat}{nx:Int→List Int}{P:List (List Int)}(h:qB n nx P){i:Nat}{p:List Int}(hi:P[i]?=some p){a:Int}(ha:a∈p):(bE n P).getD a.toNat 0=i:=
 RC h hi ha P.length (bg _) (cW.1 hi).1
def mR(l:List aO)(W:List Int)(T:List Bool)(i:Int):Bool:= !T.getD i.toNat false&&!l.any fun x=>decide (W.getD x.2.1.toNat 0=i)&&decide (W.getD x.1.toNat 0≠i)&&!T.getD (W.getD x.1.toNat 0).toNat false
def ig(P:List (List Int))(i:Nat):Int:=(P.getD i []).headD 0
def fo(P:List (List Int))(l:List aO)(W:List Int)(T:List Bool):Nat→Int
 | 0=> -1
 |k+1=>if mR l W T k=true∧(fo P l W T k<0∨ig P k<ig P (fo P l W T k).toNat) then k else fo P l W T k
theorem EK(P:List (List Int))(l:List aO)(W:List Int)(T:List Bool):∀k:Nat,(fo P l W T k = -1∧∀i:Nat,i<k→mR l W T i=false)∨∃b:Nat,fo P l W T k=b∧b<k∧mR l W T b=true∧∀i:Nat,i<k→mR l W T i=true→ig P b≤ig P i
 | 0=>.inl ⟨rfl,fun _ h=>absurd h (vH _)⟩
 |k+1=>by
  have ih:=EK P l W T k
  by_cases c:mR l W T k=true∧(fo P l W T k<0∨ig P k<ig P (fo P l W T k).toNat)
  ·have e:fo P l W T (k+1)=k:=az c;rw[e];refine .inr ⟨k,rfl,by omega,c.1,fun i hi hf=>?_⟩
   by_cases Dw:i=k
   ·subst Dw;exact kU _
   ·rcases ih with ⟨h1,h2⟩ | ⟨b,h1,h2,h3,h4⟩
    ·rw[h2 i (by omega)]at hf;cases hf
    ·have:=h4 i (by omega) hf;rw[h1,bD]at c
     rcases c.2 with c | c
     ·omega
     ·omega
  ·have e:fo P l W T (k+1)=fo P l W T k:=aB c;rw[e]
   rcases ih with ⟨h1,h2⟩ | ⟨b,h1,h2,h3,h4⟩
   ·refine .inl ⟨h1,fun i hi=>?_⟩
    by_cases Dw:i=k
    ·subst Dw;exact yV.2 fun hf=>c ⟨hf,.inl (by omega)⟩
    ·exact h2 i (by omega)
   ·refine .inr ⟨b,h1,by omega,h3,fun i hi hf=>?_⟩
    by_cases Dw:i=k
    ·subst Dw;rw[h1,bD]at c;exact AR.1 fun ab=>c ⟨hf,.inr ab⟩
    ·exact h4 i (by omega) hf
def dO(P:List (List Int))(l:List aO)(W:List Int):Nat→List Bool×List (List Int)
 | 0=>(List.replicate P.length false,[])
 |k+1=>((dO P l W k).1.set (fo P l W (dO P l W k).1 P.length).toNat true,(dO P l W k).2++[P.getD (fo P l W (dO P l W k).1 P.length).toNat []])
def k8(n:Nat)(l:List aO)(told:List Int)(a:Nat):Bool:=decide ((eI n l a).headD 0=(a:Int))&&!iH told a&&qM l (eI n l a) told
def nO(n:Nat)(l:List aO):Nat→List (List Int)×List Int→List (List Int)×List Int
 | 0,s=>s
 |f+1,s=>if s.2.length<n then (match (List.range n).find? (k8 n l s.2) with | none=>s | some a=>nO n l f (s.1++[eI n l a],s.2++eI n l a)) else s
def gv(n:Nat)(l:List aO):List (List Int):=(nO n l (n+1) ([],[])).1
theorem OU{p:Nat→Bool}{n a:Nat}(ha:a<n)(hp:p a=true)(h:∀b,b<a→p b=false):(List.range n).find? p=some a:=by
 rw[List.find?_range_eq_some];exact⟨hp,gP.2 ha,fun b hb=>by rw[h b hb];rfl⟩
structure n0(n:Nat)(l:List aO)(P:List (List Int)):Prop where
 ok:qB n (au n l) P
 all:∀x:Int,0≤x→x<n→∃p∈P,x∈p
theorem n0.idx{n:Nat}{l:List aO}{P:List (List Int)}(h:n0 n l P){x:Int}(hx:0≤x∧x<n):∃(i:Nat) (p:List Int),P[i]?=some p∧x∈p∧(bE n P).getD x.toNat 0=i:=by
 obtain⟨p,hp,ra⟩:=h.all x hx.1 hx.2;obtain⟨i,hi⟩:=A2 hp;exact⟨i,p,hi,ra,abf h.ok hi ra⟩
theorem xO{P:List (List Int)}{i:Nat}{p:List Int}(h:P[i]?=some p):i<P.length:=(cW.1 h).1
structure OI(P:List (List Int))(k:Nat)(T:List Bool)(out:List (List Int)):Prop where
 tl:T.length=P.length
 ol:out.length=k
 aR:T.countP id=k
 mem:∀q,q∈out↔∃i:Nat,T.getD i false=true∧P[i]?=some q
 nd:out.flatten.Nodup
theorem PT{n:Nat}{l:List aO}{P:List (List Int)}(h:n0 n l P)(hr:∀e∈l,(0≤e.1∧e.1<(n:Int))∧0≤e.2.1∧e.2.1<(n:Int)){k:Nat}{T:List Bool}{out:List (List Int)}(hO:OI P k T out){i:Nat}{p:List Int}(hi:P[i]?=some p):mR l (bE n P) T i=true↔T.getD i false=false∧qM l p out.flatten=true:=by
 unfold mR qM;rw[bD,bS,j7,j7,AX,fq];refine and_congr_right fun _=>?_;refine forall_congr' fun e=>?_;refine forall_congr' fun he=>?_;obtain⟨q1,q2⟩:=hr e he;obtain⟨a,pa,ha,Dm,wa⟩:=h.idx q1;obtain⟨b,pb,hb,qm,wb⟩:=h.idx q2;rw[wa,wb,bD]
 have cq:∀{j:Nat} {r:List Int} {x:Int},P[j]?=some r→x∈r→(iH p x=true↔j=i):=fun {j r x} hj hx=>by
  rw[um];exact⟨fun hm=>vX h.ok.nd hj hi hx hm,fun e=>by subst e;rw[hi]at hj;rw[Option.some.inj hj];exact hx⟩
 have af2:iH out.flatten e.1=true↔T.getD a false=true:=by
  rw[um,nr];constructor
  ·rintro⟨q,hq,hm⟩;obtain⟨j,hj,qp⟩:=(hO.mem q).1 hq;rw[vX h.ok.nd ha qp Dm hm];exact hj
  ·intro ht;exact⟨pa,(hO.mem pa).2 ⟨a,ht,ha⟩,Dm⟩
 have h1:=cq ha Dm;have h2:=cq hb qm;rw[bS,bS,decide_eq_true_eq,decide_eq_true_eq,j7,j7,Bool.and_eq_false_iff,Bool.and_eq_false_iff,HT,HT];have h3:iH p e.2.1=false↔b≠i:=by rw[← Bool.not_eq_true,h2]
 rw[af2,h1,h3,← Bool.not_eq_true];constructor
 ·intro hn
  by_cases c1:b=i
  ·by_cases c2:a=i
   ·exact .inl (.inr c2)
   ·exact .inr (by
     by_cases c3:T.getD a false=true
     ·exact c3
     ·exact absurd ⟨⟨by omega,by omega⟩,c3⟩ hn)
  ·exact .inl (.inl c1)
 ·rintro ((c | c) | c) ⟨⟨d1,d2⟩,d3⟩
  ·exact c (by omega)
  ·exact d2 (by omega)
  ·exact d3 c
theorem count_set{T:List Bool}{i:Nat}(hi:i<T.length)(h:T.getD i false=false):(T.set i true).countP id=T.countP id+1:=by
 induction T generalizing i with
 |nil=>simp at hi
 |cons t T ih=>
  cases i with
  |zero=>
   have:t=false:=h;subst this;simp
  |succ i=>
   have:=ih (i:=i) (by simpa using hi) h;rw[List.set_cons_succ,HQ,HQ,this];omega
theorem Xj:∀{T:List Bool},T.countP id<T.length→∃i,i<T.length∧T.getD i false=false∧∀j,i<j→j<T.length→T.getD j false=true:=by
 intro T
 induction T with
 |nil=>intro h;simp at h
 |cons t T ih=>
  intro h;rw[HQ,gH]at h
  by_cases c:T.countP id<T.length
  ·obtain⟨i,h1,h2,h3⟩:=ih c;refine⟨i+1,by rw[gH];omega,h2,fun j hj hl=>?_⟩;cases j with
   |zero=>omega
   |succ j=>exact h3 j (by omega) (by rw[gH]at hl;omega)
  ·have ht:t=false:=by
    cases t with
    |false=>rfl
    |true=>simp at h;omega
   subst ht;have bh:T.countP id=T.length:=by have:=List.countP_le_length (p:=id) (l:=T);omega
   refine⟨0,by simp,rfl,fun j hj hl=>?_⟩;cases j with
   |zero=>omega
   |succ j=>
    have hl:j<T.length:=by rw[gH]at hl;omega
    have:=List.countP_eq_length.1 bh _ (bU hl);show T.getD j false=true;rw[bK,bu hl];exact this
theorem Bv{n:Nat}{nx:Int→List Int}{P:List (List Int)}(h:qB n nx P):P.length≤n∧P.flatten.length≤n:=by
 have h1:P.flatten.length≤n:=Bx n _ h.nd fun z hz=>by
  obtain⟨p,hp,hz⟩:=nr.1 hz;exact h.node p hp z hz
 refine⟨dE ?_ h1,h1⟩;have:=h.ne;clear h h1
 induction P with
 |nil=>exact bg _
 |cons p P ih=>
  have h1:=l9.2 (this p (cF ..));have h2:=ih fun q hq=>this q (dq _ hq);rw[xv,bB,gH];omega
theorem Jv{n:Nat}{l:List aO}{P:List (List Int)}(h:n0 n l P)(hr:∀e∈l,(0≤e.1∧e.1<(n:Int))∧0≤e.2.1∧e.2.1<(n:Int)){k:Nat}(hk:k<P.length){T:List Bool}{out:List (List Int)}(hO:OI P k T out):
  ∃(b:Nat) (p:List Int),fo P l (bE n P) T P.length=b∧P[b]?=some p∧OI P (k+1) (T.set b true) (out++[p])∧out.flatten.length<n∧∃a:Nat,(List.range n).find? (k8 n l out.flatten)=some a∧eI n l a=p:=by
 obtain⟨i,Dx,xc,hi3⟩:=Xj (T:=T) (by rw[hO.aR,hO.tl];exact hk);rw[hO.tl]at Dx hi3;obtain⟨pi,hpi⟩:∃p,P[i]?=some p:=⟨P[i],bu Dx⟩
 have TS:mR l (bE n P) T i=true:=by
  unfold mR;rw[bD,xc,bS];refine⟨rfl,?_⟩;rw[j7];refine AX.2 fun e he=>?_;obtain⟨q1,q2⟩:=hr e he;obtain⟨a,pa,ha,Dm,wa⟩:=h.idx q1;obtain⟨b,pb,hb,qm,wb⟩:=h.idx q2;rw[wa,wb,bD,bS,bS,decide_eq_true_eq,decide_eq_true_eq,j7];rintro⟨⟨d1,d2⟩,d3⟩;obtain⟨j,q,j1,j2,j3⟩:=h.ok.Ip a pa ha e.1 Dm e.2.1 (kD.2 ⟨q2,q1,e,he,rfl,rfl⟩);have:=vX h.ok.nd hb j2 qm j3;rw[hi3 a (by omega) (xO ha)]at d3;cases d3
 rcases EK P l (bE n P) T P.length with ⟨_,sn⟩ | ⟨b,hb,rq,hbf,sq⟩
 ·rw[sn i Dx]at TS;cases TS
 obtain⟨p,hp⟩:∃p,P[b]?=some p:=⟨P[b],bu rq⟩
 have gb:=dz hp;obtain⟨vz,hbF⟩:=(PT h hr hO hp).1 hbf
 have AF:p ∉ out:=fun hm=>by
  obtain⟨j,hj,qp⟩:=(hO.mem p).1 hm;obtain⟨z,hz⟩:=List.exists_mem_of_ne_nil _ (h.ok.ne p gb);rw[vX h.ok.nd hp qp hz hz,hj]at vz;cases vz
 have UE:∀z∈p,z ∉ out.flatten:=fun z hz hm=>by
  obtain⟨q,hq,LX⟩:=nr.1 hm;obtain⟨j,hj,qp⟩:=(hO.mem q).1 hq;rw[vX h.ok.nd hp qp hz LX,hj]at vz;cases vz
 have cm:(out.flatten++p).Nodup:=ma.2 ⟨hO.nd,(h.ok.Ar p gb).imp fun h=>by omega,fun x hx y hy e=>UE y hy (e▸hx)⟩
 have rW:∀z∈out.flatten++p,0≤z∧z<(n:Int):=fun z hz=>by
  rcases bQ.1 hz with hz | hz
  ·obtain⟨q,hq,LX⟩:=nr.1 hz;obtain⟨j,_,qp⟩:=(hO.mem q).1 hq;exact h.ok.node q (dz qp) z LX
  ·exact h.ok.node p gb z hz
 have hlen:=Bx n _ cm rW;rw[bB]at hlen;have pc:=l9.2 (h.ok.ne p gb);refine⟨b,p,hb,hp,⟨by rw[List.length_set];exact hO.tl,by rw[List.length_append,hO.ol];rfl,by rw[count_set (by rw[hO.tl];exact rq) vz,hO.aR],fun q=>?_,by rw[List.flatten_append];simpa using cm⟩,by omega,?_⟩
 ·rw[bQ,bj,hO.mem];constructor
  ·rintro (⟨j,hj,qp⟩ | rfl)
   ·exact⟨j,by rw[Bn];split;rfl;exact hj,qp⟩
   ·exact⟨b,by rw[Bn,az ⟨rfl,by rw[hO.tl];exact rq⟩],hp⟩
  ·rintro⟨j,hj,qp⟩;rw[Bn]at hj
   by_cases e:b=j
   ·subst e;rw[hp]at qp;exact .inr (Option.some.inj qp).symm
   ·rw[aB (fun h=>e h.1)]at hj;exact .inl ⟨j,hj,qp⟩
 have TQ:∀{j:Nat} {q:List Int},P[j]?=some q→ig P j∈q∧ig P j=q.headD 0∧∀z∈q,ig P j≤z:=fun {j q} hj=>by
  have bf:=h.ok.ne q (dz hj);have hs:=h.ok.Ar q (dz hj);unfold ig;rw[uq hj];cases q with
  |nil=>exact absurd rfl bf
  |cons z q=>
   refine⟨cF ..,rfl,fun y hy=>?_⟩
   rcases dW.1 hy with rfl | hy
   ·exact kU _
   ·have:=(xw.1 hs).1 y hy;show z≤y;omega
 obtain⟨m1,m2,_⟩:=TQ hp;have hhn:=h.ok.node p gb _ m1;refine⟨(ig P b).toNat,OU (by omega) ?_ fun a' HD=>yV.2 fun hc=>?_,?_⟩
 ·unfold k8;rw[mE hhn.1,JR h.ok gb m1,hbF,DT,bS,decide_eq_true_eq,j7];exact⟨m2.symm,yV.2 fun hm=>UE _ m1 (um.1 hm)⟩
 ·unfold k8 at hc;rw[bS,bS,decide_eq_true_eq,j7]at hc;obtain⟨⟨c1,c2⟩,c3⟩:=hc;obtain⟨j,q,hj,hq,_⟩:=h.idx (x:=(a':Int)) (by omega);rw[JR h.ok (dz hj) hq]at c1 c3;obtain⟨_,m4,_⟩:=TQ hj
  have hjT:T.getD j false=false:=yV.2 fun ht=>by
   have:iH out.flatten a'=true:=um.2 (nr.2 ⟨q,(hO.mem q).2 ⟨j,ht,hj⟩,hq⟩);rw[this]at c2;cases c2
  have:=sq j (xO hj) ((PT h hr hO hj).2 ⟨hjT,c3⟩);rw[m4,c1]at this;omega
 ·rw[mE hhn.1];exact JR h.ok gb m1
theorem Ft{n:Nat}{l:List aO}{P:List (List Int)}(h:n0 n l P)(hr:∀e∈l,(0≤e.1∧e.1<(n:Int))∧0≤e.2.1∧e.2.1<(n:Int)):∀k,k≤P.length→OI P k (dO P l (bE n P) k).1 (dO P l (bE n P) k).2∧(k<P.length→∃b:Nat,fo P l (bE n P) (dO P l (bE n P) k).1 P.length=b∧b<P.length)∧∀f,nO n l (k+f) ([],[])=nO n l f ((dO P l (bE n P) k).2,(dO P l (bE n P) k).2.flatten):=by
 intro k
 induction k with
 |zero=>
  intro _
  have sn:∀i,¬((List.replicate P.length false).getD i false=true):=fun i h1=>by
   rw[bK,xA]at h1;split at h1 <;> cases h1
  have h0:OI P 0 (List.replicate P.length false) []:=⟨List.length_replicate,rfl,(by rw[List.countP_eq_zero];intro x hx;rw[List.eq_of_mem_replicate hx];simp),fun q=>⟨fun h=>absurd h (by simp),fun ⟨i,h1,_⟩=>absurd h1 (sn i)⟩,List.nodup_nil⟩
  refine⟨h0,fun hk=>?_,fun f=>by rw[dD];rfl⟩;obtain⟨b,p,hb,hp,_⟩:=Jv h hr hk h0;exact⟨b,hb,xO hp⟩
 |succ k ih=>
  intro hk;obtain⟨hO,_,hf⟩:=ih (by omega);obtain⟨b,p,hb,hp,tI,ab,a,ha,vB⟩:=Jv h hr (by omega) hO
  have e1:(dO P l (bE n P) (k+1)).1=(dO P l (bE n P) k).1.set b true:=by
   show (dO P l (bE n P) k).1.set (fo P l (bE n P) (dO P l (bE n P) k).1 P.length).toNat true=_;rw[hb,bD]
  have e2:(dO P l (bE n P) (k+1)).2=(dO P l (bE n P) k).2++[p]:=by
   show (dO P l (bE n P) k).2++[P.getD (fo P l (bE n P) (dO P l (bE n P) k).1 P.length).toNat []]=_;rw[hb,bD,uq hp]
  rw[e1,e2];refine⟨tI,fun dR=>?_,fun f=>?_⟩
  ·obtain⟨b2,p2,xf,dJ,_⟩:=Jv h hr dR tI;exact⟨b2,xf,xO dJ⟩
  ·rw[show k+1+f=k+(f+1) by omega,hf];show (if _ then _ else _)=_;rw[az ab,ha];show nO n l f (_++[eI n l a],_++eI n l a)=_;rw[vB,List.flatten_append];simp
theorem Kj{n:Nat}{l:List aO}{P:List (List Int)}(h:n0 n l P)(hr:∀e∈l,(0≤e.1∧e.1<(n:Int))∧0≤e.2.1∧e.2.1<(n:Int)):(dO P l (bE n P) P.length).2=gv n l:=by
 obtain⟨hO,_,hf⟩:=Ft h hr P.length (bg _);have hl:=(Bv h.ok).1;have hf:=hf (n+1-P.length);rw[show P.length+(n+1-P.length)=n+1 by omega]at hf;unfold gv;rw[hf];obtain⟨f,hfe⟩:∃f,n+1-P.length=f+1:=⟨n-P.length,by omega⟩
 rw[hfe];show _=(if _ then _ else _:List (List Int)×List Int).1
 have bh:∀i,i<P.length→(dO P l (bE n P) P.length).1.getD i false=true:=fun i hi=>by
  have hc:(dO P l (bE n P) P.length).1.countP id=(dO P l (bE n P) P.length).1.length:=by rw[hO.aR,hO.tl]
  have:=List.countP_eq_length.1 hc _ (bU (n:=i) (by rw[hO.tl];exact hi));rw[bK,bu (by rw[hO.tl];exact hi)];exact this
 have lU:∀x∈(List.range n).map (fun i:Nat=>(i:Int)),x∈(dO P l (bE n P) P.length).2.flatten:=fun x hx=>by
  obtain⟨i,hi,rfl⟩:=eW.1 hx;have hi:=gP.1 hi;obtain⟨j,p,hj,hp,_⟩:=h.idx (x:=(i:Int)) (by omega);exact nr.2 ⟨p,(hO.mem p).2 ⟨j,bh j (xO hj),hj⟩,hp⟩
 have ak:=Jp (l:=(List.range n).map (fun i:Nat=>(i:Int))) (by rw[List.nodup_iff_pairwise_ne,AY];exact M6.imp fun h=>by omega) lU;rw[cN,og]at ak;rw[aB (by show ¬((dO P l (bE n P) P.length).2.flatten.length<n);omega)]
end Go.Proofs.YtnikdflhefijbaaGreat
