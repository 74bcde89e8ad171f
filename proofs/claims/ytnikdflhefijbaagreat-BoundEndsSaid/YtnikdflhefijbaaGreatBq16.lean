import Derived.Test.YtnikdflhefijbaaGreatBq14
import Derived.Test.YtnikdflhefijbaaGreatBq15
import Derived.Test.YtnikdflhefijbaaGreatBq6
import Derived.Test.YtnikdflhefijbaaGreatBq10
import Derived.Test.YtnikdflhefijbaaGreatBq11
namespace Go.Proofs.YtnikdflhefijbaaGreat
open Go.RowKit
set_option maxRecDepth 100000
def mI(nx:Int→List Int)(seen:List Int):Nat→Nat
 | 0=>0
 |n+1=>mI nx seen n+if (n:Int)∈seen then 0 else (nx n).length+2
theorem Hk{nx:Int→List Int}{seen:List Int}{b:Nat}(hb:(b:Int) ∉ seen):∀n,mI nx (seen++[(b:Int)]) n+(if b<n then (nx b).length+2 else 0)=mI nx seen n
 | 0=>rfl
 |n+1=>by
  have ih:=Hk (nx:=nx) hb n;unfold mI
  by_cases h:b=n
  ·subst h;rw[ag (KF _)]at ih;rw[if_pos (by simp),if_neg hb,if_pos (Nat.lt_succ_self _)];omega
  ·have h1:((n:Int)∈seen++[(b:Int)])↔(n:Int)∈seen:=by
    rw[bY,bD];exact⟨fun h'=>h'.elim id fun e=>absurd (Int.ofNat.inj e).symm h,.inl⟩
   by_cases h2:(n:Int)∈seen
   ·rw[af (h1.2 h2),af h2]
    by_cases h3:b<n
    ·rw[af h3]at ih;rw[af (by omega)];omega
    ·rw[ag h3]at ih;rw[ag (by omega)];omega
   ·rw[ag (fun h'=>h2 (h1.1 h')),ag h2]
    by_cases h3:b<n
    ·rw[af h3]at ih;rw[af (by omega)];omega
    ·rw[ag h3]at ih;rw[ag (by omega)];omega
def eH(nx:Int→List Int):List (Int×Nat)→Nat
 | []=>0
 |t::w=>eH nx w+((nx t.1).length-t.2)+1
def tk(n:Nat)(met:List Bool)(seen:List Int):Prop:=met.length=n∧∀u:Nat,u<n→met.getD u false=decide ((u:Int)∈seen)
theorem tk.at_{n:Nat}{met:List Bool}{seen:List Int}(h:tk n met seen){a:Int}(ha:0≤a∧a<n):met.getD a.toNat false=decide (a∈seen):=by
 have:=h.2 a.toNat (by omega);rw[lW ha.1]at this;exact this
theorem tk.set{n:Nat}{met:List Bool}{seen:List Int}(h:tk n met seen){a:Int}(ha:0≤a∧a<n):tk n (met.set a.toNat true) (seen++[a]):=by
 refine⟨by rw[cz];exact h.1,fun u hu=>?_⟩;rw[aZ,eA]
 by_cases e:a.toNat=u
 ·subst e;rw[af rfl,af (by rw[h.1];omega),lW ha.1];simp
 ·rw[ag e,← aZ,h.2 u hu];have e2:¬(u:Int)=a:=fun e'=>e (by omega);simp[e2]
structure kn(n:Nat)(nx:Int→List Int)(F:List Int)(met:List Bool)(seen out:List Int)(iq:List (Int×Nat)):Prop where
 oq:tk n met seen
 nd:seen.Nodup
 rg:∀x∈seen,0≤x∧x<(n:Int)
 len:out.length+iq.length=seen.length
 wy:∀t∈iq,(0≤t.1∧t.1<(n:Int))∧t.2≤(nx t.1).length
 tell:F=out++l8 n nx iq seen
 mem:∀x,x∈seen↔x∈out++iq.map Prod.fst
 od:(out++iq.map Prod.fst).Nodup
theorem HA:∀(n:Nat) (l:List Int),l.Nodup→(∀z∈l,0≤z∧z<(n:Int))→l.length≤n
 | 0,l,_,h=>by
  cases l with
  |nil=>exact aQ _
  |cons z l=>have:=h z (b9 ..);omega
 |n+1,l,hn,h=>by
  have h1:=HA n (l.erase (n:Int)) (hn.erase _) (fun z hz=>by
   rw[hn.mem_erase_iff]at hz;have:=h z hz.2;have:=hz.1
   omega)
  have h2:=List.length_erase (a:=(n:Int)) (l:=l);split at h2 <;> omega
theorem kn.small{n:Nat}{nx:Int→List Int}{F:List Int}{met:List Bool}{seen out:List Int}{iq:List (Int×Nat)}(h:kn n nx F met seen out iq):out.length+iq.length≤n:=by
 rw[h.len];exact HA n seen h.nd h.rg
theorem kn.skip{n:Nat}{nx:Int→List Int}{F:List Int}{met:List Bool}{seen out:List Int}{v:Int}{k:Nat}{w:List (Int×Nat)}(h:kn n nx F met seen out ((v,k)::w))(hk:k<(nx v).length)(hb:(nx v)[k]∈seen):kn n nx F met seen out ((v,k+1)::w):=
 ⟨h.oq,h.nd,h.rg,h.len,fun t ht=>by
  rcases dm.1 ht with rfl | ht
  ·exact⟨(h.wy (v,k) (b9 ..)).1,hk⟩
  ·exact h.wy t (cQ _ ht),by rw[h.tell,acR hk hb],h.mem,h.od⟩
theorem kn.push{n:Nat}{nx:Int→List Int}(cP:∀x,∀y∈nx x,0≤y∧y<(n:Int)){F:List Int}{met:List Bool}{seen out:List Int}{v:Int}{k:Nat}{w:List (Int×Nat)}(h:kn n nx F met seen out ((v,k)::w))(hk:k<(nx v).length)(hb:(nx v)[k] ∉ seen):kn n nx F (met.set (nx v)[k].toNat true) (seen++[(nx v)[k]]) out (((nx v)[k],0)::(v,k+1)::w):=by
 have hr:=cP v _ (cq hk);refine⟨h.oq.set hr,List.nodup_append.2 ⟨h.nd,by simp,fun a ha b yT e=>?_⟩,fun x hx=>?_,?_,fun t ht=>?_,by rw[h.tell,acS cP hk hb],fun x=>?_,?_⟩
 ·rw[bD.1 yT]at e;exact hb (e▸ha)
 ·rcases bY.1 hx with hx | hx
  ·exact h.rg x hx
  ·rw[bD.1 hx];exact hr
 ·have:=h.len;rw[bQ];show out.length+(w.length+1+1)=seen.length+1;have this:out.length+(w.length+1)=seen.length:=this;omega
 ·rcases dm.1 ht with rfl | ht
  ·exact⟨hr,bC _⟩
  ·rcases dm.1 ht with rfl | ht
   ·exact⟨(h.wy (v,k) (b9 ..)).1,hk⟩
   ·exact h.wy t (cQ _ ht)
 ·rw[bY,h.mem,bY,bY,bD];show _↔_∨x∈(nx v)[k]::v::w.map Prod.fst;rw[dm (a:=x)];exact⟨fun h'=>h'.elim (fun h'=>h'.elim .inl fun h'=>.inr (.inr h')) fun h'=>.inr (.inl h'),fun h'=>h'.elim (fun h'=>.inl (.inl h')) fun h'=>h'.elim .inr fun h'=>.inl (.inr h')⟩
 ·have hp:(out++(nx v)[k]::v::w.map Prod.fst).Perm ((nx v)[k]::(out++v::w.map Prod.fst)):=oK;exact hp.nodup_iff.2 (lV.2 ⟨fun hm=>hb ((h.mem _).2 hm),h.od⟩)
theorem kn.pop{n:Nat}{nx:Int→List Int}{F:List Int}{met:List Bool}{seen out:List Int}{v:Int}{k:Nat}{w:List (Int×Nat)}(h:kn n nx F met seen out ((v,k)::w))(hk:(nx v).length≤k):kn n nx F met seen (out++[v]) w:=by
 refine⟨h.oq,h.nd,h.rg,?_,fun t ht=>h.wy t (cQ _ ht),by rw[h.tell,af3 hk,dW];rfl,fun x=>by rw[h.mem,dW];rfl,by rw[dW];exact h.od⟩;have:=h.len;rw[bQ];have this:out.length+(w.length+1)=seen.length:=this;show out.length+1+w.length=_;omega
theorem kn.top{n:Nat}{nx:Int→List Int}{met:List Bool}{out:List Int}(hm:tk n met out)(hn:out.Nodup)(hr:∀x∈out,0≤x∧x<(n:Int)){a:Int}(ha:0≤a∧a<(n:Int))(h:a ∉ out):kn n nx (out++ij nx (n+1) a out) (met.set a.toNat true) (out++[a]) out [(a,0)]:=by
 refine⟨hm.set ha,List.nodup_append.2 ⟨hn,by simp,fun x hx b yT e=>?_⟩,fun x hx=>?_,by rw[List.length_append];rfl,fun t ht=>by rw[List.mem_singleton.1 ht];exact⟨ha,Nat.zero_le _⟩,by rw[af2 h],fun _=>Iff.rfl,?_⟩
 ·rw[bD.1 yT]at e;exact h (e▸hx)
 ·rcases bY.1 hx with hx | hx
  ·exact hr x hx
  ·rw[bD.1 hx];exact ha
 ·refine List.nodup_append.2 ⟨hn,by simp,fun x hx b yT e=>?_⟩;rw[bD.1 (show b∈[a] from yT)]at e;exact h (e▸hx)
theorem kn.done{n:Nat}{nx:Int→List Int}{F:List Int}{met:List Bool}{seen out:List Int}(h:kn n nx F met seen out []):F=out∧tk n met F∧F.Nodup∧∀x∈F,0≤x∧x<(n:Int):=by
 have e:F=out:=by rw[h.tell];unfold l8;exact mV _
 have hm:∀x,x∈seen↔x∈out:=fun x=>by have:=h.mem x;rwa [show out++List.map Prod.fst []=out from mV _]at this
 have ho:=h.od;rw[show out++List.map Prod.fst []=out from mV _]at ho;subst e;exact⟨rfl,⟨h.oq.1,fun u hu=>(h.oq.2 u hu).trans (by rw[decide_eq_decide];exact hm _)⟩,ho,fun x hx=>h.rg x ((hm x).2 hx)⟩
set_option maxHeartbeats 8000000
theorem YT{P:Program}{TT:TypeId→Option TI}{fn:Go.Func}{a c:Go.Code}{xs:List AV}{σ:Hp}{R:AV→Hp→Prop}{S:Type}(hb:fn.body=some (.seq a (.scope c)))(gu:S→Nat)(L:S→List (Nat×AV))(H:S→Hp)(p:S→Prop)(μ:S→Nat)
  (hr:ED (nq P TT 998) c gu L H p μ (wI TT fn.results.toList R))
  (h:ED (nq P TT 998) c gu L H p μ (wI TT fn.results.toList R)→codeF P TT (nq P TT 999) (.seq a (.scope c)) (t0 xs) σ (wI TT fn.results.toList R)):wJ P TT fn xs σ R:=by
 have h1:nq P TT 1000 (.seq a (.scope c)) (t0 xs) σ (wI TT fn.results.toList R):=h hr;unfold wJ;rw[hb];exact h1
abbrev QK:=(Bool×Int×List Bool×List Int)×(List (Int×Nat)×Int×Nat)×(Nat×List AV)×(AV×Hp×List Int)
def VsP(n:Nat)(nx:Int→List Int)(F:List Int)(x:QK):Prop:=match x.1.1 with
 |true=>kn n nx F (x.1.2.2.1.set x.1.2.1.toNat true) (x.1.2.2.2++[x.1.2.1]) x.2.2.2.2.2 ((x.1.2.1,0)::(x.2.1.2.1,x.2.1.2.2)::x.2.1.1.reverse)∧x.1.2.2.1.length=n∧0≤x.1.2.1∧x.1.2.1<n
 |false=>kn n nx F x.1.2.2.1 x.1.2.2.2 x.2.2.2.2.2 ((x.2.1.2.1,x.2.1.2.2)::x.2.1.1.reverse)
def VsM(n:Nat)(nx:Int→List Int)(x:QK):Nat:=match x.1.1 with
 |true=>eH nx ((x.1.2.1,0)::(x.2.1.2.1,x.2.1.2.2)::x.2.1.1.reverse)+mI nx (x.1.2.2.2++[x.1.2.1]) n+1
 |false=>eH nx ((x.2.1.2.1,x.2.1.2.2)::x.2.1.1.reverse)+mI nx x.1.2.2.2 n
theorem ag2(n:Nat)(l:List bE)(a:Int)(met:List Bool)(out:List Int)(bm:Nat)(vo:AV)(wV σ:Hp)(_hl:l.length≤100000)(hn:n≤1000)(ha:0≤a∧a<n)(hm:tk n met out)(cg:out.Nodup)(Au:∀x∈out,0≤x∧x<(n:Int))(hO:Acc 1 out.length vo wV (ai out)):
  ACalls Tryz.prog 311 [.ah (.slice (.int .i64)) (cd n l),.ae bm 0 n 1,.int .i64 a,.via vo] ((bm,bN met)::(wV++σ))
   (fun r σ'=>∃sj lL sm se,lL=out++ij (aw n l) (n+1) a out∧tk n sj lL∧lL.Nodup∧(∀x∈lL,0≤x∧x<(n:Int))∧Acc 1 lL.length sm se (ai lL)∧r=sm∧σ'=(bm,bN sj)::(se++σ)):=by
 have cP:∀x,∀y∈aw n l x,0≤y∧y<(n:Int):=fun x y hy=>(lZ.1 hy).1;obtain⟨F,hF⟩:∃F,out++ij (aw n l) (n+1) a out=F:=⟨_,rfl⟩
 refine ay Tryz.func311 ?_
 refine YT (S:=QK) rfl (fun x=>match x.1.1 with | true=>0 | false=>1)
  (fun x=>[(0,.ah (.slice (.int .i64)) (cd n l)),(1,.ae bm 0 n 1),(2,.int .i64 x.1.2.1),(3,.via x.2.2.2.1),(9,.ae x.2.2.1.1 0 (x.2.1.1.length+1) 2)])
  (fun x=>(bm,bN x.1.2.2.1)::(x.2.2.1.1,bL (x.2.1.1++[(x.2.1.2.1,x.2.1.2.2)])++x.2.2.1.2)::(x.2.2.2.2.1++σ))
  (fun x=>VsP n (aw n l) F x∧Acc 1 x.2.2.2.2.2.length x.2.2.2.1 x.2.2.2.2.1 (ai x.2.2.2.2.2))
  (fun x=>VsM n (aw n l) x) ?_ ?_
 ·rintro⟨⟨f,b,oa,jb⟩,⟨wy,v,k⟩,⟨bw,J⟩,⟨FE,GX,lK⟩⟩ g ⟨hP,yY⟩;have yY:Acc 1 lK.length FE GX (ai lK):=yY;cases f with
  |true=>
   obtain⟨hV,OE,mT,sF⟩:=hP;have hV:kn n (aw n l) F (oa.set b.toNat true) (jb++[b]) lK ((b,0)::(v,k)::wy.reverse):=hV;have OE:oa.length=n:=OE;have mT:0≤b:=mT;have sF:b<n:=sF;have pA:(bL (wy++[(v,k)])).length=(wy.length+1)*2:=by rw[ng,bQ];rfl
   have aj8:=hV.small;rw[gj,gj,tQ]at aj8;refine aO ?_;refine cU 0 rfl (zr rfl true mT (by omega)) ?_;intro aF;refine zh (k:=wy.length+1) (n:=1) [_,_] (.ae bw (wy.length+1) (bL (wy++[(v,k)])) J pA) (.ae 0 aF 0 1 _ rfl (cy rfl)) rfl (by omega) (by decide) (by decide) (fun v' aY h'=>?_);obtain⟨pN,J2,rfl,rfl,_⟩:=h'.pos (by omega);have Jd:(wy++[(v,k)]).reverse=(v,k)::wy.reverse:=by rw[List.reverse_append];rfl
   have rF:bL (wy++[(v,k)])++[AV.int .i64 b,.int .i64 ((0:Nat):Int)]++J2=bL ((wy++[(v,k)])++[(b,0)])++J2:=by rw[pQ (wy++[(v,k)]) [(b,0)]];rfl
   have uz:(wy++[(v,k)]).length=wy.length+1:=by rw[bQ];rfl
   rw[← Jd]at hV;have yy:=hV.wy (b,0) (b9 ..);have dv:0≤b∧b<(n:Int):=yy.1;have CC:0≤(aw n l b).length:=yy.2;have mR:=zj n l b;have rH:=hV.small;rw[gj,tQ,uz]at rH;have yR:((oa.set b.toNat true)).length=n:=hV.oq.1;have oe:IntKind.i64.wrap ((((wy.length+1)+1:Nat):Int)-1)=(((wy.length+1):Nat):Int):=by rw[cC (by omega)];omega
   have hX:0+(IntKind.i64.wrap ((((wy.length+1)+1:Nat):Int)-1)).toNat*2=((wy++[(v,k)])).length*2:=by rw[oe,uz];omega
   have nD:ei ⟨.int .i64,1,8,[.int .i64 0]⟩ (bL (wy++[(v,k)])++[AV.int .i64 b,.int .i64 ((0:Nat):Int)]++J2) (0+(IntKind.i64.wrap ((((wy.length+1)+1:Nat):Int)-1)).toNat*2+0)=some (.int .i64 b):=by rw[rF];exact jz rfl (by rw[hX];exact sQ rfl)
   have ml:ei ⟨.int .i64,1,8,[.int .i64 0]⟩ (bL (wy++[(v,k)])++[AV.int .i64 b,.int .i64 ((0:Nat):Int)]++J2) (0+(IntKind.i64.wrap ((((wy.length+1)+1:Nat):Int)-1)).toNat*2+1)=some (.int .i64 ((0:Nat):Int)):=by rw[rF];exact jz rfl (by rw[hX];exact Du rfl)
   have eQ:(bL ((wy++[(v,k)])++[(b,0)])++J2).length=((wy++[(v,k)])).length*2+2+(J2:List AV).length:=by rw[bQ,ng,bQ];show (_+1)*2+_=_;omega
   have mr:IntKind.i64.wrap (((0:Nat):Int)+1)=((0+1:Nat):Int):=by rw[cC (by omega)];omega
   have xf:kO ⟨.int .i64,1,8,[.int .i64 0]⟩ (bL (wy++[(v,k)])++[AV.int .i64 b,.int .i64 ((0:Nat):Int)]++J2) (0+(IntKind.i64.wrap ((((wy.length+1)+1:Nat):Int)-1)).toNat*2+1) (.int .i64 (IntKind.i64.wrap (((0:Nat):Int)+1)))=some (bL ((wy++[(v,k)])++[(b,0+1)])++J2):=by
    rw[rF,ug rfl rfl (by rw[hX,eQ];omega),hX,mr,DO rfl]
   have wE:2=2∧0≤IntKind.i64.wrap ((((wy.length+1)+1:Nat):Int)-1)∧IntKind.i64.wrap ((((wy.length+1)+1:Nat):Int)-1)<(((wy.length+1)+1:Nat):Int):=⟨rfl,by omega,by omega⟩
   refine aJ.mk wE ?_;refine .quiet (by kernel_rfl) ?_;refine aW 2 rfl ml ?_;refine aW 2 rfl nD ?_;refine aJ.mk rfl ?_;refine bO.mk (aw n l b) (by omega) (pZ dv) ?_;refine ao (p:=((0:Nat):Int)<(aw n l b).length) (fun ab=>?_) (fun au=>?_)
   ·have ab:0<(aw n l b).length:=by omega
    obtain⟨z,hz⟩:∃z,(aw n l b)[0]=z:=⟨_,rfl⟩
    have FQ:z∈aw n l b:=hz▸cq ab;have iu:=(lZ.1 FQ).1;refine .quiet (by kernel_rfl) ?_;refine aW 2 rfl nD ?_;refine aJ.mk rfl ?_;refine bO.mk (aw n l b) (by omega) (pZ dv) ?_;refine aW 2 rfl ml ?_;refine aJ.mk rfl ?_;refine bO.mk z (by omega) ((get_some ab).trans (congrArg some hz)) ?_;refine aW 2 rfl ml ?_;refine cU 2 rfl xf ?_;refine aO ?_;refine fg.kZ 1 _ _ rfl (ua rfl iu.1 (by rw[yR];omega)) (fun c2=>?_) (fun c2=>?_)
    ·have jX:z∈(jb++[b]):=by rw[hV.oq.at_ iu]at c2;exact fP c2
     have hS:=hV.skip ab (by rw[hz];exact jX);have jL:eH (aw n l) ((b,0+1)::((wy++[(v,k)])).reverse)+1=eH (aw n l) ((b,0)::((wy++[(v,k)])).reverse):=by show eH (aw n l) ((wy++[(v,k)])).reverse+((aw n l b).length-(0+1))+1+1=eH (aw n l) ((wy++[(v,k)])).reverse+((aw n l b).length-0)+1;omega
     exact .mk ((false,z,(oa.set b.toNat true),(jb++[b])),((wy++[(v,k)]),b,0+1),(pN,J2),(FE,GX,lK)) rfl (by show eH (aw n l) ((b,0+1)::((wy++[(v,k)])).reverse)+mI (aw n l) ((jb++[b])) n<_;(show _<eH (aw n l) ((b,0)::(v,k)::wy.reverse)+mI (aw n l) (jb++[b]) n+1);rw[← Jd];omega) ⟨hS,yY⟩ ⟨rfl,rfl,rfl,rfl,by rw[uz];rfl,trivial⟩ (.drop 0 1 (.refl _))
    ·have jX:z ∉ (jb++[b]):=by rw[hV.oq.at_ iu]at c2;exact qE c2
     have hS:=hV.push cP ab (by rw[hz];exact jX);rw[hz]at hS;have jL:eH (aw n l) ((z,0)::(b,0+1)::((wy++[(v,k)])).reverse)=eH (aw n l) ((b,0)::((wy++[(v,k)])).reverse)+(aw n l z).length:=by show eH (aw n l) ((wy++[(v,k)])).reverse+((aw n l b).length-(0+1))+1+((aw n l z).length-0)+1=eH (aw n l) ((wy++[(v,k)])).reverse+((aw n l b).length-0)+1+(aw n l z).length;omega
     have nG:=Hk (nx:=aw n l) (seen:=(jb++[b])) (b:=z.toNat) (by rw[lW iu.1];exact jX) n;rw[af (by omega),lW iu.1]at nG;exact .mk ((true,z,(oa.set b.toNat true),(jb++[b])),((wy++[(v,k)]),b,0+1),(pN,J2),(FE,GX,lK)) rfl (by show eH (aw n l) ((z,0)::(b,0+1)::((wy++[(v,k)])).reverse)+mI (aw n l) (((jb++[b]))++[z]) n+1<_;(show _<eH (aw n l) ((b,0)::(v,k)::wy.reverse)+mI (aw n l) (jb++[b]) n+1);rw[← Jd];omega) ⟨⟨hS,yR,iu.1,iu.2⟩,yY⟩ ⟨rfl,rfl,rfl,rfl,by rw[uz];rfl,trivial⟩ (.drop 0 1 (.refl _))
   ·have au:(aw n l b).length≤0:=by omega
    have hS:=hV.pop au;refine aW 2 rfl nD ?_;intro bs;refine iC (k:=(lK).length) (n:=1) [_,_,_,_] yY (.ae 0 bs 0 1 _ rfl (cy rfl)) rfl (by omega) (by decide) (by decide) (fun rq nJ yX=>?_)
    have yW:Acc 1 ((lK)++[b]).length rq nJ (ai ((lK)++[b])):=by
     rw[List.length_append,show ai ((lK)++[b])=ai (lK)++[.int .i64 b] by simp[ai]];exact yX
    have qZ:(IntKind.i64.wrap ((((wy.length+1)+1:Nat):Int)-1)).toNat-Int.toNat 0=(wy.length+1):=by rw[oe];omega
    have cT:0≤(0:Int)∧(0:Int)≤IntKind.i64.wrap ((((wy.length+1)+1:Nat):Int)-1)∧IntKind.i64.wrap ((((wy.length+1)+1:Nat):Int)-1)≤(((wy.length+1)+1:Nat):Int)∧2=2:=⟨by omega,by omega,by omega,rfl⟩
    refine aJ.mk cT ?_;have jE:(IntKind.i64.wrap ((((wy.length+1)+1:Nat):Int)-1)).toNat-Int.toNat 0=(wy).length+1:=qZ.trans (rfl);have jh:AV.ae pN (0+Int.toNat 0*2) ((IntKind.i64.wrap ((((wy.length+1)+1:Nat):Int)-1)).toNat-Int.toNat 0) 2=.ae pN 0 ((wy).length+1) 2:=by rw[jE];rfl
    have pg:bL (wy++[(v,k)])++[AV.int .i64 b,.int .i64 ((0:Nat):Int)]++J2=bL (wy++[(v,k)])++([.int .i64 b,.int .i64 ((0:Nat):Int)]++J2):=by rw[rF,pQ,dW];rfl
    rw[Jd]at hS;refine ao (p:=(0:Int)<(((IntKind.i64.wrap ((((wy.length+1)+1:Nat):Int)-1)).toNat-Int.toNat 0:Nat):Int)) (fun c3=>?_) (fun c3=>?_);rotate_left
    ·rw[jE]at c3;omega
    have jL:eH (aw n l) ((v,k)::(wy).reverse)+1≤eH (aw n l) ((b,0)::(v,k)::(wy).reverse):=by show _≤eH (aw n l) ((v,k)::(wy).reverse)+((aw n l b).length-0)+1;omega
    have hE:(bm,bN (oa.set b.toNat true))::(pN,bL (wy++[(v,k)])++[AV.int .i64 b,.int .i64 ((0:Nat):Int)]++J2)::(nJ++σ)=(bm,bN (oa.set b.toNat true))::(pN,bL (wy++[(v,k)])++([.int .i64 b,.int .i64 ((0:Nat):Int)]++J2))::(nJ++σ):=by rw[pg]
    exact .mk ((false,b,(oa.set b.toNat true),(jb++[b])),(wy,v,k),(pN,[AV.int .i64 b,.int .i64 ((0:Nat):Int)]++J2),(rq,nJ,(lK)++[b])) rfl (by show eH (aw n l) ((v,k)::(wy).reverse)+mI (aw n l) ((jb++[b])) n<_;(show _<eH (aw n l) ((b,0)::(v,k)::wy.reverse)+mI (aw n l) (jb++[b]) n+1);omega) ⟨hS,yW⟩ ⟨rfl,rfl,rfl,rfl,jh,trivial⟩ (.drop 0 2 (aL hE))
  |false=>
   have hV:kn n (aw n l) F oa jb lK ((v,k)::wy.reverse):=hP;have uz:wy.length=wy.length:=rfl;have rF:bL (wy++[(v,k)])++J=bL (wy++[(v,k)])++J:=rfl;have yy:=hV.wy (v,k) (b9 ..);have dv:0≤v∧v<(n:Int):=yy.1;have CC:k≤(aw n l v).length:=yy.2;have mR:=zj n l v;have rH:=hV.small;rw[gj,tQ,uz]at rH;have yR:(oa).length=n:=hV.oq.1;have oe:IntKind.i64.wrap (((wy.length+1:Nat):Int)-1)=((wy.length:Nat):Int):=by rw[cC (by omega)];omega
   have hX:0+(IntKind.i64.wrap (((wy.length+1:Nat):Int)-1)).toNat*2=(wy).length*2:=by rw[oe,uz];omega
   have nD:ei ⟨.int .i64,1,8,[.int .i64 0]⟩ (bL (wy++[(v,k)])++J) (0+(IntKind.i64.wrap (((wy.length+1:Nat):Int)-1)).toNat*2+0)=some (.int .i64 v):=by rw[rF];exact jz rfl (by rw[hX];exact sQ rfl)
   have ml:ei ⟨.int .i64,1,8,[.int .i64 0]⟩ (bL (wy++[(v,k)])++J) (0+(IntKind.i64.wrap (((wy.length+1:Nat):Int)-1)).toNat*2+1)=some (.int .i64 ((k:Nat):Int)):=by rw[rF];exact jz rfl (by rw[hX];exact Du rfl)
   have eQ:(bL (wy++[(v,k)])++J).length=(wy).length*2+2+(J:List AV).length:=by rw[bQ,ng,bQ];show (_+1)*2+_=_;omega
   have mr:IntKind.i64.wrap (((k:Nat):Int)+1)=((k+1:Nat):Int):=by rw[cC (by omega)];omega
   have xf:kO ⟨.int .i64,1,8,[.int .i64 0]⟩ (bL (wy++[(v,k)])++J) (0+(IntKind.i64.wrap (((wy.length+1:Nat):Int)-1)).toNat*2+1) (.int .i64 (IntKind.i64.wrap (((k:Nat):Int)+1)))=some (bL (wy++[(v,k+1)])++J):=by
    rw[rF,ug rfl rfl (by rw[hX,eQ];omega),hX,mr,DO rfl]
   have wE:2=2∧0≤IntKind.i64.wrap (((wy.length+1:Nat):Int)-1)∧IntKind.i64.wrap (((wy.length+1:Nat):Int)-1)<((wy.length+1:Nat):Int):=⟨rfl,by omega,by omega⟩
   refine aJ.mk wE ?_;refine .quiet (by kernel_rfl) ?_;refine aW 1 rfl ml ?_;refine aW 1 rfl nD ?_;refine aJ.mk rfl ?_;refine bO.mk (aw n l v) (by omega) (pZ dv) ?_;refine ao (p:=((k:Nat):Int)<(aw n l v).length) (fun ab=>?_) (fun au=>?_)
   ·have ab:k<(aw n l v).length:=by omega
    obtain⟨z,hz⟩:∃z,(aw n l v)[k]=z:=⟨_,rfl⟩
    have FQ:z∈aw n l v:=hz▸cq ab;have iu:=(lZ.1 FQ).1;refine .quiet (by kernel_rfl) ?_;refine aW 1 rfl nD ?_;refine aJ.mk rfl ?_;refine bO.mk (aw n l v) (by omega) (pZ dv) ?_;refine aW 1 rfl ml ?_;refine aJ.mk rfl ?_;refine bO.mk z (by omega) ((get_some ab).trans (congrArg some hz)) ?_;refine aW 1 rfl ml ?_;refine cU 1 rfl xf ?_;refine aO ?_;refine fg.kZ 0 _ _ rfl (ua rfl iu.1 (by rw[yR];omega)) (fun c2=>?_) (fun c2=>?_)
    ·have jX:z∈jb:=by rw[hV.oq.at_ iu]at c2;exact fP c2
     have hS:=hV.skip ab (by rw[hz];exact jX);have jL:eH (aw n l) ((v,k+1)::(wy).reverse)+1=eH (aw n l) ((v,k)::(wy).reverse):=by show eH (aw n l) (wy).reverse+((aw n l v).length-(k+1))+1+1=eH (aw n l) (wy).reverse+((aw n l v).length-k)+1;omega
     exact .mk ((false,z,oa,jb),(wy,v,k+1),(bw,J),(FE,GX,lK)) rfl (by show eH (aw n l) ((v,k+1)::(wy).reverse)+mI (aw n l) (jb) n<_;(show _<eH (aw n l) ((v,k)::wy.reverse)+mI (aw n l) jb n);omega) ⟨hS,yY⟩ ⟨rfl,rfl,rfl,rfl,rfl,trivial⟩ (.refl _)
    ·have jX:z ∉ jb:=by rw[hV.oq.at_ iu]at c2;exact qE c2
     have hS:=hV.push cP ab (by rw[hz];exact jX);rw[hz]at hS;have jL:eH (aw n l) ((z,0)::(v,k+1)::(wy).reverse)=eH (aw n l) ((v,k)::(wy).reverse)+(aw n l z).length:=by show eH (aw n l) (wy).reverse+((aw n l v).length-(k+1))+1+((aw n l z).length-0)+1=eH (aw n l) (wy).reverse+((aw n l v).length-k)+1+(aw n l z).length;omega
     have nG:=Hk (nx:=aw n l) (seen:=jb) (b:=z.toNat) (by rw[lW iu.1];exact jX) n;rw[af (by omega),lW iu.1]at nG;exact .mk ((true,z,oa,jb),(wy,v,k+1),(bw,J),(FE,GX,lK)) rfl (by show eH (aw n l) ((z,0)::(v,k+1)::(wy).reverse)+mI (aw n l) ((jb)++[z]) n+1<_;(show _<eH (aw n l) ((v,k)::wy.reverse)+mI (aw n l) jb n);omega) ⟨⟨hS,yR,iu.1,iu.2⟩,yY⟩ ⟨rfl,rfl,rfl,rfl,rfl,trivial⟩ (.refl _)
   ·have au:(aw n l v).length≤k:=by omega
    have hS:=hV.pop au;refine aW 1 rfl nD ?_;intro bs;refine iC (k:=(lK).length) (n:=1) [_,_,_] yY (.ae 0 bs 0 1 _ rfl (cy rfl)) rfl (by omega) (by decide) (by decide) (fun rq nJ yX=>?_)
    have yW:Acc 1 ((lK)++[v]).length rq nJ (ai ((lK)++[v])):=by
     rw[List.length_append,show ai ((lK)++[v])=ai (lK)++[.int .i64 v] by simp[ai]];exact yX
    have qZ:(IntKind.i64.wrap (((wy.length+1:Nat):Int)-1)).toNat-Int.toNat 0=wy.length:=by rw[oe];omega
    have cT:0≤(0:Int)∧(0:Int)≤IntKind.i64.wrap (((wy.length+1:Nat):Int)-1)∧IntKind.i64.wrap (((wy.length+1:Nat):Int)-1)≤((wy.length+1:Nat):Int)∧2=2:=⟨by omega,by omega,by omega,rfl⟩
    refine aJ.mk cT ?_
    rcases GM wy with yN | ⟨w',⟨u,i⟩,yN⟩
    ·rw[show wy.reverse=[] by rw[yN];rfl]at hS;refine ao (p:=(0:Int)<(((IntKind.i64.wrap (((wy.length+1:Nat):Int)-1)).toNat-Int.toNat 0:Nat):Int)) (fun c3=>?_) (fun c3=>?_)
     ·rw[qZ]at c3;exact absurd c3 (by rw[yN];decide)
     ·obtain⟨e1,e2,e3,e4⟩:=kn.done hS;rw[← e1]at yW;exact .drop 0 1 (.drop 1 1 (.done ⟨oa,F,rq,nJ,hF.symm,e2,e3,e4,yW,rfl,rfl⟩))
    ·have yN:wy=w'++[(u,i)]:=by simpa using yN
     have XW:(wy).reverse=(u,i)::w'.reverse:=by rw[yN,List.reverse_append];rfl
     have jE:(IntKind.i64.wrap (((wy.length+1:Nat):Int)-1)).toNat-Int.toNat 0=(w').length+1:=qZ.trans (by rw[yN,bQ];rfl);have jh:AV.ae bw (0+Int.toNat 0*2) ((IntKind.i64.wrap (((wy.length+1:Nat):Int)-1)).toNat-Int.toNat 0) 2=.ae bw 0 ((w').length+1) 2:=by rw[jE];rfl
     have pg:bL (wy++[(v,k)])++J=bL (w'++[(u,i)])++([.int .i64 v,.int .i64 ((k:Nat):Int)]++J):=by rw[rF,yN,pQ,dW];rfl
     rw[XW]at hS;refine ao (p:=(0:Int)<(((IntKind.i64.wrap (((wy.length+1:Nat):Int)-1)).toNat-Int.toNat 0:Nat):Int)) (fun c3=>?_) (fun c3=>?_);rotate_left
     ·rw[jE]at c3;omega
     have jL:eH (aw n l) ((u,i)::(w').reverse)+1≤eH (aw n l) ((v,k)::(wy).reverse):=by rw[← XW];show _≤eH (aw n l) (wy).reverse+((aw n l v).length-k)+1;omega
     have hE:(bm,bN oa)::(bw,bL (wy++[(v,k)])++J)::(nJ++σ)=(bm,bN oa)::(bw,bL (w'++[(u,i)])++([.int .i64 v,.int .i64 ((k:Nat):Int)]++J))::(nJ++σ):=by rw[pg]
     exact .mk ((false,b,oa,jb),(w',u,i),(bw,[AV.int .i64 v,.int .i64 ((k:Nat):Int)]++J),(rq,nJ,(lK)++[v])) rfl (by show eH (aw n l) ((u,i)::(w').reverse)+mI (aw n l) (jb) n<_;(show _<eH (aw n l) ((v,k)::wy.reverse)+mI (aw n l) jb n);omega) ⟨hS,yW⟩ ⟨rfl,rfl,rfl,rfl,jh,trivial⟩ (.drop 0 1 (aL hE))
 ·intro hr;have OE:=hm.1;refine aO ?_;refine fg.kZ 0 _ _ rfl (ua rfl ha.1 (by omega)) (fun c1=>?_) (fun c1=>?_)
  ·have eE:a∈out:=by rw[hm.at_ ha]at c1;exact fP c1
   have sy:ij (aw n l) (n+1) a out=[]:=by unfold ij;rw[af eE]
   rw[sy,mV]at hF;exact .done ⟨met,out,vo,wV,by rw[sy,mV],hm,cg,Au,hO,rfl,rfl⟩
  ·have eE:a ∉ out:=by rw[hm.at_ ha]at c1;exact qE c1
   have hV:=kn.top (nx:=aw n l) hm cg Au ha eE;rw[hF]at hV;refine aO ?_;refine cU 0 rfl (zr rfl true ha.1 (by omega)) ?_;intro aF;refine zh (k:=0) (n:=1) [_,_] (acc:=[]) .nil (.ae 0 aF 0 1 _ rfl (cy rfl)) rfl (by omega) (by decide) (by decide) (fun v' aY h'=>?_);obtain⟨bw,J,rfl,rfl,_⟩:=h'.pos (by omega);have rF:[]++[AV.int .i64 a,.int .i64 ((0:Nat):Int)]++J=bL (([]:List (Int×Nat))++[(a,0)])++J:=rfl;have uz:([]:List (Int×Nat)).length=0:=rfl;have hV:kn n (aw n l) F (met.set a.toNat true) (out++[a]) out ((a,0)::([]:List (Int×Nat)).reverse):=hV;have yy:=hV.wy (a,0) (b9 ..);have dv:0≤a∧a<(n:Int):=yy.1;have CC:0≤(aw n l a).length:=yy.2;have mR:=zj n l a;have rH:=hV.small;rw[gj,tQ,uz]at rH;have yR:((met.set a.toNat true)).length=n:=hV.oq.1;have oe:IntKind.i64.wrap (((0+1:Nat):Int)-1)=((0:Nat):Int):=by rw[cC (by omega)];omega
   have hX:0+(IntKind.i64.wrap (((0+1:Nat):Int)-1)).toNat*2=(([]:List (Int×Nat))).length*2:=by rw[oe,uz];omega
   have nD:ei ⟨.int .i64,1,8,[.int .i64 0]⟩ ([]++[AV.int .i64 a,.int .i64 ((0:Nat):Int)]++J) (0+(IntKind.i64.wrap (((0+1:Nat):Int)-1)).toNat*2+0)=some (.int .i64 a):=by rw[rF];exact jz rfl (by rw[hX];exact sQ rfl)
   have ml:ei ⟨.int .i64,1,8,[.int .i64 0]⟩ ([]++[AV.int .i64 a,.int .i64 ((0:Nat):Int)]++J) (0+(IntKind.i64.wrap (((0+1:Nat):Int)-1)).toNat*2+1)=some (.int .i64 ((0:Nat):Int)):=by rw[rF];exact jz rfl (by rw[hX];exact Du rfl)
   have eQ:(bL (([]:List (Int×Nat))++[(a,0)])++J).length=(([]:List (Int×Nat))).length*2+2+(J:List AV).length:=by rw[bQ,ng,bQ];show (_+1)*2+_=_;omega
   have mr:IntKind.i64.wrap (((0:Nat):Int)+1)=((0+1:Nat):Int):=by rw[cC (by omega)];omega
   have xf:kO ⟨.int .i64,1,8,[.int .i64 0]⟩ ([]++[AV.int .i64 a,.int .i64 ((0:Nat):Int)]++J) (0+(IntKind.i64.wrap (((0+1:Nat):Int)-1)).toNat*2+1) (.int .i64 (IntKind.i64.wrap (((0:Nat):Int)+1)))=some (bL (([]:List (Int×Nat))++[(a,0+1)])++J):=by
    rw[rF,ug rfl rfl (by rw[hX,eQ];omega),hX,mr,DO rfl]
   have wE:2=2∧0≤IntKind.i64.wrap (((0+1:Nat):Int)-1)∧IntKind.i64.wrap (((0+1:Nat):Int)-1)<((0+1:Nat):Int):=⟨rfl,by omega,by omega⟩
   refine aJ.mk wE ?_;refine .quiet (by kernel_rfl) ?_;refine aW 2 rfl ml ?_;refine aW 2 rfl nD ?_;refine aJ.mk rfl ?_;refine bO.mk (aw n l a) (by omega) (pZ dv) ?_;refine ao (p:=((0:Nat):Int)<(aw n l a).length) (fun ab=>?_) (fun au=>?_)
   ·have ab:0<(aw n l a).length:=by omega
    obtain⟨z,hz⟩:∃z,(aw n l a)[0]=z:=⟨_,rfl⟩
    have FQ:z∈aw n l a:=hz▸cq ab;have iu:=(lZ.1 FQ).1;refine .quiet (by kernel_rfl) ?_;refine aW 2 rfl nD ?_;refine aJ.mk rfl ?_;refine bO.mk (aw n l a) (by omega) (pZ dv) ?_;refine aW 2 rfl ml ?_;refine aJ.mk rfl ?_;refine bO.mk z (by omega) ((get_some ab).trans (congrArg some hz)) ?_;refine aW 2 rfl ml ?_;refine cU 2 rfl xf ?_;refine aO ?_;refine fg.kZ 1 _ _ rfl (ua rfl iu.1 (by rw[yR];omega)) (fun c2=>?_) (fun c2=>?_)
    ·have jX:z∈(out++[a]):=by rw[hV.oq.at_ iu]at c2;exact fP c2
     have hS:=hV.skip ab (by rw[hz];exact jX);have jL:eH (aw n l) ((a,0+1)::(([]:List (Int×Nat))).reverse)+1=eH (aw n l) ((a,0)::(([]:List (Int×Nat))).reverse):=by show eH (aw n l) (([]:List (Int×Nat))).reverse+((aw n l a).length-(0+1))+1+1=eH (aw n l) (([]:List (Int×Nat))).reverse+((aw n l a).length-0)+1;omega
     exact xM hr ((false,z,(met.set a.toNat true),(out++[a])),(([]:List (Int×Nat)),a,0+1),(bw,J),(vo,wV,out)) ⟨rfl,⟨hS,hO⟩,⟨rfl,rfl,rfl,rfl,rfl,trivial⟩,(.drop 0 1 (.refl _))⟩
    ·have jX:z ∉ (out++[a]):=by rw[hV.oq.at_ iu]at c2;exact qE c2
     have hS:=hV.push cP ab (by rw[hz];exact jX);rw[hz]at hS;have jL:eH (aw n l) ((z,0)::(a,0+1)::(([]:List (Int×Nat))).reverse)=eH (aw n l) ((a,0)::(([]:List (Int×Nat))).reverse)+(aw n l z).length:=by show eH (aw n l) (([]:List (Int×Nat))).reverse+((aw n l a).length-(0+1))+1+((aw n l z).length-0)+1=eH (aw n l) (([]:List (Int×Nat))).reverse+((aw n l a).length-0)+1+(aw n l z).length;omega
     have nG:=Hk (nx:=aw n l) (seen:=(out++[a])) (b:=z.toNat) (by rw[lW iu.1];exact jX) n;rw[af (by omega),lW iu.1]at nG;exact xM hr ((true,z,(met.set a.toNat true),(out++[a])),(([]:List (Int×Nat)),a,0+1),(bw,J),(vo,wV,out)) ⟨rfl,⟨⟨hS,yR,iu.1,iu.2⟩,hO⟩,⟨rfl,rfl,rfl,rfl,rfl,trivial⟩,(.drop 0 1 (.refl _))⟩
   ·have au:(aw n l a).length≤0:=by omega
    have hS:=hV.pop au;refine aW 2 rfl nD ?_;intro bs;refine iC (k:=(out).length) (n:=1) [_,_,_,_] hO (.ae 0 bs 0 1 _ rfl (cy rfl)) rfl (by omega) (by decide) (by decide) (fun rq nJ yX=>?_)
    have yW:Acc 1 ((out)++[a]).length rq nJ (ai ((out)++[a])):=by
     rw[List.length_append,show ai ((out)++[a])=ai (out)++[.int .i64 a] by simp[ai]];exact yX
    have qZ:(IntKind.i64.wrap (((0+1:Nat):Int)-1)).toNat-Int.toNat 0=0:=by rw[oe];omega
    have cT:0≤(0:Int)∧(0:Int)≤IntKind.i64.wrap (((0+1:Nat):Int)-1)∧IntKind.i64.wrap (((0+1:Nat):Int)-1)≤((0+1:Nat):Int)∧2=2:=⟨by omega,by omega,by omega,rfl⟩
    refine aJ.mk cT ?_;obtain⟨e1,e2,e3,e4⟩:=kn.done hS;rw[← e1]at yW;exact .drop 0 2 (.drop 1 1 (.done ⟨(met.set a.toNat true),F,rq,nJ,hF.symm,e2,e3,e4,yW,rfl,rfl⟩))
theorem ajA{t t':Tm}{b off len es:Nat}{e:Sh}{l:List e.T}(k:Nat)(h:t k=.via (.ae b off len es))(h':t'=dF t [(k,.ah e l)])(i:Nat):fm b off len es e l (t i) (t' i):=by
 subst h';show fm b off len es e l (t i) (match Nat.beq i k with | true=>.ah e l | false=>t i);cases hb:Nat.beq i k with
 |true=>rw[j5 hb,h];exact .via .here
 |false=>exact .refl _
theorem aiY{t t':Tm}(e:Sh)(k:Nat)(h:t k=.via .an)(h':t'=dF t [(k,.ah e [])])(i:Nat):fm 0 0 0 0 .bool [] (t i) (t' i):=by
 subst h';show fm 0 0 0 0 .bool [] (t i) (match Nat.beq i k with | true=>.ah e [] | false=>t i);cases hb:Nat.beq i k with
 |true=>rw[j5 hb,h];exact .via (.nil e)
 |false=>exact .refl _
theorem nr.acc{body:Tm→Hp→(Ex→Tm→Hp→Prop)→Prop}{Q:Ex→Tm→Hp→Prop}{t:Tm}(j:Nat)(fr:Hp){acc σ:Hp}{s:Sh}{k:Nat}{v:AV}{cs:List AV}{l:List s.T}(h:Acc s.size k v acc cs)(ht:t j=.via v)(hl:k=l.length)(hc:cs=l.flatMap s.cells)(hp:0<s.size)
  (go:nr body Q (dF t [(j,.ah s l)]) (fr++σ)):nr body Q t (fr++(acc++σ)):=by
 cases h with
 |nil=>
  have iL:l=[]:=iz.1 hl.symm;subst iL;exact .nil (aiY s j ht rfl) go
 |ae b k cs h=>
  refine .eb (.perm (Bq fr [(b,cs)] σ) (.refl _)) ?_;exact .cN 0 b 0 k s.size cs s l rfl (by rw[gR,eR (by omega)];exact hc) ⟨hl.symm,rfl,hp⟩ (ajA j ht rfl) go
theorem adI{R:AV→Hp→Prop}(fr:Hp){acc σ:Hp}{s:Sh}{k:Nat}{v x:AV}{cs:List AV}{l:List s.T}(h:Acc s.size k v acc cs)(hl:k=l.length)(hc:cs=l.flatMap s.cells)(hp:0<s.size)(go:Fin R (.tup [.ah s l,x]) (fr++σ)):Fin R (.tup [v,x]) (fr++(acc++σ)):=by
 subst hl;have hlen:=h.length;refine .perm (Bq fr acc σ) ?_;generalize hk:l.length=k at h;cases h with
 |nil=>
  obtain rfl:=iz.1 hk;exact .nil (eF (.nil _) (.refl _)) go
 |ae b k cs h=>
  subst hk;exact .cN 0 b 0 l.length s.size cs s l rfl (by rw[gR,eR (by omega)];exact hc) ⟨rfl,rfl,hp⟩ (eF .here (.refl _)) go
theorem aa4{R:AV→Hp→Prop}{r:AV}(a:Hp){σ:Hp}(h:Fin R r σ):Fin R r (a++σ):=.drop 0 a.length (by rw[List.take_zero,dI,List.drop_left];exact h)
set_option maxHeartbeats 4000000
theorem ZA{P:Program}{f:FuncId}{a b:List AV}{v:AV}{σ:Hp}{R:AV→Hp→Prop}(hl:v.leaf=true)(h:ACalls P f (a++.via v::b) σ R):ACalls P f (a++v::b) σ R:=by
 refine⟨h.1,fun F w vs bP aG=>h.2 F w vs ⟨by rw[← bP.1];simp,fun i x hx=>?_⟩ aG⟩
 rcases Nat.lt_trichotomy i a.length with hi | hi | hi
 ·rw[j6 hi]at hx;exact bP.2 i x (by rw[j6 hi];exact hx)
 ·subst hi;rw[jq (aQ _),qB]at hx;cases hx;exact .via v _ hl (bP.2 a.length v (by rw[jq (aQ _),qB];rfl))
 ·obtain⟨j,rfl⟩:∃j,i=a.length+(j+1):=⟨i-a.length-1,by omega⟩
  rw[jq (by omega),show a.length+(j+1)-a.length=j+1 by omega]at hx;exact bP.2 _ x (by rw[jq (by omega),show a.length+(j+1)-a.length=j+1 by omega];exact hx)
theorem Acc.leaf{e k:Nat}{v:AV}{acc:Hp}{cs:List AV}(h:Acc e k v acc cs):v.leaf=true:=by cases h <;> rfl
structure zb(n:Nat)(met:List Bool)(out:List Int):Prop where
 oq:tk n met out
 nd:out.Nodup
 rg:∀x∈out,0≤x∧x<(n:Int)
theorem WM(n:Nat)(l:List bE)(a:Int)(met:List Bool)(out:List Int)(bm:Nat)(vo:AV)(wV σ:Hp)(hl:l.length≤100000)(hn:n≤1000)(ha:0≤a∧a<n)(h:zb n met out)(hO:Acc 1 out.length vo wV (ai out)):
  ACalls Tryz.prog 311 [.ah (.slice (.int .i64)) (cd n l),.ae bm 0 n 1,.int .i64 a,vo] ((bm,bN met)::(wV++σ))
   (fun r σ'=>∃sj lL sm se,lL=out++ij (aw n l) (n+1) a out∧zb n sj lL∧Acc 1 lL.length sm se (ai lL)∧r=.via sm∧σ'=(bm,bN sj)::(se++σ)):=
 aal (R:=fun r σ'=>∃sj lL sm se,lL=out++ij (aw n l) (n+1) a out∧zb n sj lL∧Acc 1 lL.length sm se (ai lL)∧r=sm∧σ'=(bm,bN sj)::(se++σ)) (ZA (a:=[_,_,_]) (b:=[]) hO.leaf ((ag2 n l a met out bm vo wV σ hl hn ha h.oq h.nd h.rg hO).mono fun _ _ ⟨sj,lL,sm,se,h1,h2,h3,h4,h5,h6,h7⟩=>⟨sj,lL,sm,se,h1,⟨h2,h3,h4⟩,h5,h6,h7⟩)) fun r σ' ⟨sj,lL,sm,se,h1,h2,h3,h4,h5⟩=>⟨h4▸h3.leaf,sj,lL,sm,se,h1,h2,h3,by rw[h4],h5⟩
theorem aiR(bn:Nat)(n:Nat)(x:Int)(σ:Hp):ACalls Tryz.prog 337 [.int .i64 x,.ptr bn 0] ((bn,[.int .i64 n])::σ) (aC (.bool (decide (x<0∨(n:Int)≤x))) ((bn,[.int .i64 n])::σ)):=by
 refine ay Tryz.func337 ?_;refine ao (fun c1=>?_) (fun c1=>?_)
 ·have c1:x<0:=c1;exact .done ⟨congrArg AV.bool (bu (by omega)).symm,rfl⟩
 ·have c1:¬(x<0):=c1;refine aa 0 ?_;refine ao (fun c2=>?_) (fun c2=>?_)
  ·have c2:(↑n:Int)≤x:=c2;exact .done ⟨congrArg AV.bool (bu (by omega)).symm,rfl⟩
  ·have c2:¬((↑n:Int)≤x):=c2;exact .done ⟨congrArg AV.bool (cf (by omega)).symm,rfl⟩
theorem agv(bn n:Nat)(L:List Int)(σ:Hp)(hl:L.length≤1000000)(hL:∀x∈L,0≤x∧x<(n:Int)):ACalls Tryz.prog 345 [.ah (.int .i64) L,.fn (.func 337) [] [.ptr bn 0]] ((bn,[.int .i64 n])::σ) (aC (.int .i64 (-1)) ((bn,[.int .i64 n])::σ)):=by
 refine ay Tryz.func345 ?_;refine ca (S:=Nat) (fun k=>[(0,.ah (.int .i64) L),(1,.fn (.func 337) [] [.ptr bn 0]),(7,.int .i64 L.length),(8,.int .i64 k)]) (fun _=>(bn,[.int .i64 n])::σ) (fun k=>k≤L.length) (fun k=>L.length-k) 0 ⟨bC _,⟨rfl,rfl,rfl,rfl,trivial⟩,rfl⟩ ?_;intro k g aP;have hk:k≤L.length:=aP;refine ao (p:=(k:Int)<L.length) (fun ab=>?_) (fun au=>?_)
 ·have ab:k<L.length:=by omega
  have hx:=hL _ (cq ab);refine aJ.mk rfl (bO.mk L[k] (by omega) (get_some ab) ?_);refine eY [] (aiR bn n L[k] σ) (fun c=>?_) (fun _=>?_)
  ·have c:=fP c;omega
  ·exact a8 (k+1) (by show L.length-(k+1)<L.length-k;omega) ab ⟨rfl,rfl,rfl,aX (by omega),trivial⟩ (.refl _)
 ·exact .done ⟨rfl,rfl⟩
theorem agw(bn n:Nat)(L:List Int)(σ:Hp)(hl:L.length≤1000000)(hL:∀x∈L,0≤x∧x<(n:Int)):ACalls Tryz.prog 336 [.ah (.int .i64) L,.fn (.func 337) [] [.ptr bn 0]] ((bn,[.int .i64 n])::σ) (aC (.bool false) ((bn,[.int .i64 n])::σ)):=by
 refine ay Tryz.func336 ?_;refine ax [] (agv bn n L σ hl hL) ?_;exact .done ⟨rfl,rfl⟩
theorem aew(n:Nat)(l:List bE)(fr:List Int)(σ:Hp)(hl:l.length≤100000)(hf:fr.length≤100000)(ey:fL n l=true)(vh:∀x∈fr,0≤x∧x<(n:Int)):ACalls Tryz.prog 310 [.int .i64 n,.ah dO l,.ah (.int .i64) fr] σ (aC (.int .i64 0) σ):=by
 refine ay Tryz.func310 ?_;intro aF;refine aa 0 ?_;refine eY [] (EC n l _ (by omega)) (fun _=>?_) (fun c=>absurd c (by rw[ey];decide));refine ax [] (agw aF n fr σ (by omega) vh) ?_;exact .drop 0 1 (.done ⟨rfl,rfl⟩)
def qW(n:Nat)(l:List bE)(fr:List Int):List Int:=s4 n (aw n l) (fr++(List.range n).map fun a:Nat=>(a:Int))
theorem RO(n:Nat)(nx:Int→List Int)(L:List Int)(a:Int):s4 n nx (L++[a])=s4 n nx L++ij nx (n+1) a (s4 n nx L):=by unfold s4;rw[sK];rfl
theorem aiK(n:Nat)(l:List bE)(fr:List Int)(σ:Hp)(hl:l.length≤100000)(hf:fr.length≤100000)(ey:fL n l=true)(vh:∀x∈fr,0≤x∧x<(n:Int)):ACalls Tryz.prog 288 [.int .i64 n,.ah dO l,.ah (.int .i64) fr] σ (fun r σ'=>r=.tup [.ah (.int .i64) (qW n l fr),.int .i64 0]∧σ'=σ∧(∃met,zb n met (qW n l fr))):=by
 have hn:1≤n∧n≤256:=by
  unfold fL at ey;simp only[bS,decide_eq_true_eq]at ey;omega
 have gi:∀k,(cE ((List.range k).map fun a:Nat=>aw n l a)).length=k:=fun k=>by rw[vR,bX,oL]
 refine ay Tryz.func288 ?_;refine ax [] (aew n l fr _ hl hf ey vh) ?_;refine .wrap 9 .an rfl rfl ?_;refine ca (S:=Nat×AV×Hp) (fun x=>[(0,.int .i64 n),(1,.ah dO l),(2,.ah (.int .i64) fr),(9,.via x.2.1),(23,.int .i64 n),(24,.int .i64 x.1)]) (fun x=>x.2.2++σ) (fun x=>x.1≤n∧Acc 1 x.1 x.2.1 x.2.2 (cE ((List.range x.1).map fun a:Nat=>aw n l a))) (fun x=>n-x.1) (0,.an,[]) ⟨⟨bC _,.nil⟩,⟨rfl,rfl,rfl,rfl,rfl,rfl,trivial⟩,rfl⟩ ?_;rintro⟨k,v,acc⟩ g ⟨hk,cj⟩;have hk:k≤n:=hk;have cj:Acc 1 k v acc (cE ((List.range k).map fun a:Nat=>aw n l a)):=cj;refine ao (p:=(k:Int)<n) (fun ab=>?_) (fun au=>?_)
 ·have ab:k<n:=by omega
  refine ax [] (B4 n l k _ hl) ?_;intro bs;refine iC [_] cj (.ae 0 bs 0 1 _ rfl (cy rfl)) rfl (by omega) (by decide) (by decide) (fun v' aY h'=>?_);refine a8 (k+1,v',aY) (by show n-(k+1)<n-k;omega) ⟨ab,?_⟩ ⟨rfl,rfl,rfl,rfl,rfl,aX (by omega),trivial⟩ (.drop 0 1 (.refl _));show Acc 1 (k+1) v' aY (cE ((List.range (k+1)).map fun a:Nat=>aw n l a));rw[sM,cF,show cE (List.map (fun a:Nat=>aw n l a) (List.range k)++List.map (fun a:Nat=>aw n l a) [k])=cE (List.map (fun a:Nat=>aw n l a) (List.range k))++[.ah (.int .i64) (aw n l k)] from cF];exact h'
 ·have au:n=k:=by omega
  subst au;have hlx:∀(c:Nat) (L:List Int) (x:Int),(∀x∈L,0≤x∧x<(n:Int))→L[c]?=some x→0≤x∧x<(n:Int):=fun c L x h hx=>h x (bU hx);have hnT:((n:Nat):Int).toNat=n:=bG n;refine bf ?_;intro bm;refine .wrap 12 .an rfl rfl ?_;refine nr.acc 9 [_] (s:=.slice (.int .i64)) cj rfl ((gi n).symm.trans (vR _)) (xT _) (by decide) ?_;refine ca (S:=Nat×(List Bool×List Int)×(AV×Hp)) (fun x=>[(0,.int .i64 n),(9,.ah (.slice (.int .i64)) (cd n l)),(11,.ae bm 0 n 1),(12,.via x.2.2.1),(37,.ah (.int .i64) fr),(38,.int .i64 fr.length),(39,.int .i64 x.1)]) (fun x=>(bm,bN x.2.1.1)::(x.2.2.2++σ)) (fun x=>x.1≤fr.length∧zb n x.2.1.1 x.2.1.2∧x.2.1.2=s4 n (aw n l) (fr.take x.1)∧Acc 1 x.2.1.2.length x.2.2.1 x.2.2.2 (ai x.2.1.2)) (fun x=>fr.length-x.1) (0,(List.replicate n false,[]),(.an,[])) ⟨⟨Nat.zero_le _,⟨⟨by simp,fun u hu=>by rw[List.getD_eq_getElem?_getD,List.getElem?_replicate,if_pos hu];rfl⟩,List.nodup_nil,fun x hx=>absurd hx (by simp)⟩,rfl,.nil⟩,⟨rfl,rfl,rfl,rfl,rfl,rfl,rfl,trivial⟩,by rw[show bN (List.replicate n false)=cI [.bool false] n from (Ea n).symm];rfl⟩ ?_;rintro⟨j,⟨met,out⟩,⟨vo,ac⟩⟩ g ⟨hj,hP,ho,hO⟩;have hj:j≤fr.length:=hj;have hP:zb n met out:=hP;have ho:out=s4 n (aw n l) (fr.take j):=ho;have hO:Acc 1 out.length vo ac (ai out):=hO;refine ao (p:=(j:Int)<fr.length) (fun ab=>?_) (fun au=>?_)
  ·have ab:j<fr.length:=by omega
   have hz:=vh _ (cq ab);refine aJ.mk rfl (bO.mk fr[j] (by omega) (get_some ab) ?_);refine .mk [] _ (WM n l fr[j] met out bm vo ac σ hl (by omega) hz hP hO) ?_;rintro _ _ ⟨met2,Fa,rq,nJ,h1,h2,h3,rfl,rfl⟩;refine a8 (j+1,(met2,Fa),(rq,nJ)) (by show fr.length-(j+1)<fr.length-j;omega) ⟨ab,h2,?_,h3⟩ ⟨rfl,rfl,rfl,rfl,rfl,rfl,aX (by omega),trivial⟩ (.refl _);show Fa=s4 n (aw n l) (fr.take (j+1));rw[ft ab,RO,← ho];exact h1
  ·have au:¬(j:Int)<fr.length:=au;rw[eR (by omega)]at ho;refine ca (S:=Nat×(List Bool×List Int)×(AV×Hp)) (fun x=>[(9,.ah (.slice (.int .i64)) (cd n l)),(11,.ae bm 0 n 1),(12,.via x.2.2.1),(49,.int .i64 n),(50,.int .i64 x.1)]) (fun x=>(bm,bN x.2.1.1)::(x.2.2.2++σ)) (fun x=>x.1≤n∧zb n x.2.1.1 x.2.1.2∧x.2.1.2=s4 n (aw n l) (fr++(List.range x.1).map fun a:Nat=>(a:Int))∧Acc 1 x.2.1.2.length x.2.2.1 x.2.2.2 (ai x.2.1.2)) (fun x=>n-x.1) (0,(met,out),(vo,ac)) ⟨⟨Nat.zero_le _,hP,by rw[ho];simp,hO⟩,⟨rfl,rfl,rfl,rfl,rfl,trivial⟩,rfl⟩ ?_;clear hP ho hO hj au;rintro⟨j,⟨met,out⟩,⟨vo,ac⟩⟩ g ⟨hj,hP,ho,hO⟩;have hj:j≤n:=hj;have hP:zb n met out:=hP;have ho:out=s4 n (aw n l) (fr++(List.range j).map fun a:Nat=>(a:Int)):=ho;have hO:Acc 1 out.length vo ac (ai out):=hO;refine ao (p:=(j:Int)<n) (fun ab=>?_) (fun au=>?_)
   ·have ab:j<n:=by omega
    refine .mk [] _ (WM n l j met out bm vo ac σ hl (by omega) ⟨by omega,by omega⟩ hP hO) ?_;rintro _ _ ⟨met2,Fa,rq,nJ,h1,h2,h3,rfl,rfl⟩;refine a8 (j+1,(met2,Fa),(rq,nJ)) (by show n-(j+1)<n-j;omega) ⟨ab,h2,?_,h3⟩ ⟨rfl,rfl,rfl,rfl,aX (by omega),trivial⟩ (.refl _);show Fa=s4 n (aw n l) (fr++(List.range (j+1)).map fun a:Nat=>(a:Int));rw[sM,cF,← dW,show List.map (fun a:Nat=>(a:Int)) [j]=[(j:Int)] from rfl,RO,← ho];exact h1
   ·have au:n=j:=by omega
    subst au;have ho:out=qW n l fr:=ho;rw[← ho];exact adI [_] (s:=.int .i64) hO rfl (vW _) (by decide) (.drop 0 1 (.done ⟨rfl,rfl,met,hP⟩))
inductive za(n:Int)(l:List bE)(fr:List Int):Int→Prop where
 |root {a:Int} (h:a∈fr) (h1:0≤a∧a<n):za n l fr a
 |step {a b:Int} (h:za n l fr a) (hb:b∈aw n l a):za n l fr b
theorem za.node{n:Int}{l:List bE}{fr:List Int}{a:Int}(h:za n l fr a):0≤a∧a<n:=by
 cases h with
 |root h h1=>exact h1
 |step h hb=>exact (lZ.1 hb).1
theorem DD:∀(n:Nat) (l:List Int),l.Nodup→(∀z∈l,0≤z∧z<n)→l.length≤n
 | 0,[],_,_=>aQ _
 | 0,z::l,_,h=>by have:=h z (b9 ..);omega
 |n+1,l,hd,h=>by
  have h1:=DD n (l.filter fun z=>decide (z≠n)) (hd.filter _) fun z hz=>by
   obtain⟨q1,q2⟩:=kL.1 hz;have:=h z q1;have q2:=fP q2;omega
  have h2:l.length≤(l.filter fun z=>decide (z≠(n:Int))).length+1:=by
   clear h h1
   induction l with
   |nil=>simp
   |cons z l ih=>
    have kK:=lV.1 hd
    by_cases hz:z=n
    ·subst hz
     have e:(((n:Int)::l).filter fun z=>decide (z≠(n:Int)))=l:=by
      rw[List.filter_cons_of_neg (by simp)];exact gw0.2 fun y hy=>bu fun e=>kK.1 (e▸hy)
     rw[e];simp
    ·have:=ih kK.2;rw[List.filter_cons_of_pos (by simp[hz])];simp only[gj];omega
  omega
theorem abg{b:List Bool}{k:Nat}{a:Int}:a∈N1 b k↔(0≤a∧a<k)∧b.getD a.toNat false=true:=by
 unfold N1;rw[cX];constructor
 ·rintro⟨i,hi,rfl⟩;obtain⟨h1,h2⟩:=kL.1 hi;exact⟨by have:=fF.1 h1;omega,h2⟩
 ·rintro⟨h1,h2⟩;exact⟨a.toNat,kL.2 ⟨fF.2 (by omega),h2⟩,by omega⟩
theorem HI(b:List Bool)(i j:Nat):(b.set i true).getD j false=true↔(i=j∧i<b.length)∨b.getD j false=true:=by
 rw[aZ,eA,aZ]
 by_cases h:i=j
 ·subst h;rw[af rfl]
  by_cases h2:i<b.length
  ·rw[if_pos h2];simp[h2]
  ·rw[if_neg h2];simp[h2]
 ·rw[if_neg h];simp[h]
theorem abi{n:Int}{b:List Bool}{a:Int}(hb:(b.length:Int)=n)(j:Nat):(yp n b a).getD j false=true↔(0≤a∧a<n∧(j:Int)=a)∨b.getD j false=true:=by
 unfold yp
 by_cases h:0≤a∧a<n
 ·rw[af h,HI];constructor
  ·rintro (⟨e,_⟩ | e)
   ·exact .inl ⟨h.1,h.2,by omega⟩
   ·exact .inr e
  ·rintro (⟨_,_,e⟩ | e)
   ·exact .inl ⟨by omega,by omega⟩
   ·exact .inr e
 ·rw[ag h];exact⟨.inr,fun h2=>by rcases h2 with h2 | h2;exact absurd ⟨h2.1,h2.2.1⟩ h;exact h2⟩
theorem L1{n:Int}:∀(fr:List Int) {b:List Bool},(b.length:Int)=n→∀j:Nat,(fr.foldl (yp n) b).getD j false=true↔((j:Int)∈fr∧(j:Int)<n)∨b.getD j false=true
 | [],b,_,j=>by simp
 |a::fr,b,hb,j=>by
  rw[GC,L1 fr (by rw[QZ];exact hb) j,abi hb j,dm];constructor
  ·rintro (⟨h1,h2⟩ | ⟨h1,h2,h3⟩ | h)
   ·exact .inl ⟨.inr h1,h2⟩
   ·exact .inl ⟨.inl h3,by omega⟩
   ·exact .inr h
  ·rintro (⟨h1 | h1,h2⟩ | h)
   ·exact .inr (.inl ⟨by omega,by omega,h1⟩)
   ·exact .inl ⟨h1,h2⟩
   ·exact .inr (.inr h)
theorem Lq(n:Int):∀(fr:List Int) (b:List Bool),(fr.foldl (yp n) b).length=b.length
 | [],_=>rfl
 |a::fr,b=>by rw[GC,Lq n fr,QZ]
def okB(n:Int)(l:List bE)(fr:List Int)(b:List Bool):Prop:=(b.length:Int)=n∧∀j:Nat,b.getD j false=true→za n l fr j
theorem ahg{n:Int}{l:List bE}{fr:List Int}{b:List Bool}{e:bE}(he:e∈l)(h:okB n l fr b):okB n l fr (sH n b e):=by
 unfold sH
 by_cases c:(0≤e.1∧e.1<n)∧(0≤e.2.1∧e.2.1<n)∧b.getD e.1.toNat false=true
 ·rw[af c];refine⟨by rw[cz];exact h.1,fun j hj=>?_⟩
  rcases (HI _ _ _).1 hj with ⟨e1,_⟩ | hj
  ·have:=h.2 _ c.2.2;refine .step this (lZ.2 ⟨by omega,by omega,e,he,by omega,by omega⟩)
  ·exact h.2 j hj
 ·rw[ag c];exact h
theorem TX{n:Int}{l:List bE}{fr:List Int}:∀(L:List bE) {b:List Bool},(∀e∈L,e∈l)→okB n l fr b→okB n l fr (L.foldl (sH n) b)
 | [],_,_,h=>h
 |e::L,_,hL,h=>TX L (fun x hx=>hL x (cQ _ hx)) (ahg (hL e (b9 ..)) h)
theorem Ww{n:Int}{b:List Bool}{e:bE}{j:Nat}(h:b.getD j false=true):(sH n b e).getD j false=true:=by
 unfold sH;split
 ·exact (HI _ _ _).2 (.inr h)
 ·exact h
theorem DR{n:Int}:∀(L:List bE) {b:List Bool} {j:Nat},b.getD j false=true→(L.foldl (sH n) b).getD j false=true
 | [],_,_,h=>h
 |_::L,_,_,h=>DR L (Ww h)
theorem TY{n:Int}:∀(L:List bE) {b:List Bool} {e:bE},(b.length:Int)=n→e∈L→(0≤e.1∧e.1<n)→(0≤e.2.1∧e.2.1<n)→b.getD e.1.toNat false=true→(L.foldl (sH n) b).getD e.2.1.toNat false=true
 |x::L,b,e,hb,he,h1,h2,h3=>by
  rcases dm.1 he with rfl | he
  ·refine DR L ?_;unfold sH;rw[af ⟨h1,h2,h3⟩];exact (HI _ _ _).2 (.inl ⟨rfl,by omega⟩)
  ·exact TY L (by rw[R0];exact hb) he h1 h2 (Ww h3)
def wR(b:List Bool):Nat:=b.countP id
theorem MD:∀{b c:List Bool},b.length=c.length→(∀j:Nat,b.getD j false=true→c.getD j false=true)→wR b≤wR c∧(wR b=wR c→b=c)
 | [],[],_,_=>⟨aQ _,fun _=>rfl⟩
 |x::b,y::c,hl,h=>by
  obtain⟨h1,h2⟩:=MD (b:=b) (c:=c) (by simpa using hl) fun j hj=>h (j+1) hj;have h0:=h 0;unfold wR at h1 h2 ⊢;simp only[KP];cases x <;> cases y <;> simp at h0 ⊢
  ·exact⟨h1,h2⟩
  ·omega
  ·exact⟨h1,h2⟩
theorem Lp(n:Int):∀(L:List bE) (b:List Bool),(L.foldl (sH n) b).length=b.length
 | [],_=>rfl
 |e::L,b=>by rw[GC,Lp n L,R0]
theorem RK{n:Int}{l:List bE}{b:List Bool}(h:pY n l b=b):∀k,vY n l k b=b
 | 0=>rfl
 |k+1=>by rw[rounds_succ,h];exact RK h k
theorem Ra{n:Int}{l:List bE}:∀(k:Nat) {b:List Bool},(b.length:Int)=n→b.length≤wR b+k→pY n l (vY n l k b)=vY n l k b
 | 0,b,hb,hc=>by
  have hl:(pY n l b).length=b.length:=Lp n l b;have hu:=MD (b:=b) (c:=pY n l b) hl.symm fun j hj=>DR l hj;have h2:wR (pY n l b)≤(pY n l b).length:=List.countP_le_length;show pY n l b=b;exact (hu.2 (by omega)).symm
 |k+1,b,hb,hc=>by
  have hl:(pY n l b).length=b.length:=Lp n l b;have hu:=MD (b:=b) (c:=pY n l b) hl.symm fun j hj=>DR l hj
  by_cases h:pY n l b=b
  ·rw[RK h];exact h
  ·rw[rounds_succ];refine Ra k (by rw[hl];exact hb) ?_;have:wR b≠wR (pY n l b):=fun e=>h (hu.2 e).symm;omega
theorem RI{n:Int}{l:List bE}{fr:List Int}:∀(k:Nat) {b:List Bool},okB n l fr b→okB n l fr (vY n l k b)
 | 0,_,h=>h
 |k+1,_,h=>by rw[rounds_succ];exact RI k (TX l (fun _ h=>h) h)
theorem SD{n:Int}{l:List bE}:∀(k:Nat) {b:List Bool} {j:Nat},b.getD j false=true→(vY n l k b).getD j false=true
 | 0,_,_,h=>h
 |k+1,_,_,h=>by rw[rounds_succ];exact SD k (DR l h)
theorem ZZ{n:Nat}{l:List bE}{fr:List Int}(a:Int):a∈Nr n l fr↔za n l fr a:=by
 have iL:(((List.replicate n false).length:Nat):Int)=n:=by rw[fQ]
 have aq:okB n l fr (fr.foldl (yp n) (List.replicate n false)):=by
  refine⟨by rw[Lq];exact iL,fun j hj=>?_⟩
  rcases (L1 fr iL j).1 hj with ⟨h1,h2⟩ | h
  ·exact .root h1 ⟨by omega,h2⟩
  ·rw[aZ,vK]at h;split at h <;> cases h
 have bM:okB n l fr (Ey n l fr):=RI _ aq
 have Fq:pY n l (Ey n l fr)=Ey n l fr:=by
  refine Ra _ aq.1 ?_;rw[Lq,fQ,bG];omega
 unfold Nr;rw[bG,abg];constructor
 ·rintro⟨h1,h2⟩;have:=bM.2 _ h2
  rwa [lW h1.1]at this
 ·intro h;refine⟨h.node,?_⟩
  induction h with
  | @root x hf hn=>
   refine SD _ ((L1 fr iL _).2 (.inl ⟨?_,?_⟩))
   ·rw[lW hn.1];exact hf
   ·omega
  | @step x y hx hy ih=>
   obtain⟨u0,sw,e,he,e1,e2⟩:=lZ.1 hy;rw[← Fq];have:=TY l (b:=Ey n l fr) bM.1 he (by omega) (by omega) (by rw[e1];exact ih);rw[e2]at this;exact this
theorem xO{a:Int}:∀{P:List (List Int)},P.flatten.Nodup→∀{i j:Nat} {p q:List Int},P[i]?=some p→P[j]?=some q→a∈p→a∈q→i=j
 | [],_,i,_,_,_,h,_,_,_=>by simp at h
 |r::P,hd,i,j,p,q,hi,hj,hp,hq=>by
  rw[C0]at hd;obtain⟨_,h2,h3⟩:=pM.1 hd;cases i with
  |zero=>
   cases j with
   |zero=>rfl
   |succ j=>
    obtain rfl:r=p:=by simpa using hi
    have hj:P[j]?=some q:=by simpa using hj
    exact absurd rfl (h3 a hp a (pL.2 ⟨q,bU hj,hq⟩))
  |succ i=>
   have hi:P[i]?=some p:=by simpa using hi
   cases j with
   |zero=>
    obtain rfl:r=q:=by simpa using hj
    exact absurd rfl (h3 a hq a (pL.2 ⟨p,bU hi,hp⟩))
   |succ j=>
    have hj:P[j]?=some q:=by simpa using hj
    exact congrArg (· + 1) (xO h2 hi hj hp hq)
theorem rN.le{n:Nat}{nx:Int→List Int}{P:List (List Int)}(h:rN n nx P){x y:Int}(hr:Rx nx x y){i:Nat}{p:List Int}(hi:P[i]?=some p)(hx:x∈p):∃(j:Nat) (q:List Int),j≤i∧P[j]?=some q∧y∈q:=by
 induction hr with
 |refl=>exact⟨i,p,aQ _,hi,hx⟩
 |step _ hc ih=>
  obtain⟨j,q,h1,h2,h3⟩:=ih;obtain⟨k,r,k1,k2,k3⟩:=h.Ll j q h2 _ h3 _ hc;exact⟨k,r,ff k1 h1,k2,k3⟩
theorem agQ{n:Int}{l:List bE}{a b:Int}:za n l [a] b↔(0≤a∧a<n)∧Rx (aw n l) a b:=by
 constructor
 ·intro h
  induction h with
  |root hm h1=>rw[bD.1 hm]at h1 ⊢;exact⟨h1,.refl _⟩
  |step _ hb ih=>exact⟨ih.1,.step ih.2 hb⟩
 ·rintro⟨ha,h⟩
  induction h with
  |refl=>exact .root (bD.2 rfl) ha
  |step _ hc ih=>exact .step ih hc
theorem Ia{n:Nat}{l:List bE}{a b:Int}:Cp n l a b=true↔(0≤a∧a<n)∧Rx (aw n l) a b:=by
 unfold Cp;rw[Ei,ZZ,agQ]
theorem aaZ(n:Nat)(l:List bE)(a:Int):(sb n l a).Pairwise (· < ·):=by
 unfold sb Ns;rw[vF];refine List.Pairwise.filter _ ?_;exact List.pairwise_lt_range.imp fun h=>by omega
theorem MY{n:Nat}{l:List bE}{P:List (List Int)}(h:rN n (aw n l) P){p:List Int}{a:Int}(hp:p∈P)(ha:a∈p):sb n l a=p:=by
 obtain⟨i,hi⟩:=GK hp;have tK:=h.node p hp a ha;refine M7 (aaZ ..) (h.Cq p hp) fun z=>?_;rw[abf];constructor
 ·rintro⟨k,hk,hb,rfl⟩;rw[bS,Ia,Ia]at hb;obtain⟨j,q,j1,j2,j3⟩:=h.le hb.1.2 hi ha;obtain⟨k2,r,k3,k4,k5⟩:=h.le hb.2.2 j2 j3;have:=xO h.nd hi k4 ha k5;have:i=j:=by omega
  subst this;rw[hi]at j2;rw[Option.some.inj j2];exact j3
 ·intro hz;have iu:=h.node p hp z hz;refine⟨z.toNat,by omega,?_,by omega⟩;rw[lW iu.1,bS,Ia,Ia];exact⟨⟨tK,h.Qu p hp a ha z hz⟩,iu,h.Qu p hp z hz a ha⟩
def lN(i:Int)(p:List Int)(w:List Int):List Int:=p.foldl (fun w a=>w.set a.toNat i) w
def nu(P:List (List Int)):Nat→List Int→List Int
 | 0,w=>w
 |k+1,w=>lN k (P.getD k []) (nu P k w)
def bF(n:Nat)(P:List (List Int)):List Int:=nu P P.length (List.replicate n 0)
theorem Hb(i:Int):∀(p w:List Int),(lN i p w).length=w.length
 | [],_=>rfl
 |a::p,w=>by
  show (lN i p (w.set a.toNat i)).length=_;rw[Hb i p,cz]
theorem Di(P:List (List Int)):∀(k:Nat) (w:List Int),(nu P k w).length=w.length
 | 0,_=>rfl
 |k+1,w=>by
  show (lN k (P.getD k []) (nu P k w)).length=_;rw[Hb,Di P k]
theorem Rt(n:Nat)(P:List (List Int)):(bF n P).length=n:=by unfold bF;rw[Di,fQ]
theorem U9(i:Int){a:Int}(ha:0≤a):∀(p w:List Int),(∀z∈p,0≤z)→a.toNat<w.length→(lN i p w).getD a.toNat 0=if a∈p then i else w.getD a.toNat 0
 | [],w,_,_=>by simp[lN]
 |z::p,w,hp,hw=>by
  show (lN i p (w.set z.toNat i)).getD a.toNat 0=_;have hz:=hp z (b9 ..);rw[U9 i ha p _ (fun y hy=>hp y (cQ _ hy)) (by rw[cz];exact hw),nh]
  by_cases h1:a∈p
  ·rw[af h1,af (cQ _ h1)]
  ·rw[ag h1]
   by_cases h2:a=z
   ·rw[af ⟨by omega,hw⟩,af (by rw[h2];exact b9 ..)]
   ·rw[ag (by omega),ag (by rw[dm];exact fun h=>h.elim h2 h1)]
theorem wh{P:List (List Int)}{i:Nat}{p:List Int}(h:P[i]?=some p):P.getD i []=p:=by rw[aZ,h];rfl
theorem U8{n:Nat}{nx:Int→List Int}{P:List (List Int)}(h:rN n nx P){i:Nat}{p:List Int}(hi:P[i]?=some p){a:Int}(ha:a∈p):∀k,k≤P.length→i<k→(nu P k (List.replicate n 0)).getD a.toNat 0=i
 | 0,_,hk=>absurd hk (oJ _)
 |k+1,nE,hk=>by
  have tK:=h.node p (bU hi) a ha;obtain⟨q,hq⟩:∃q,P[k]?=some q:=⟨P[k],bB (by omega)⟩
  show (lN k (P.getD k []) _).getD a.toNat 0=_;rw[wh hq,U9 k tK.1 _ _ (fun z hz=>(h.node q (bU hq) z hz).1) (by rw[Di,fQ];omega)]
  by_cases hm:a∈q
  ·rw[af hm,xO h.nd hi hq ha hm]
  ·rw[ag hm];have:i≠k:=fun e=>by subst e;rw[hi]at hq;exact hm (Option.some.inj hq▸ha)
   exact U8 h hi ha k (by omega) (by omega)
theorem aeF{n:Nat}{nx:Int→List Int}{P:List (List Int)}(h:rN n nx P){i:Nat}{p:List Int}(hi:P[i]?=some p){a:Int}(ha:a∈p):(bF n P).getD a.toNat 0=i:=
 U8 h hi ha P.length (aQ _) (bZ.1 hi).1
def nY(l:List bE)(W:List Int)(T:List Bool)(i:Int):Bool:= !T.getD i.toNat false&&!l.any fun x=>decide (W.getD x.2.1.toNat 0=i)&&decide (W.getD x.1.toNat 0≠i)&&!T.getD (W.getD x.1.toNat 0).toNat false
def iP(P:List (List Int))(i:Nat):Int:=(P.getD i []).headD 0
def fI(P:List (List Int))(l:List bE)(W:List Int)(T:List Bool):Nat→Int
 | 0=> -1
 |k+1=>if nY l W T k=true∧(fI P l W T k<0∨iP P k<iP P (fI P l W T k).toNat) then k else fI P l W T k
theorem Hm(P:List (List Int))(l:List bE)(W:List Int)(T:List Bool):∀k:Nat,(fI P l W T k = -1∧∀i:Nat,i<k→nY l W T i=false)∨∃b:Nat,fI P l W T k=b∧b<k∧nY l W T b=true∧∀i:Nat,i<k→nY l W T i=true→iP P b≤iP P i
 | 0=>.inl ⟨rfl,fun _ h=>absurd h (oJ _)⟩
 |k+1=>by
  have ih:=Hm P l W T k
  by_cases c:nY l W T k=true∧(fI P l W T k<0∨iP P k<iP P (fI P l W T k).toNat)
  ·have e:fI P l W T (k+1)=k:=af c;rw[e];refine .inr ⟨k,rfl,by omega,c.1,fun i hi hf=>?_⟩
   by_cases Ge:i=k
   ·subst Ge;exact kl _
   ·rcases ih with ⟨h1,h2⟩ | ⟨b,h1,h2,h3,h4⟩
    ·rw[h2 i (by omega)]at hf;cases hf
    ·have:=h4 i (by omega) hf;rw[h1,bG]at c
     rcases c.2 with c | c
     ·omega
     ·omega
  ·have e:fI P l W T (k+1)=fI P l W T k:=ag c;rw[e]
   rcases ih with ⟨h1,h2⟩ | ⟨b,h1,h2,h3,h4⟩
   ·refine .inl ⟨h1,fun i hi=>?_⟩
    by_cases Ge:i=k
    ·subst Ge;exact GI.2 fun hf=>c ⟨hf,.inl (by omega)⟩
    ·exact h2 i (by omega)
   ·refine .inr ⟨b,h1,by omega,h3,fun i hi hf=>?_⟩
    by_cases Ge:i=k
    ·subst Ge;rw[h1,bG]at c;exact Int.not_lt.1 fun ab=>c ⟨hf,.inr ab⟩
    ·exact h4 i (by omega) hf
def dL(P:List (List Int))(l:List bE)(W:List Int):Nat→List Bool×List (List Int)
 | 0=>(List.replicate P.length false,[])
 |k+1=>((dL P l W k).1.set (fI P l W (dL P l W k).1 P.length).toNat true,(dL P l W k).2++[P.getD (fI P l W (dL P l W k).1 P.length).toNat []])
def Jj(n:Nat)(l:List bE)(told:List Int)(a:Nat):Bool:=decide ((sb n l a).headD 0=(a:Int))&&!tC told a&&Oc l (sb n l a) told
def E9(n:Nat)(l:List bE):Nat→List (List Int)×List Int→List (List Int)×List Int
 | 0,s=>s
 |f+1,s=>if s.2.length<n then (match (List.range n).find? (Jj n l s.2) with | none=>s | some a=>E9 n l f (s.1++[sb n l a],s.2++sb n l a)) else s
def kG(n:Nat)(l:List bE):List (List Int):=(E9 n l (n+1) ([],[])).1
theorem aa2{p:Nat→Bool}{n a:Nat}(ha:a<n)(hp:p a=true)(h:∀b,b<a→p b=false):(List.range n).find? p=some a:=by
 rw[List.find?_range_eq_some];exact⟨hp,fF.2 ha,fun b hb=>by rw[h b hb];rfl⟩
structure px(n:Nat)(l:List bE)(P:List (List Int)):Prop where
 ok:rN n (aw n l) P
 all:∀x:Int,0≤x→x<n→∃p∈P,x∈p
theorem px.idx{n:Nat}{l:List bE}{P:List (List Int)}(h:px n l P){x:Int}(hx:0≤x∧x<n):∃(i:Nat) (p:List Int),P[i]?=some p∧x∈p∧(bF n P).getD x.toNat 0=i:=by
 obtain⟨p,hp,su⟩:=h.all x hx.1 hx.2;obtain⟨i,hi⟩:=GK hp;exact⟨i,p,hi,su,aeF h.ok hi su⟩
theorem zn{P:List (List Int)}{i:Nat}{p:List Int}(h:P[i]?=some p):i<P.length:=(bZ.1 h).1
structure OI(P:List (List Int))(k:Nat)(T:List Bool)(out:List (List Int)):Prop where
 tl:T.length=P.length
 ol:out.length=k
 aH:T.countP id=k
 mem:∀q,q∈out↔∃i:Nat,T.getD i false=true∧P[i]?=some q
 nd:out.flatten.Nodup
theorem Ta{n:Nat}{l:List bE}{P:List (List Int)}(h:px n l P)(hr:∀e∈l,(0≤e.1∧e.1<(n:Int))∧0≤e.2.1∧e.2.1<(n:Int)){k:Nat}{T:List Bool}{out:List (List Int)}(hO:OI P k T out){i:Nat}{p:List Int}(hi:P[i]?=some p):nY l (bF n P) T i=true↔T.getD i false=false∧Oc l p out.flatten=true:=by
 unfold nY Oc;rw[bG,bS,jO,jO,CZ,fG];refine and_congr_right fun _=>?_;refine forall_congr' fun e=>?_;refine forall_congr' fun he=>?_;obtain⟨q1,q2⟩:=hr e he;obtain⟨a,pa,ha,F8,wa⟩:=h.idx q1;obtain⟨b,pb,hb,rJ,wb⟩:=h.idx q2;rw[wa,wb,bG]
 have eE:∀{j:Nat} {r:List Int} {x:Int},P[j]?=some r→x∈r→(tC p x=true↔j=i):=fun {j r x} hj hx=>by
  rw[Ei];exact⟨fun hm=>xO h.ok.nd hj hi hx hm,fun e=>by subst e;rw[hi]at hj;rw[Option.some.inj hj];exact hx⟩
 have aid:tC out.flatten e.1=true↔T.getD a false=true:=by
  rw[Ei,pL];constructor
  ·rintro⟨q,hq,hm⟩;obtain⟨j,hj,oG⟩:=(hO.mem q).1 hq;rw[xO h.ok.nd ha oG F8 hm];exact hj
  ·intro ht;exact⟨pa,(hO.mem pa).2 ⟨a,ht,ha⟩,F8⟩
 have h1:=eE ha F8;have h2:=eE hb rJ;rw[bS,bS,decide_eq_true_eq,decide_eq_true_eq,jO,jO,Bool.and_eq_false_iff,Bool.and_eq_false_iff,KT,KT];have h3:tC p e.2.1=false↔b≠i:=by rw[← Bool.not_eq_true,h2]
 rw[aid,h1,h3,← Bool.not_eq_true];constructor
 ·intro hn
  by_cases c1:b=i
  ·by_cases c2:a=i
   ·exact .inl (.inr c2)
   ·exact .inr (by
     by_cases c3:T.getD a false=true
     ·exact c3
     ·exact absurd ⟨⟨by omega,by omega⟩,c3⟩ hn)
  ·exact .inl (.inl c1)
 ·rintro ((c | c) | c) ⟨⟨d1,d2⟩,d3⟩
  ·exact c (by omega)
  ·exact d2 (by omega)
  ·exact d3 c
theorem count_set{T:List Bool}{i:Nat}(hi:i<T.length)(h:T.getD i false=false):(T.set i true).countP id=T.countP id+1:=by
 induction T generalizing i with
 |nil=>simp at hi
 |cons t T ih=>
  cases i with
  |zero=>
   have:t=false:=h;subst this;simp
  |succ i=>
   have:=ih (i:=i) (by simpa using hi) h;rw[List.set_cons_succ,KP,KP,this];omega
theorem aad:∀{T:List Bool},T.countP id<T.length→∃i,i<T.length∧T.getD i false=false∧∀j,i<j→j<T.length→T.getD j false=true:=by
 intro T
 induction T with
 |nil=>intro h;simp at h
 |cons t T ih=>
  intro h;rw[KP,gj]at h
  by_cases c:T.countP id<T.length
  ·obtain⟨i,h1,h2,h3⟩:=ih c;refine⟨i+1,by rw[gj];omega,h2,fun j hj hl=>?_⟩;cases j with
   |zero=>omega
   |succ j=>exact h3 j (by omega) (by rw[gj]at hl;omega)
  ·have ht:t=false:=by
    cases t with
    |false=>rfl
    |true=>simp at h;omega
   subst ht;have cx:T.countP id=T.length:=by have:=List.countP_le_length (p:=id) (l:=T);omega
   refine⟨0,by simp,rfl,fun j hj hl=>?_⟩;cases j with
   |zero=>omega
   |succ j=>
    have hl:j<T.length:=by rw[gj]at hl;omega
    have:=List.countP_eq_length.1 cx _ (cq hl);show T.getD j false=true;rw[aZ,bB hl];exact this
theorem DA{n:Nat}{nx:Int→List Int}{P:List (List Int)}(h:rN n nx P):P.length≤n∧P.flatten.length≤n:=by
 have h1:P.flatten.length≤n:=DD n _ h.nd fun z hz=>by
  obtain⟨p,hp,hz⟩:=pL.1 hz;exact h.node p hp z hz
 refine⟨ff ?_ h1,h1⟩;have:=h.ne;clear h h1
 induction P with
 |nil=>exact aQ _
 |cons p P ih=>
  have h1:=mX.2 (this p (b9 ..));have h2:=ih fun q hq=>this q (cQ _ hq);rw[C0,bQ,gj];omega
theorem Mr{n:Nat}{l:List bE}{P:List (List Int)}(h:px n l P)(hr:∀e∈l,(0≤e.1∧e.1<(n:Int))∧0≤e.2.1∧e.2.1<(n:Int)){k:Nat}(hk:k<P.length){T:List Bool}{out:List (List Int)}(hO:OI P k T out):
  ∃(b:Nat) (p:List Int),fI P l (bF n P) T P.length=b∧P[b]?=some p∧OI P (k+1) (T.set b true) (out++[p])∧out.flatten.length<n∧∃a:Nat,(List.range n).find? (Jj n l out.flatten)=some a∧sb n l a=p:=by
 obtain⟨i,xj,qz,hi3⟩:=aad (T:=T) (by rw[hO.aH,hO.tl];exact hk);rw[hO.tl]at xj hi3;obtain⟨pi,hpi⟩:∃p,P[i]?=some p:=⟨P[i],bB xj⟩
 have Xp:nY l (bF n P) T i=true:=by
  unfold nY;rw[bG,qz,bS];refine⟨rfl,?_⟩;rw[jO];refine CZ.2 fun e he=>?_;obtain⟨q1,q2⟩:=hr e he;obtain⟨a,pa,ha,F8,wa⟩:=h.idx q1;obtain⟨b,pb,hb,rJ,wb⟩:=h.idx q2;rw[wa,wb,bG,bS,bS,decide_eq_true_eq,decide_eq_true_eq,jO];rintro⟨⟨d1,d2⟩,d3⟩;obtain⟨j,q,j1,j2,j3⟩:=h.ok.Ll a pa ha e.1 F8 e.2.1 (lZ.2 ⟨q2,q1,e,he,rfl,rfl⟩);have:=xO h.ok.nd hb j2 rJ j3;rw[hi3 a (by omega) (zn ha)]at d3;cases d3
 rcases Hm P l (bF n P) T P.length with ⟨_,kJ⟩ | ⟨b,hb,pF,hbf,tI⟩
 ·rw[kJ i xj]at Xp;cases Xp
 obtain⟨p,hp⟩:∃p,P[b]?=some p:=⟨P[b],bB pF⟩
 have fN:=bU hp;obtain⟨xm,hbF⟩:=(Ta h hr hO hp).1 hbf
 have F7:p ∉ out:=fun hm=>by
  obtain⟨j,hj,oG⟩:=(hO.mem p).1 hm;obtain⟨z,hz⟩:=List.exists_mem_of_ne_nil _ (h.ok.ne p fN);rw[xO h.ok.nd hp oG hz hz,hj]at xm;cases xm
 have X6:∀z∈p,z ∉ out.flatten:=fun z hz hm=>by
  obtain⟨q,hq,Pe⟩:=pL.1 hm;obtain⟨j,hj,oG⟩:=(hO.mem q).1 hq;rw[xO h.ok.nd hp oG hz Pe,hj]at xm;cases xm
 have cg:(out.flatten++p).Nodup:=pM.2 ⟨hO.nd,(h.ok.Cq p fN).imp fun h=>by omega,fun x hx y hy e=>X6 y hy (e▸hx)⟩
 have qY:∀z∈out.flatten++p,0≤z∧z<(n:Int):=fun z hz=>by
  rcases bY.1 hz with hz | hz
  ·obtain⟨q,hq,Pe⟩:=pL.1 hz;obtain⟨j,_,oG⟩:=(hO.mem q).1 hq;exact h.ok.node q (bU oG) z Pe
  ·exact h.ok.node p fN z hz
 have hlen:=DD n _ cg qY;rw[bQ]at hlen;have ve:=mX.2 (h.ok.ne p fN);refine⟨b,p,hb,hp,⟨by rw[List.length_set];exact hO.tl,by rw[List.length_append,hO.ol];rfl,by rw[count_set (by rw[hO.tl];exact pF) xm,hO.aH],fun q=>?_,by rw[List.flatten_append];simpa using cg⟩,by omega,?_⟩
 ·rw[bY,bD,hO.mem];constructor
  ·rintro (⟨j,hj,oG⟩ | rfl)
   ·exact⟨j,by rw[LI];split;rfl;exact hj,oG⟩
   ·exact⟨b,by rw[LI,af ⟨rfl,by rw[hO.tl];exact pF⟩],hp⟩
  ·rintro⟨j,hj,oG⟩;rw[LI]at hj
   by_cases e:b=j
   ·subst e;rw[hp]at oG;exact .inr (Option.some.inj oG).symm
   ·rw[ag (fun h=>e h.1)]at hj;exact .inl ⟨j,hj,oG⟩
 have Xo:∀{j:Nat} {q:List Int},P[j]?=some q→iP P j∈q∧iP P j=q.headD 0∧∀z∈q,iP P j≤z:=fun {j q} hj=>by
  have aS:=h.ok.ne q (bU hj);have hs:=h.ok.Cq q (bU hj);unfold iP;rw[wh hj];cases q with
  |nil=>exact absurd rfl aS
  |cons z q=>
   refine⟨b9 ..,rfl,fun y hy=>?_⟩
   rcases dm.1 hy with rfl | hy
   ·exact kl _
   ·have:=(tP.1 hs).1 y hy;show z≤y;omega
 obtain⟨m1,m2,_⟩:=Xo hp;have hhn:=h.ok.node p fN _ m1;refine⟨(iP P b).toNat,aa2 (by omega) ?_ fun a' AF=>GI.2 fun hc=>?_,?_⟩
 ·unfold Jj;rw[lW hhn.1,MY h.ok fN m1,hbF,KD,bS,decide_eq_true_eq,jO];exact⟨m2.symm,GI.2 fun hm=>X6 _ m1 (Ei.1 hm)⟩
 ·unfold Jj at hc;rw[bS,bS,decide_eq_true_eq,jO]at hc;obtain⟨⟨c1,c2⟩,c3⟩:=hc;obtain⟨j,q,hj,hq,_⟩:=h.idx (x:=(a':Int)) (by omega);rw[MY h.ok (bU hj) hq]at c1 c3;obtain⟨_,m4,_⟩:=Xo hj
  have hjT:T.getD j false=false:=GI.2 fun ht=>by
   have:tC out.flatten a'=true:=Ei.2 (pL.2 ⟨q,(hO.mem q).2 ⟨j,ht,hj⟩,hq⟩);rw[this]at c2;cases c2
  have:=tI j (zn hj) ((Ta h hr hO hj).2 ⟨hjT,c3⟩);rw[m4,c1]at this;omega
 ·rw[lW hhn.1];exact MY h.ok fN m1
theorem Ik{n:Nat}{l:List bE}{P:List (List Int)}(h:px n l P)(hr:∀e∈l,(0≤e.1∧e.1<(n:Int))∧0≤e.2.1∧e.2.1<(n:Int)):∀k,k≤P.length→OI P k (dL P l (bF n P) k).1 (dL P l (bF n P) k).2∧(k<P.length→∃b:Nat,fI P l (bF n P) (dL P l (bF n P) k).1 P.length=b∧b<P.length)∧∀f,E9 n l (k+f) ([],[])=E9 n l f ((dL P l (bF n P) k).2,(dL P l (bF n P) k).2.flatten):=by
 intro k
 induction k with
 |zero=>
  intro _
  have kJ:∀i,¬((List.replicate P.length false).getD i false=true):=fun i h1=>by
   rw[aZ,vK]at h1;split at h1 <;> cases h1
  have h0:OI P 0 (List.replicate P.length false) []:=⟨List.length_replicate,rfl,(by rw[List.countP_eq_zero];intro x hx;rw[List.eq_of_mem_replicate hx];simp),fun q=>⟨fun h=>absurd h (by simp),fun ⟨i,h1,_⟩=>absurd h1 (kJ i)⟩,List.nodup_nil⟩
  refine⟨h0,fun hk=>?_,fun f=>by rw[dI];rfl⟩;obtain⟨b,p,hb,hp,_⟩:=Mr h hr hk h0;exact⟨b,hb,zn hp⟩
 |succ k ih=>
  intro hk;obtain⟨hO,_,hf⟩:=ih (by omega);obtain⟨b,p,hb,hp,yX,ab,a,ha,xn⟩:=Mr h hr (by omega) hO
  have e1:(dL P l (bF n P) (k+1)).1=(dL P l (bF n P) k).1.set b true:=by
   show (dL P l (bF n P) k).1.set (fI P l (bF n P) (dL P l (bF n P) k).1 P.length).toNat true=_;rw[hb,bG]
  have e2:(dL P l (bF n P) (k+1)).2=(dL P l (bF n P) k).2++[p]:=by
   show (dL P l (bF n P) k).2++[P.getD (fI P l (bF n P) (dL P l (bF n P) k).1 P.length).toNat []]=_;rw[hb,bG,wh hp]
  rw[e1,e2];refine⟨yX,fun eD=>?_,fun f=>?_⟩
  ·obtain⟨b2,p2,sF,dH,_⟩:=Mr h hr eD yX;exact⟨b2,sF,zn dH⟩
  ·rw[show k+1+f=k+(f+1) by omega,hf];show (if _ then _ else _)=_;rw[af ab,ha];show E9 n l f (_++[sb n l a],_++sb n l a)=_;rw[xn,List.flatten_append];simp
theorem Nt{n:Nat}{l:List bE}{P:List (List Int)}(h:px n l P)(hr:∀e∈l,(0≤e.1∧e.1<(n:Int))∧0≤e.2.1∧e.2.1<(n:Int)):(dL P l (bF n P) P.length).2=kG n l:=by
 obtain⟨hO,_,hf⟩:=Ik h hr P.length (aQ _);have hl:=(DA h.ok).1;have hf:=hf (n+1-P.length);rw[show P.length+(n+1-P.length)=n+1 by omega]at hf;unfold kG;rw[hf];obtain⟨f,hfe⟩:∃f,n+1-P.length=f+1:=⟨n-P.length,by omega⟩
 rw[hfe];show _=(if _ then _ else _:List (List Int)×List Int).1
 have cx:∀i,i<P.length→(dL P l (bF n P) P.length).1.getD i false=true:=fun i hi=>by
  have hc:(dL P l (bF n P) P.length).1.countP id=(dL P l (bF n P) P.length).1.length:=by rw[hO.aH,hO.tl]
  have:=List.countP_eq_length.1 hc _ (cq (n:=i) (by rw[hO.tl];exact hi));rw[aZ,bB (by rw[hO.tl];exact hi)];exact this
 have mL:∀x∈(List.range n).map (fun i:Nat=>(i:Int)),x∈(dL P l (bF n P) P.length).2.flatten:=fun x hx=>by
  obtain⟨i,hi,rfl⟩:=cX.1 hx;have hi:=fF.1 hi;obtain⟨j,p,hj,hp,_⟩:=h.idx (x:=(i:Int)) (by omega);exact pL.2 ⟨p,(hO.mem p).2 ⟨j,cx j (zn hj),hj⟩,hp⟩
 have au:=Mi (l:=(List.range n).map (fun i:Nat=>(i:Int))) (by rw[List.nodup_iff_pairwise_ne,vF];exact List.pairwise_lt_range.imp fun h=>by omega) mL;rw[bX,oL]at au;rw[ag (by show ¬((dL P l (bF n P) P.length).2.flatten.length<n);omega)]
end Go.Proofs.YtnikdflhefijbaaGreat
