import Derived.Test.YtnikdflhefijbaaGreatBr14
import Derived.Test.YtnikdflhefijbaaGreatBr15
import Derived.Test.YtnikdflhefijbaaGreatBr5
import Derived.Test.YtnikdflhefijbaaGreatBr8
import Derived.Test.YtnikdflhefijbaaGreatBr9
import Derived.Test.YtnikdflhefijbaaGreatBr10
namespace Go.Proofs.YtnikdflhefijbaaGreat
open Go.RowKit
set_option maxRecDepth 100000
def lY(nx:Int→List Int)(seen:List Int):Nat→Nat
 | 0=>0
 |n+1=>lY nx seen n+if (n:Int)∈seen then 0 else (nx n).length+2
theorem DY{nx:Int→List Int}{seen:List Int}{b:Nat}(hb:(b:Int) ∉ seen):∀n,lY nx (seen++[(b:Int)]) n+(if b<n then (nx b).length+2 else 0)=lY nx seen n
 | 0=>rfl
 |n+1=>by
  have ih:=DY (nx:=nx) hb n
  unfold lY
  by_cases h:b=n
  ·subst h
   rw[aA (GF _)]at ih
   rw[if_pos (by simp),if_neg hb,if_pos (Nat.lt_succ_self _)]
   omega
  ·have h1:((n:Int)∈seen++[(b:Int)])↔(n:Int)∈seen:=by
    rw[bU,bE]
    exact⟨fun h'=>h'.elim id fun e=>absurd (Int.ofNat.inj e).symm h,.inl⟩
   by_cases h2:(n:Int)∈seen
   ·rw[az (h1.2 h2),az h2]
    by_cases h3:b<n
    ·rw[az h3]at ih;rw[az (by omega)];omega
    ·rw[aA h3]at ih;rw[aA (by omega)];omega
   ·rw[aA (fun h'=>h2 (h1.1 h')),aA h2]
    by_cases h3:b<n
    ·rw[az h3]at ih;rw[az (by omega)];omega
    ·rw[aA h3]at ih;rw[aA (by omega)];omega
def eb(nx:Int→List Int):List (Int×Nat)→Nat
 | []=>0
 |t::w=>eb nx w+((nx t.1).length-t.2)+1
def rJ(n:Nat)(met:List Bool)(seen:List Int):Prop:=met.length=n∧∀u:Nat,u<n→met.getD u false=decide ((u:Int)∈seen)
theorem rJ.at_{n:Nat}{met:List Bool}{seen:List Int}(h:rJ n met seen){a:Int}(ha:0≤a∧a<n):met.getD a.toNat false=decide (a∈seen):=by
 have:=h.2 a.toNat (by omega)
 rw[mL ha.1]at this
 exact this
theorem rJ.set{n:Nat}{met:List Bool}{seen:List Int}(h:rJ n met seen){a:Int}(ha:0≤a∧a<n):rJ n (met.set a.toNat true) (seen++[a]):=by
 refine⟨by rw[dV];exact h.1,fun u hu=>?_⟩
 rw[bO,gX]
 by_cases e:a.toNat=u
 ·subst e
  rw[az rfl,az (by rw[h.1];omega),mL ha.1]
  simp
 ·rw[aA e,← bO,h.2 u hu]
  have e2:¬(u:Int)=a:=fun e'=>e (by omega)
  simp[e2]
structure jY(n:Nat)(nx:Int→List Int)(F:List Int)(met:List Bool)(seen out:List Int)(gR:List (Int×Nat)):Prop where
 nj:rJ n met seen
 nd:seen.Nodup
 rg:∀x∈seen,0≤x∧x<(n:Int)
 len:out.length+gR.length=seen.length
 wy:∀t∈gR,(0≤t.1∧t.1<(n:Int))∧t.2≤(nx t.1).length
 tell:F=out++lr n nx gR seen
 mem:∀x,x∈seen↔x∈out++gR.map Prod.fst
 od:(out++gR.map Prod.fst).Nodup
theorem D7:∀(n:Nat) (l:List Int),l.Nodup→(∀z∈l,0≤z∧z<(n:Int))→l.length≤n
 | 0,l,_,h=>by
  cases l with
  |nil=>exact bJ _
  |cons z l=>have:=h z (cF ..);omega
 |n+1,l,hn,h=>by
  have h1:=D7 n (l.erase (n:Int)) (hn.erase _) (fun z hz=>by
   rw[hn.mem_erase_iff]at hz
   have:=h z hz.2
   have:=hz.1
   omega)
  have h2:=List.length_erase (a:=(n:Int)) (l:=l)
  split at h2 <;> omega
theorem jY.small{n:Nat}{nx:Int→List Int}{F:List Int}{met:List Bool}{seen out:List Int}{gR:List (Int×Nat)}(h:jY n nx F met seen out gR):out.length+gR.length≤n:=by
 rw[h.len];exact D7 n seen h.nd h.rg
theorem jY.skip{n:Nat}{nx:Int→List Int}{F:List Int}{met:List Bool}{seen out:List Int}{v:Int}{k:Nat}{w:List (Int×Nat)}(h:jY n nx F met seen out ((v,k)::w))(hk:k<(nx v).length)(hb:(nx v)[k]∈seen):jY n nx F met seen out ((v,k+1)::w):=
 ⟨h.nj,h.nd,h.rg,h.len,fun t ht=>by
  rcases ei.1 ht with rfl | ht
  ·exact⟨(h.wy (v,k) (cF ..)).1,hk⟩
  ·exact h.wy t (dy _ ht),by rw[h.tell,XJ hk hb],h.mem,h.od⟩
theorem jY.push{n:Nat}{nx:Int→List Int}(cz:∀x,∀y∈nx x,0≤y∧y<(n:Int)){F:List Int}{met:List Bool}{seen out:List Int}{v:Int}{k:Nat}{w:List (Int×Nat)}(h:jY n nx F met seen out ((v,k)::w))(hk:k<(nx v).length)(hb:(nx v)[k] ∉ seen):jY n nx F (met.set (nx v)[k].toNat true) (seen++[(nx v)[k]]) out (((nx v)[k],0)::(v,k+1)::w):=by
 have hr:=cz v _ (cq hk)
 refine⟨h.nj.set hr,List.nodup_append.2 ⟨h.nd,by simp,fun a ha b nq e=>?_⟩,fun x hx=>?_,?_,fun t ht=>?_,by rw[h.tell,XK cz hk hb],fun x=>?_,?_⟩
 ·rw[bE.1 nq]at e
  exact hb (e▸ha)
 ·rcases bU.1 hx with hx | hx
  ·exact h.rg x hx
  ·rw[bE.1 hx];exact hr
 ·have:=h.len
  rw[bG]
  show out.length+(w.length+1+1)=seen.length+1
  have this:out.length+(w.length+1)=seen.length:=this
  omega
 ·rcases ei.1 ht with rfl | ht
  ·exact⟨hr,aY _⟩
  ·rcases ei.1 ht with rfl | ht
   ·exact⟨(h.wy (v,k) (cF ..)).1,hk⟩
   ·exact h.wy t (dy _ ht)
 ·rw[bU,h.mem,bU,bU,bE]
  show _↔_∨x∈(nx v)[k]::v::w.map Prod.fst
  rw[ei (a:=x)]
  exact⟨fun h'=>h'.elim (fun h'=>h'.elim .inl fun h'=>.inr (.inr h')) fun h'=>.inr (.inl h'),fun h'=>h'.elim (fun h'=>.inl (.inl h')) fun h'=>h'.elim .inr fun h'=>.inl (.inr h')⟩
 ·have hp:(out++(nx v)[k]::v::w.map Prod.fst).Perm ((nx v)[k]::(out++v::w.map Prod.fst)):=nw
  exact hp.nodup_iff.2 (mJ.2 ⟨fun hm=>hb ((h.mem _).2 hm),h.od⟩)
theorem jY.pop{n:Nat}{nx:Int→List Int}{F:List Int}{met:List Bool}{seen out:List Int}{v:Int}{k:Nat}{w:List (Int×Nat)}(h:jY n nx F met seen out ((v,k)::w))(hk:(nx v).length≤k):jY n nx F met seen (out++[v]) w:=by
 refine⟨h.nj,h.nd,h.rg,?_,fun t ht=>h.wy t (dy _ ht),by rw[h.tell,ZC hk,dh];rfl,fun x=>by rw[h.mem,dh];rfl,by rw[dh];exact h.od⟩
 have:=h.len
 rw[bG]
 have this:out.length+(w.length+1)=seen.length:=this
 show out.length+1+w.length=_
 omega
theorem jY.top{n:Nat}{nx:Int→List Int}{met:List Bool}{out:List Int}(hm:rJ n met out)(hn:out.Nodup)(hr:∀x∈out,0≤x∧x<(n:Int)){a:Int}(ha:0≤a∧a<(n:Int))(h:a ∉ out):jY n nx (out++e9 nx (n+1) a out) (met.set a.toNat true) (out++[a]) out [(a,0)]:=by
 refine⟨hm.set ha,List.nodup_append.2 ⟨hn,by simp,fun x hx b nq e=>?_⟩,fun x hx=>?_,by rw[List.length_append];rfl,fun t ht=>by rw[List.mem_singleton.1 ht];exact⟨ha,Nat.zero_le _⟩,by rw[ZB h],fun _=>Iff.rfl,?_⟩
 ·rw[bE.1 nq]at e
  exact h (e▸hx)
 ·rcases bU.1 hx with hx | hx
  ·exact hr x hx
  ·rw[bE.1 hx];exact ha
 ·refine List.nodup_append.2 ⟨hn,by simp,fun x hx b nq e=>?_⟩
  rw[bE.1 (show b∈[a] from nq)]at e
  exact h (e▸hx)
theorem jY.done{n:Nat}{nx:Int→List Int}{F:List Int}{met:List Bool}{seen out:List Int}(h:jY n nx F met seen out []):F=out∧rJ n met F∧F.Nodup∧∀x∈F,0≤x∧x<(n:Int):=by
 have e:F=out:=by rw[h.tell];unfold lr;exact gg _
 have hm:∀x,x∈seen↔x∈out:=fun x=>by have:=h.mem x;rwa [show out++List.map Prod.fst []=out from gg _]at this
 have ho:=h.od
 rw[show out++List.map Prod.fst []=out from gg _]at ho
 subst e
 exact⟨rfl,⟨h.nj.1,fun u hu=>(h.nj.2 u hu).trans (by rw[decide_eq_decide];exact hm _)⟩,ho,fun x hx=>h.rg x ((hm x).2 hx)⟩
set_option maxHeartbeats 8000000
theorem T0{P:Program}{TT:TypeId→Option TI}{fn:Go.Func}{a c:Go.Code}{xs:List AV}{σ:Hp}{R:AV→Hp→Prop}{S:Type}(hb:fn.body=some (.seq a (.scope c)))(ga:S→Nat)(L:S→List (Nat×AV))(H:S→Hp)(p:S→Prop)(μ:S→Nat)
  (hr:BE (mw P TT 998) c ga L H p μ (tQ TT fn.results.toList R))
  (h:BE (mw P TT 998) c ga L H p μ (tQ TT fn.results.toList R)→codeF P TT (mw P TT 999) (.seq a (.scope c)) (t0 xs) σ (tQ TT fn.results.toList R)):sB P TT fn xs σ R:=by
 have h1:mw P TT 1000 (.seq a (.scope c)) (t0 xs) σ (tQ TT fn.results.toList R):=h hr
 unfold sB
 rw[hb]
 exact h1
abbrev Mt:=(Bool×Int×List Bool×List Int)×(List (Int×Nat)×Int×Nat)×(Nat×List AV)×(AV×Hp×List Int)
def VsP(n:Nat)(nx:Int→List Int)(F:List Int)(x:Mt):Prop:=match x.1.1 with
 |true=>jY n nx F (x.1.2.2.1.set x.1.2.1.toNat true) (x.1.2.2.2++[x.1.2.1]) x.2.2.2.2.2 ((x.1.2.1,0)::(x.2.1.2.1,x.2.1.2.2)::x.2.1.1.reverse)∧x.1.2.2.1.length=n∧0≤x.1.2.1∧x.1.2.1<n
 |false=>jY n nx F x.1.2.2.1 x.1.2.2.2 x.2.2.2.2.2 ((x.2.1.2.1,x.2.1.2.2)::x.2.1.1.reverse)
def VsM(n:Nat)(nx:Int→List Int)(x:Mt):Nat:=match x.1.1 with
 |true=>eb nx ((x.1.2.1,0)::(x.2.1.2.1,x.2.1.2.2)::x.2.1.1.reverse)+lY nx (x.1.2.2.2++[x.1.2.1]) n+1
 |false=>eb nx ((x.2.1.2.1,x.2.1.2.2)::x.2.1.1.reverse)+lY nx x.1.2.2.2 n
theorem aai(n:Nat)(l:List aT)(a:Int)(met:List Bool)(out:List Int)(bm:Nat)(vo:AV)(ug σ:Hp)(_hl:l.length≤100000)(hn:n≤1000)(ha:0≤a∧a<n)(hm:rJ n met out)(ck:out.Nodup)(K7:∀x∈out,0≤x∧x<(n:Int))(hO:Acc 1 out.length vo ug (an out)):
  ACalls Tryz.prog 311 [.af (.slice (.int .i64)) (cj n l),.ah bm 0 n 1,.int .i64 a,.via vo] ((bm,bK met)::(ug++σ))
   (fun r σ'=>∃qF kL qJ qA,kL=out++e9 (ax n l) (n+1) a out∧rJ n qF kL∧kL.Nodup∧(∀x∈kL,0≤x∧x<(n:Int))∧Acc 1 kL.length qJ qA (an kL)∧r=qJ∧σ'=(bm,bK qF)::(qA++σ)):=by
 have cz:∀x,∀y∈ax n l x,0≤y∧y<(n:Int):=fun x y hy=>(kD.1 hy).1
 obtain⟨F,hF⟩:∃F,out++e9 (ax n l) (n+1) a out=F:=⟨_,rfl⟩
 refine au Tryz.func311 ?_
 refine T0 (S:=Mt) rfl (fun x=>match x.1.1 with | true=>0 | false=>1)
  (fun x=>[(0,.af (.slice (.int .i64)) (cj n l)),(1,.ah bm 0 n 1),(2,.int .i64 x.1.2.1),(3,.via x.2.2.2.1),(9,.ah x.2.2.1.1 0 (x.2.1.1.length+1) 2)])
  (fun x=>(bm,bK x.1.2.2.1)::(x.2.2.1.1,bM (x.2.1.1++[(x.2.1.2.1,x.2.1.2.2)])++x.2.2.1.2)::(x.2.2.2.2.1++σ))
  (fun x=>VsP n (ax n l) F x∧Acc 1 x.2.2.2.2.2.length x.2.2.2.1 x.2.2.2.2.1 (an x.2.2.2.2.2))
  (fun x=>VsM n (ax n l) x) ?_ ?_
 ·rintro⟨⟨f,b,mZ,iH⟩,⟨wy,v,k⟩,⟨bw,J⟩,⟨Cy,DF,kK⟩⟩ g ⟨hP,wH⟩
  have wH:Acc 1 kK.length Cy DF (an kK):=wH
  cases f with
  |true=>
   obtain⟨hV,Kc,mh,wC⟩:=hP
   have hV:jY n (ax n l) F (mZ.set b.toNat true) (iH++[b]) kK ((b,0)::(v,k)::wy.reverse):=hV
   have Kc:mZ.length=n:=Kc
   have mh:0≤b:=mh
   have wC:b<n:=wC
   have qL:(bM (wy++[(v,k)])).length=(wy.length+1)*2:=by rw[mm,bG];rfl
   have adO:=hV.small
   rw[iE,iE,qd]at adO
   refine aQ ?_
   refine cu 0 rfl (ti rfl true mh (by omega)) ?_
   intro aB
   refine xa (k:=wy.length+1) (n:=1) [_,_] (.ah bw (wy.length+1) (bM (wy++[(v,k)])) J qL) (.ah 0 aB 0 1 _ rfl (cp rfl)) rfl (by omega) (by decide) (by decide) (fun v' aU h'=>?_)
   obtain⟨om,J2,rfl,rfl,_⟩:=h'.pos (by omega)
   have Fm:(wy++[(v,k)]).reverse=(v,k)::wy.reverse:=by rw[List.reverse_append];rfl
   have pU:bM (wy++[(v,k)])++[AV.int .i64 b,.int .i64 ((0:Nat):Int)]++J2=bM ((wy++[(v,k)])++[(b,0)])++J2:=by rw[ou (wy++[(v,k)]) [(b,0)]];rfl
   have sA:(wy++[(v,k)]).length=wy.length+1:=by rw[bG];rfl
   rw[← Fm]at hV
   have vT:=hV.wy (b,0) (cF ..)
   have er:0≤b∧b<(n:Int):=vT.1
   have zV:0≤(ax n l b).length:=vT.2
   have kT:=vb n l b
   have oc:=hV.small
   rw[iE,qd,sA]at oc
   have sT:((mZ.set b.toNat true)).length=n:=hV.nj.1
   have l5:IntKind.i64.wrap ((((wy.length+1)+1:Nat):Int)-1)=(((wy.length+1):Nat):Int):=by rw[fP (by omega)];omega
   have hX:0+(IntKind.i64.wrap ((((wy.length+1)+1:Nat):Int)-1)).toNat*2=((wy++[(v,k)])).length*2:=by rw[l5,sA];omega
   have mF:eF ⟨.int .i64,1,8,[.int .i64 0]⟩ (bM (wy++[(v,k)])++[AV.int .i64 b,.int .i64 ((0:Nat):Int)]++J2) (0+(IntKind.i64.wrap ((((wy.length+1)+1:Nat):Int)-1)).toNat*2+0)=some (.int .i64 b):=by rw[pU];exact gy rfl (by rw[hX];exact qY rfl)
   have lF:eF ⟨.int .i64,1,8,[.int .i64 0]⟩ (bM (wy++[(v,k)])++[AV.int .i64 b,.int .i64 ((0:Nat):Int)]++J2) (0+(IntKind.i64.wrap ((((wy.length+1)+1:Nat):Int)-1)).toNat*2+1)=some (.int .i64 ((0:Nat):Int)):=by rw[pU];exact gy rfl (by rw[hX];exact AT rfl)
   have fh:(bM ((wy++[(v,k)])++[(b,0)])++J2).length=((wy++[(v,k)])).length*2+2+(J2:List AV).length:=by rw[bG,mm,bG];show (_+1)*2+_=_;omega
   have jE:IntKind.i64.wrap (((0:Nat):Int)+1)=((0+1:Nat):Int):=by rw[fP (by omega)];omega
   have uz:kC ⟨.int .i64,1,8,[.int .i64 0]⟩ (bM (wy++[(v,k)])++[AV.int .i64 b,.int .i64 ((0:Nat):Int)]++J2) (0+(IntKind.i64.wrap ((((wy.length+1)+1:Nat):Int)-1)).toNat*2+1) (.int .i64 (IntKind.i64.wrap (((0:Nat):Int)+1)))=some (bM ((wy++[(v,k)])++[(b,0+1)])++J2):=by
    rw[pU,pz rfl rfl (by rw[hX,fh];omega),hX,jE,A6 rfl]
   have tN:2=2∧0≤IntKind.i64.wrap ((((wy.length+1)+1:Nat):Int)-1)∧IntKind.i64.wrap ((((wy.length+1)+1:Nat):Int)-1)<(((wy.length+1)+1:Nat):Int):=⟨rfl,by omega,by omega⟩
   refine aw.mk tN ?_
   refine .quiet (by kernel_rfl) ?_
   refine aW 2 rfl lF ?_
   refine aW 2 rfl mF ?_
   refine aw.mk rfl ?_
   refine aX.mk (ax n l b) (by omega) (oF er) ?_
   refine aj (p:=((0:Nat):Int)<(ax n l b).length) (fun ab=>?_) (fun aq=>?_)
   ·have ab:0<(ax n l b).length:=by omega
    obtain⟨z,hz⟩:∃z,(ax n l b)[0]=z:=⟨_,rfl⟩
    have CI:z∈ax n l b:=hz▸cq ab
    have fg:=(kD.1 CI).1
    refine .quiet (by kernel_rfl) ?_
    refine aW 2 rfl mF ?_
    refine aw.mk rfl ?_
    refine aX.mk (ax n l b) (by omega) (oF er) ?_
    refine aW 2 rfl lF ?_
    refine aw.mk rfl ?_
    refine aX.mk z (by omega) ((get_some ab).trans (congrArg some hz)) ?_
    refine aW 2 rfl lF ?_
    refine cu 2 rfl uz ?_
    refine aQ ?_
    refine eH.ij 1 _ _ rfl (qo rfl fg.1 (by rw[sT];omega)) (fun c2=>?_) (fun c2=>?_)
    ·have jB:z∈(iH++[b]):=by rw[hV.nj.at_ fg]at c2;exact fk c2
     have hS:=hV.skip ab (by rw[hz];exact jB)
     have fw:eb (ax n l) ((b,0+1)::((wy++[(v,k)])).reverse)+1=eb (ax n l) ((b,0)::((wy++[(v,k)])).reverse):=by show eb (ax n l) ((wy++[(v,k)])).reverse+((ax n l b).length-(0+1))+1+1=eb (ax n l) ((wy++[(v,k)])).reverse+((ax n l b).length-0)+1;omega
     exact .mk ((false,z,(mZ.set b.toNat true),(iH++[b])),((wy++[(v,k)]),b,0+1),(om,J2),(Cy,DF,kK)) rfl (by show eb (ax n l) ((b,0+1)::((wy++[(v,k)])).reverse)+lY (ax n l) ((iH++[b])) n<_;(show _<eb (ax n l) ((b,0)::(v,k)::wy.reverse)+lY (ax n l) (iH++[b]) n+1);rw[← Fm];omega) ⟨hS,wH⟩ ⟨rfl,rfl,rfl,rfl,by rw[sA];rfl,trivial⟩ (.drop 0 1 (.refl _))
    ·have jB:z ∉ (iH++[b]):=by rw[hV.nj.at_ fg]at c2;exact pc c2
     have hS:=hV.push cz ab (by rw[hz];exact jB)
     rw[hz]at hS
     have fw:eb (ax n l) ((z,0)::(b,0+1)::((wy++[(v,k)])).reverse)=eb (ax n l) ((b,0)::((wy++[(v,k)])).reverse)+(ax n l z).length:=by show eb (ax n l) ((wy++[(v,k)])).reverse+((ax n l b).length-(0+1))+1+((ax n l z).length-0)+1=eb (ax n l) ((wy++[(v,k)])).reverse+((ax n l b).length-0)+1+(ax n l z).length;omega
     have C2:=DY (nx:=ax n l) (seen:=(iH++[b])) (b:=z.toNat) (by rw[mL fg.1];exact jB) n
     rw[az (by omega),mL fg.1]at C2
     exact .mk ((true,z,(mZ.set b.toNat true),(iH++[b])),((wy++[(v,k)]),b,0+1),(om,J2),(Cy,DF,kK)) rfl (by show eb (ax n l) ((z,0)::(b,0+1)::((wy++[(v,k)])).reverse)+lY (ax n l) (((iH++[b]))++[z]) n+1<_;(show _<eb (ax n l) ((b,0)::(v,k)::wy.reverse)+lY (ax n l) (iH++[b]) n+1);rw[← Fm];omega) ⟨⟨hS,sT,fg.1,fg.2⟩,wH⟩ ⟨rfl,rfl,rfl,rfl,by rw[sA];rfl,trivial⟩ (.drop 0 1 (.refl _))
   ·have aq:(ax n l b).length≤0:=by omega
    have hS:=hV.pop aq
    refine aW 2 rfl mF ?_
    intro bs
    refine eU (k:=(kK).length) (n:=1) [_,_,_,_] wH (.ah 0 bs 0 1 _ rfl (cp rfl)) rfl (by omega) (by decide) (by decide) (fun pM mN wG=>?_)
    have wF:Acc 1 ((kK)++[b]).length pM mN (an ((kK)++[b])):=by
     rw[List.length_append,show an ((kK)++[b])=an (kK)++[.int .i64 b] by simp[an]];exact wG
    have pE:(IntKind.i64.wrap ((((wy.length+1)+1:Nat):Int)-1)).toNat-Int.toNat 0=(wy.length+1):=by rw[l5];omega
    have dx:0≤(0:Int)∧(0:Int)≤IntKind.i64.wrap ((((wy.length+1)+1:Nat):Int)-1)∧IntKind.i64.wrap ((((wy.length+1)+1:Nat):Int)-1)≤(((wy.length+1)+1:Nat):Int)∧2=2:=⟨by omega,by omega,by omega,rfl⟩
    refine aw.mk dx ?_
    have jf:(IntKind.i64.wrap ((((wy.length+1)+1:Nat):Int)-1)).toNat-Int.toNat 0=(wy).length+1:=pE.trans (rfl)
    have iK:AV.ah om (0+Int.toNat 0*2) ((IntKind.i64.wrap ((((wy.length+1)+1:Nat):Int)-1)).toNat-Int.toNat 0) 2=.ah om 0 ((wy).length+1) 2:=by rw[jf];rfl
    have nU:bM (wy++[(v,k)])++[AV.int .i64 b,.int .i64 ((0:Nat):Int)]++J2=bM (wy++[(v,k)])++([.int .i64 b,.int .i64 ((0:Nat):Int)]++J2):=by rw[pU,ou,dh];rfl
    rw[Fm]at hS
    refine aj (p:=(0:Int)<(((IntKind.i64.wrap ((((wy.length+1)+1:Nat):Int)-1)).toNat-Int.toNat 0:Nat):Int)) (fun c3=>?_) (fun c3=>?_)
    rotate_left
    ·rw[jf]at c3;omega
    have fw:eb (ax n l) ((v,k)::(wy).reverse)+1≤eb (ax n l) ((b,0)::(v,k)::(wy).reverse):=by show _≤eb (ax n l) ((v,k)::(wy).reverse)+((ax n l b).length-0)+1;omega
    have hE:(bm,bK (mZ.set b.toNat true))::(om,bM (wy++[(v,k)])++[AV.int .i64 b,.int .i64 ((0:Nat):Int)]++J2)::(mN++σ)=(bm,bK (mZ.set b.toNat true))::(om,bM (wy++[(v,k)])++([.int .i64 b,.int .i64 ((0:Nat):Int)]++J2))::(mN++σ):=by rw[nU]
    exact .mk ((false,b,(mZ.set b.toNat true),(iH++[b])),(wy,v,k),(om,[AV.int .i64 b,.int .i64 ((0:Nat):Int)]++J2),(pM,mN,(kK)++[b])) rfl (by show eb (ax n l) ((v,k)::(wy).reverse)+lY (ax n l) ((iH++[b])) n<_;(show _<eb (ax n l) ((b,0)::(v,k)::wy.reverse)+lY (ax n l) (iH++[b]) n+1);omega) ⟨hS,wF⟩ ⟨rfl,rfl,rfl,rfl,iK,trivial⟩ (.drop 0 2 (aN hE))
  |false=>
   have hV:jY n (ax n l) F mZ iH kK ((v,k)::wy.reverse):=hP
   have sA:wy.length=wy.length:=rfl
   have pU:bM (wy++[(v,k)])++J=bM (wy++[(v,k)])++J:=rfl
   have vT:=hV.wy (v,k) (cF ..)
   have er:0≤v∧v<(n:Int):=vT.1
   have zV:k≤(ax n l v).length:=vT.2
   have kT:=vb n l v
   have oc:=hV.small
   rw[iE,qd,sA]at oc
   have sT:(mZ).length=n:=hV.nj.1
   have l5:IntKind.i64.wrap (((wy.length+1:Nat):Int)-1)=((wy.length:Nat):Int):=by rw[fP (by omega)];omega
   have hX:0+(IntKind.i64.wrap (((wy.length+1:Nat):Int)-1)).toNat*2=(wy).length*2:=by rw[l5,sA];omega
   have mF:eF ⟨.int .i64,1,8,[.int .i64 0]⟩ (bM (wy++[(v,k)])++J) (0+(IntKind.i64.wrap (((wy.length+1:Nat):Int)-1)).toNat*2+0)=some (.int .i64 v):=by rw[pU];exact gy rfl (by rw[hX];exact qY rfl)
   have lF:eF ⟨.int .i64,1,8,[.int .i64 0]⟩ (bM (wy++[(v,k)])++J) (0+(IntKind.i64.wrap (((wy.length+1:Nat):Int)-1)).toNat*2+1)=some (.int .i64 ((k:Nat):Int)):=by rw[pU];exact gy rfl (by rw[hX];exact AT rfl)
   have fh:(bM (wy++[(v,k)])++J).length=(wy).length*2+2+(J:List AV).length:=by rw[bG,mm,bG];show (_+1)*2+_=_;omega
   have jE:IntKind.i64.wrap (((k:Nat):Int)+1)=((k+1:Nat):Int):=by rw[fP (by omega)];omega
   have uz:kC ⟨.int .i64,1,8,[.int .i64 0]⟩ (bM (wy++[(v,k)])++J) (0+(IntKind.i64.wrap (((wy.length+1:Nat):Int)-1)).toNat*2+1) (.int .i64 (IntKind.i64.wrap (((k:Nat):Int)+1)))=some (bM (wy++[(v,k+1)])++J):=by
    rw[pU,pz rfl rfl (by rw[hX,fh];omega),hX,jE,A6 rfl]
   have tN:2=2∧0≤IntKind.i64.wrap (((wy.length+1:Nat):Int)-1)∧IntKind.i64.wrap (((wy.length+1:Nat):Int)-1)<((wy.length+1:Nat):Int):=⟨rfl,by omega,by omega⟩
   refine aw.mk tN ?_
   refine .quiet (by kernel_rfl) ?_
   refine aW 1 rfl lF ?_
   refine aW 1 rfl mF ?_
   refine aw.mk rfl ?_
   refine aX.mk (ax n l v) (by omega) (oF er) ?_
   refine aj (p:=((k:Nat):Int)<(ax n l v).length) (fun ab=>?_) (fun aq=>?_)
   ·have ab:k<(ax n l v).length:=by omega
    obtain⟨z,hz⟩:∃z,(ax n l v)[k]=z:=⟨_,rfl⟩
    have CI:z∈ax n l v:=hz▸cq ab
    have fg:=(kD.1 CI).1
    refine .quiet (by kernel_rfl) ?_
    refine aW 1 rfl mF ?_
    refine aw.mk rfl ?_
    refine aX.mk (ax n l v) (by omega) (oF er) ?_
    refine aW 1 rfl lF ?_
    refine aw.mk rfl ?_
    refine aX.mk z (by omega) ((get_some ab).trans (congrArg some hz)) ?_
    refine aW 1 rfl lF ?_
    refine cu 1 rfl uz ?_
    refine aQ ?_
    refine eH.ij 0 _ _ rfl (qo rfl fg.1 (by rw[sT];omega)) (fun c2=>?_) (fun c2=>?_)
    ·have jB:z∈iH:=by rw[hV.nj.at_ fg]at c2;exact fk c2
     have hS:=hV.skip ab (by rw[hz];exact jB)
     have fw:eb (ax n l) ((v,k+1)::(wy).reverse)+1=eb (ax n l) ((v,k)::(wy).reverse):=by show eb (ax n l) (wy).reverse+((ax n l v).length-(k+1))+1+1=eb (ax n l) (wy).reverse+((ax n l v).length-k)+1;omega
     exact .mk ((false,z,mZ,iH),(wy,v,k+1),(bw,J),(Cy,DF,kK)) rfl (by show eb (ax n l) ((v,k+1)::(wy).reverse)+lY (ax n l) (iH) n<_;(show _<eb (ax n l) ((v,k)::wy.reverse)+lY (ax n l) iH n);omega) ⟨hS,wH⟩ ⟨rfl,rfl,rfl,rfl,rfl,trivial⟩ (.refl _)
    ·have jB:z ∉ iH:=by rw[hV.nj.at_ fg]at c2;exact pc c2
     have hS:=hV.push cz ab (by rw[hz];exact jB)
     rw[hz]at hS
     have fw:eb (ax n l) ((z,0)::(v,k+1)::(wy).reverse)=eb (ax n l) ((v,k)::(wy).reverse)+(ax n l z).length:=by show eb (ax n l) (wy).reverse+((ax n l v).length-(k+1))+1+((ax n l z).length-0)+1=eb (ax n l) (wy).reverse+((ax n l v).length-k)+1+(ax n l z).length;omega
     have C2:=DY (nx:=ax n l) (seen:=iH) (b:=z.toNat) (by rw[mL fg.1];exact jB) n
     rw[az (by omega),mL fg.1]at C2
     exact .mk ((true,z,mZ,iH),(wy,v,k+1),(bw,J),(Cy,DF,kK)) rfl (by show eb (ax n l) ((z,0)::(v,k+1)::(wy).reverse)+lY (ax n l) ((iH)++[z]) n+1<_;(show _<eb (ax n l) ((v,k)::wy.reverse)+lY (ax n l) iH n);omega) ⟨⟨hS,sT,fg.1,fg.2⟩,wH⟩ ⟨rfl,rfl,rfl,rfl,rfl,trivial⟩ (.refl _)
   ·have aq:(ax n l v).length≤k:=by omega
    have hS:=hV.pop aq
    refine aW 1 rfl mF ?_
    intro bs
    refine eU (k:=(kK).length) (n:=1) [_,_,_] wH (.ah 0 bs 0 1 _ rfl (cp rfl)) rfl (by omega) (by decide) (by decide) (fun pM mN wG=>?_)
    have wF:Acc 1 ((kK)++[v]).length pM mN (an ((kK)++[v])):=by
     rw[List.length_append,show an ((kK)++[v])=an (kK)++[.int .i64 v] by simp[an]];exact wG
    have pE:(IntKind.i64.wrap (((wy.length+1:Nat):Int)-1)).toNat-Int.toNat 0=wy.length:=by rw[l5];omega
    have dx:0≤(0:Int)∧(0:Int)≤IntKind.i64.wrap (((wy.length+1:Nat):Int)-1)∧IntKind.i64.wrap (((wy.length+1:Nat):Int)-1)≤((wy.length+1:Nat):Int)∧2=2:=⟨by omega,by omega,by omega,rfl⟩
    refine aw.mk dx ?_
    rcases Aw wy with wm | ⟨w',⟨u,i⟩,wm⟩
    ·rw[show wy.reverse=[] by rw[wm];rfl]at hS
     refine aj (p:=(0:Int)<(((IntKind.i64.wrap (((wy.length+1:Nat):Int)-1)).toNat-Int.toNat 0:Nat):Int)) (fun c3=>?_) (fun c3=>?_)
     ·rw[pE]at c3;exact absurd c3 (by rw[wm];decide)
     ·obtain⟨e1,e2,e3,e4⟩:=jY.done hS
      rw[← e1]at wF
      exact .drop 0 1 (.drop 1 1 (.done ⟨mZ,F,pM,mN,hF.symm,e2,e3,e4,wF,rfl,rfl⟩))
    ·have wm:wy=w'++[(u,i)]:=by simpa using wm
     have SS:(wy).reverse=(u,i)::w'.reverse:=by rw[wm,List.reverse_append];rfl
     have jf:(IntKind.i64.wrap (((wy.length+1:Nat):Int)-1)).toNat-Int.toNat 0=(w').length+1:=pE.trans (by rw[wm,bG];rfl)
     have iK:AV.ah bw (0+Int.toNat 0*2) ((IntKind.i64.wrap (((wy.length+1:Nat):Int)-1)).toNat-Int.toNat 0) 2=.ah bw 0 ((w').length+1) 2:=by rw[jf];rfl
     have nU:bM (wy++[(v,k)])++J=bM (w'++[(u,i)])++([.int .i64 v,.int .i64 ((k:Nat):Int)]++J):=by rw[pU,wm,ou,dh];rfl
     rw[SS]at hS
     refine aj (p:=(0:Int)<(((IntKind.i64.wrap (((wy.length+1:Nat):Int)-1)).toNat-Int.toNat 0:Nat):Int)) (fun c3=>?_) (fun c3=>?_)
     rotate_left
     ·rw[jf]at c3;omega
     have fw:eb (ax n l) ((u,i)::(w').reverse)+1≤eb (ax n l) ((v,k)::(wy).reverse):=by rw[← SS];show _≤eb (ax n l) (wy).reverse+((ax n l v).length-k)+1;omega
     have hE:(bm,bK mZ)::(bw,bM (wy++[(v,k)])++J)::(mN++σ)=(bm,bK mZ)::(bw,bM (w'++[(u,i)])++([.int .i64 v,.int .i64 ((k:Nat):Int)]++J))::(mN++σ):=by rw[nU]
     exact .mk ((false,b,mZ,iH),(w',u,i),(bw,[AV.int .i64 v,.int .i64 ((k:Nat):Int)]++J),(pM,mN,(kK)++[v])) rfl (by show eb (ax n l) ((u,i)::(w').reverse)+lY (ax n l) (iH) n<_;(show _<eb (ax n l) ((v,k)::wy.reverse)+lY (ax n l) iH n);omega) ⟨hS,wF⟩ ⟨rfl,rfl,rfl,rfl,iK,trivial⟩ (.drop 0 1 (aN hE))
 ·intro hr
  have Kc:=hm.1
  refine aQ ?_
  refine eH.ij 0 _ _ rfl (qo rfl ha.1 (by omega)) (fun c1=>?_) (fun c1=>?_)
  ·have ew:a∈out:=by rw[hm.at_ ha]at c1;exact fk c1
   have ma:e9 (ax n l) (n+1) a out=[]:=by unfold e9;rw[az ew]
   rw[ma,gg]at hF
   exact .done ⟨met,out,vo,ug,by rw[ma,gg],hm,ck,K7,hO,rfl,rfl⟩
  ·have ew:a ∉ out:=by rw[hm.at_ ha]at c1;exact pc c1
   have hV:=jY.top (nx:=ax n l) hm ck K7 ha ew
   rw[hF]at hV
   refine aQ ?_
   refine cu 0 rfl (ti rfl true ha.1 (by omega)) ?_
   intro aB
   refine xa (k:=0) (n:=1) [_,_] (acc:=[]) .nil (.ah 0 aB 0 1 _ rfl (cp rfl)) rfl (by omega) (by decide) (by decide) (fun v' aU h'=>?_)
   obtain⟨bw,J,rfl,rfl,_⟩:=h'.pos (by omega)
   have pU:[]++[AV.int .i64 a,.int .i64 ((0:Nat):Int)]++J=bM (([]:List (Int×Nat))++[(a,0)])++J:=rfl
   have sA:([]:List (Int×Nat)).length=0:=rfl
   have hV:jY n (ax n l) F (met.set a.toNat true) (out++[a]) out ((a,0)::([]:List (Int×Nat)).reverse):=hV
   have vT:=hV.wy (a,0) (cF ..)
   have er:0≤a∧a<(n:Int):=vT.1
   have zV:0≤(ax n l a).length:=vT.2
   have kT:=vb n l a
   have oc:=hV.small
   rw[iE,qd,sA]at oc
   have sT:((met.set a.toNat true)).length=n:=hV.nj.1
   have l5:IntKind.i64.wrap (((0+1:Nat):Int)-1)=((0:Nat):Int):=by rw[fP (by omega)];omega
   have hX:0+(IntKind.i64.wrap (((0+1:Nat):Int)-1)).toNat*2=(([]:List (Int×Nat))).length*2:=by rw[l5,sA];omega
   have mF:eF ⟨.int .i64,1,8,[.int .i64 0]⟩ ([]++[AV.int .i64 a,.int .i64 ((0:Nat):Int)]++J) (0+(IntKind.i64.wrap (((0+1:Nat):Int)-1)).toNat*2+0)=some (.int .i64 a):=by rw[pU];exact gy rfl (by rw[hX];exact qY rfl)
   have lF:eF ⟨.int .i64,1,8,[.int .i64 0]⟩ ([]++[AV.int .i64 a,.int .i64 ((0:Nat):Int)]++J) (0+(IntKind.i64.wrap (((0+1:Nat):Int)-1)).toNat*2+1)=some (.int .i64 ((0:Nat):Int)):=by rw[pU];exact gy rfl (by rw[hX];exact AT rfl)
   have fh:(bM (([]:List (Int×Nat))++[(a,0)])++J).length=(([]:List (Int×Nat))).length*2+2+(J:List AV).length:=by rw[bG,mm,bG];show (_+1)*2+_=_;omega
   have jE:IntKind.i64.wrap (((0:Nat):Int)+1)=((0+1:Nat):Int):=by rw[fP (by omega)];omega
   have uz:kC ⟨.int .i64,1,8,[.int .i64 0]⟩ ([]++[AV.int .i64 a,.int .i64 ((0:Nat):Int)]++J) (0+(IntKind.i64.wrap (((0+1:Nat):Int)-1)).toNat*2+1) (.int .i64 (IntKind.i64.wrap (((0:Nat):Int)+1)))=some (bM (([]:List (Int×Nat))++[(a,0+1)])++J):=by
    rw[pU,pz rfl rfl (by rw[hX,fh];omega),hX,jE,A6 rfl]
   have tN:2=2∧0≤IntKind.i64.wrap (((0+1:Nat):Int)-1)∧IntKind.i64.wrap (((0+1:Nat):Int)-1)<((0+1:Nat):Int):=⟨rfl,by omega,by omega⟩
   refine aw.mk tN ?_
   refine .quiet (by kernel_rfl) ?_
   refine aW 2 rfl lF ?_
   refine aW 2 rfl mF ?_
   refine aw.mk rfl ?_
   refine aX.mk (ax n l a) (by omega) (oF er) ?_
   refine aj (p:=((0:Nat):Int)<(ax n l a).length) (fun ab=>?_) (fun aq=>?_)
   ·have ab:0<(ax n l a).length:=by omega
    obtain⟨z,hz⟩:∃z,(ax n l a)[0]=z:=⟨_,rfl⟩
    have CI:z∈ax n l a:=hz▸cq ab
    have fg:=(kD.1 CI).1
    refine .quiet (by kernel_rfl) ?_
    refine aW 2 rfl mF ?_
    refine aw.mk rfl ?_
    refine aX.mk (ax n l a) (by omega) (oF er) ?_
    refine aW 2 rfl lF ?_
    refine aw.mk rfl ?_
    refine aX.mk z (by omega) ((get_some ab).trans (congrArg some hz)) ?_
    refine aW 2 rfl lF ?_
    refine cu 2 rfl uz ?_
    refine aQ ?_
    refine eH.ij 1 _ _ rfl (qo rfl fg.1 (by rw[sT];omega)) (fun c2=>?_) (fun c2=>?_)
    ·have jB:z∈(out++[a]):=by rw[hV.nj.at_ fg]at c2;exact fk c2
     have hS:=hV.skip ab (by rw[hz];exact jB)
     have fw:eb (ax n l) ((a,0+1)::(([]:List (Int×Nat))).reverse)+1=eb (ax n l) ((a,0)::(([]:List (Int×Nat))).reverse):=by show eb (ax n l) (([]:List (Int×Nat))).reverse+((ax n l a).length-(0+1))+1+1=eb (ax n l) (([]:List (Int×Nat))).reverse+((ax n l a).length-0)+1;omega
     exact vh hr ((false,z,(met.set a.toNat true),(out++[a])),(([]:List (Int×Nat)),a,0+1),(bw,J),(vo,ug,out)) ⟨rfl,⟨hS,hO⟩,⟨rfl,rfl,rfl,rfl,rfl,trivial⟩,(.drop 0 1 (.refl _))⟩
    ·have jB:z ∉ (out++[a]):=by rw[hV.nj.at_ fg]at c2;exact pc c2
     have hS:=hV.push cz ab (by rw[hz];exact jB)
     rw[hz]at hS
     have fw:eb (ax n l) ((z,0)::(a,0+1)::(([]:List (Int×Nat))).reverse)=eb (ax n l) ((a,0)::(([]:List (Int×Nat))).reverse)+(ax n l z).length:=by show eb (ax n l) (([]:List (Int×Nat))).reverse+((ax n l a).length-(0+1))+1+((ax n l z).length-0)+1=eb (ax n l) (([]:List (Int×Nat))).reverse+((ax n l a).length-0)+1+(ax n l z).length;omega
     have C2:=DY (nx:=ax n l) (seen:=(out++[a])) (b:=z.toNat) (by rw[mL fg.1];exact jB) n
     rw[az (by omega),mL fg.1]at C2
     exact vh hr ((true,z,(met.set a.toNat true),(out++[a])),(([]:List (Int×Nat)),a,0+1),(bw,J),(vo,ug,out)) ⟨rfl,⟨⟨hS,sT,fg.1,fg.2⟩,hO⟩,⟨rfl,rfl,rfl,rfl,rfl,trivial⟩,(.drop 0 1 (.refl _))⟩
   ·have aq:(ax n l a).length≤0:=by omega
    have hS:=hV.pop aq
    refine aW 2 rfl mF ?_
    intro bs
    refine eU (k:=(out).length) (n:=1) [_,_,_,_] hO (.ah 0 bs 0 1 _ rfl (cp rfl)) rfl (by omega) (by decide) (by decide) (fun pM mN wG=>?_)
    have wF:Acc 1 ((out)++[a]).length pM mN (an ((out)++[a])):=by
     rw[List.length_append,show an ((out)++[a])=an (out)++[.int .i64 a] by simp[an]];exact wG
    have pE:(IntKind.i64.wrap (((0+1:Nat):Int)-1)).toNat-Int.toNat 0=0:=by rw[l5];omega
    have dx:0≤(0:Int)∧(0:Int)≤IntKind.i64.wrap (((0+1:Nat):Int)-1)∧IntKind.i64.wrap (((0+1:Nat):Int)-1)≤((0+1:Nat):Int)∧2=2:=⟨by omega,by omega,by omega,rfl⟩
    refine aw.mk dx ?_
    obtain⟨e1,e2,e3,e4⟩:=jY.done hS
    rw[← e1]at wF
    exact .drop 0 2 (.drop 1 1 (.done ⟨(met.set a.toNat true),F,pM,mN,hF.symm,e2,e3,e4,wF,rfl,rfl⟩))
theorem UH{i:TI}{K:AV→Hp→Prop}(fr AD:Hp){acc σ:Hp}{k n:Nat}{v x:AV}{cs new:List AV}(h:Acc i.size k v acc cs)(hx:jb (fr++(AD++(acc++σ))) i.size x n new)(fK:new.length=n*i.size)(hn:k+n≤1048576)(hb:i.bytes≤1024)(h0:0<i.size)
  (go:∀v' aU,Acc i.size (k+n) v' aU (cs++new)→K (.via v') (fr++(AD++(aU++σ)))):AppendAt i (fr++(AD++(acc++σ))) v x K:=by
 have e:∀a:Hp,fr++(AD++(a++σ))=(fr++AD)++(a++σ):=fun a=>(dh _ _ _).symm
 rw[e]at hx ⊢
 exact eU (fr++AD) h hx fK hn hb h0 fun v' aU h'=>by
  have:=go v' aU h'
  rw[e]at this
  exact this
theorem aei{t t':Tm}{b off len es:Nat}{e:Sh}{l:List e.T}(k:Nat)(h:t k=.via (.ah b off len es))(h':t'=mC t [(k,.af e l)])(i:Nat):eI b off len es e l (t i) (t' i):=by
 subst h'
 show eI b off len es e l (t i) (match Nat.beq i k with | true=>.af e l | false=>t i)
 cases hb:Nat.beq i k with
 |true=>rw[jF hb,h];exact .via .here
 |false=>exact .refl _
theorem adv{t t':Tm}(e:Sh)(k:Nat)(h:t k=.via .ak)(h':t'=mC t [(k,.af e [])])(i:Nat):eI 0 0 0 0 .bool [] (t i) (t' i):=by
 subst h'
 show eI 0 0 0 0 .bool [] (t i) (match Nat.beq i k with | true=>.af e [] | false=>t i)
 cases hb:Nat.beq i k with
 |true=>rw[jF hb,h];exact .via (.nil e)
 |false=>exact .refl _
theorem my.acc{body:Tm→Hp→(Ex→Tm→Hp→Prop)→Prop}{Q:Ex→Tm→Hp→Prop}{t:Tm}(j:Nat)(fr:Hp){acc σ:Hp}{s:Sh}{k:Nat}{v:AV}{cs:List AV}{l:List s.T}(h:Acc s.size k v acc cs)(ht:t j=.via v)(hl:k=l.length)(hc:cs=l.flatMap s.cells)(hp:0<s.size)
  (go:my body Q (mC t [(j,.af s l)]) (fr++σ)):my body Q t (fr++(acc++σ)):=by
 cases h with
 |nil=>
  have gD:l=[]:=jm.1 hl.symm
  subst gD
  exact .nil (adv s j ht rfl) go
 |ah b k cs h=>
  refine .dL (.perm (vu fr [(b,cs)] σ) (.refl _)) ?_
  exact .cH 0 b 0 k s.size cs s l rfl (by rw[fG,dN (by omega)];exact hc) ⟨hl.symm,rfl,hp⟩ (aei j ht rfl) go
theorem Yl{R:AV→Hp→Prop}(fr:Hp){acc σ:Hp}{s:Sh}{k:Nat}{v x:AV}{cs:List AV}{l:List s.T}(h:Acc s.size k v acc cs)(hl:k=l.length)(hc:cs=l.flatMap s.cells)(hp:0<s.size)(go:Fin R (.tup [.af s l,x]) (fr++σ)):Fin R (.tup [v,x]) (fr++(acc++σ)):=by
 subst hl
 have hlen:=h.length
 refine .perm (vu fr acc σ) ?_
 generalize hk:l.length=k at h
 cases h with
 |nil=>
  obtain rfl:=jm.1 hk
  exact .nil (cc (.nil _) (.refl _)) go
 |ah b k cs h=>
  subst hk
  exact .cH 0 b 0 l.length s.size cs s l rfl (by rw[fG,dN (by omega)];exact hc) ⟨rfl,rfl,hp⟩ (cc .here (.refl _)) go
theorem Vr{R:AV→Hp→Prop}{r:AV}(a:Hp){σ:Hp}(h:Fin R r σ):Fin R r (a++σ):=.drop 0 a.length (by rw[Dq,dU,List.drop_left];exact h)
set_option maxHeartbeats 4000000
theorem UJ{P:Program}{f:FuncId}{a b:List AV}{v:AV}{σ:Hp}{R:AV→Hp→Prop}(hl:v.leaf=true)(h:ACalls P f (a++.via v::b) σ R):ACalls P f (a++v::b) σ R:=by
 refine⟨h.1,fun F w vs cg aJ=>h.2 F w vs ⟨by rw[← cg.1];simp,fun i x hx=>?_⟩ aJ⟩
 rcases Nat.lt_trichotomy i a.length with hi | hi | hi
 ·rw[ky hi]at hx
  exact cg.2 i x (by rw[ky hi];exact hx)
 ·subst hi
  rw[iP (bJ _),nt]at hx
  cases hx
  exact .via v _ hl (cg.2 a.length v (by rw[iP (bJ _),nt];rfl))
 ·obtain⟨j,rfl⟩:∃j,i=a.length+(j+1):=⟨i-a.length-1,by omega⟩
  rw[iP (by omega),show a.length+(j+1)-a.length=j+1 by omega]at hx
  exact cg.2 _ x (by rw[iP (by omega),show a.length+(j+1)-a.length=j+1 by omega];exact hx)
theorem Acc.leaf{e k:Nat}{v:AV}{acc:Hp}{cs:List AV}(h:Acc e k v acc cs):v.leaf=true:=by cases h <;> rfl
structure w6(n:Nat)(met:List Bool)(out:List Int):Prop where
 nj:rJ n met out
 nd:out.Nodup
 rg:∀x∈out,0≤x∧x<(n:Int)
theorem Rz(n:Nat)(l:List aT)(a:Int)(met:List Bool)(out:List Int)(bm:Nat)(vo:AV)(ug σ:Hp)(hl:l.length≤100000)(hn:n≤1000)(ha:0≤a∧a<n)(h:w6 n met out)(hO:Acc 1 out.length vo ug (an out)):
  ACalls Tryz.prog 311 [.af (.slice (.int .i64)) (cj n l),.ah bm 0 n 1,.int .i64 a,vo] ((bm,bK met)::(ug++σ))
   (fun r σ'=>∃qF kL qJ qA,kL=out++e9 (ax n l) (n+1) a out∧w6 n qF kL∧Acc 1 kL.length qJ qA (an kL)∧r=.via qJ∧σ'=(bm,bK qF)::(qA++σ)):=
 VF (R:=fun r σ'=>∃qF kL qJ qA,kL=out++e9 (ax n l) (n+1) a out∧w6 n qF kL∧Acc 1 kL.length qJ qA (an kL)∧r=qJ∧σ'=(bm,bK qF)::(qA++σ)) (UJ (a:=[_,_,_]) (b:=[]) hO.leaf ((aai n l a met out bm vo ug σ hl hn ha h.nj h.nd h.rg hO).mono fun _ _ ⟨qF,kL,qJ,qA,h1,h2,h3,h4,h5,h6,h7⟩=>⟨qF,kL,qJ,qA,h1,⟨h2,h3,h4⟩,h5,h6,h7⟩)) fun r σ' ⟨qF,kL,qJ,qA,h1,h2,h3,h4,h5⟩=>⟨h4▸h3.leaf,qF,kL,qJ,qA,h1,h2,h3,by rw[h4],h5⟩
theorem adj(bn:Nat)(n:Nat)(x:Int)(σ:Hp):ACalls Tryz.prog 337 [.int .i64 x,.ptr bn 0] ((bn,[.int .i64 n])::σ) (aD (.bool (decide (x<0∨(n:Int)≤x))) ((bn,[.int .i64 n])::σ)):=by
 refine au Tryz.func337 ?_
 refine aj (fun c1=>?_) (fun c1=>?_)
 ·have c1:x<0:=c1
  exact .done ⟨congrArg AV.bool (bj (by omega)).symm,rfl⟩
 ·have c1:¬(x<0):=c1
  refine aa 0 ?_
  refine aj (fun c2=>?_) (fun c2=>?_)
  ·have c2:(↑n:Int)≤x:=c2
   exact .done ⟨congrArg AV.bool (bj (by omega)).symm,rfl⟩
  ·have c2:¬((↑n:Int)≤x):=c2
   exact .done ⟨congrArg AV.bool (cy (by omega)).symm,rfl⟩
theorem aaZ(bn n:Nat)(L:List Int)(σ:Hp)(hl:L.length≤1000000)(hL:∀x∈L,0≤x∧x<(n:Int)):ACalls Tryz.prog 345 [.af (.int .i64) L,.fn (.func 337) [] [.ptr bn 0]] ((bn,[.int .i64 n])::σ) (aD (.int .i64 (-1)) ((bn,[.int .i64 n])::σ)):=by
 refine au Tryz.func345 ?_
 refine bh (S:=Nat) (fun k=>[(0,.af (.int .i64) L),(1,.fn (.func 337) [] [.ptr bn 0]),(7,.int .i64 L.length),(8,.int .i64 k)]) (fun _=>(bn,[.int .i64 n])::σ) (fun k=>k≤L.length) (fun k=>L.length-k) 0 ⟨aY _,⟨rfl,rfl,rfl,rfl,trivial⟩,rfl⟩ ?_
 intro k g aO
 have hk:k≤L.length:=aO
 refine aj (p:=(k:Int)<L.length) (fun ab=>?_) (fun aq=>?_)
 ·have ab:k<L.length:=by omega
  have hx:=hL _ (cq ab)
  refine aw.mk rfl (aX.mk L[k] (by omega) (get_some ab) ?_)
  refine dr [] (adj bn n L[k] σ) (fun c=>?_) (fun _=>?_)
  ·have c:=fk c;omega
  ·exact aM (k+1) (by show L.length-(k+1)<L.length-k;omega) ab ⟨rfl,rfl,rfl,aL (by omega),trivial⟩ (.refl _)
 ·exact .done ⟨rfl,rfl⟩
theorem ab0(bn n:Nat)(L:List Int)(σ:Hp)(hl:L.length≤1000000)(hL:∀x∈L,0≤x∧x<(n:Int)):ACalls Tryz.prog 336 [.af (.int .i64) L,.fn (.func 337) [] [.ptr bn 0]] ((bn,[.int .i64 n])::σ) (aD (.bool false) ((bn,[.int .i64 n])::σ)):=by
 refine au Tryz.func336 ?_
 refine ar [] (aaZ bn n L σ hl hL) ?_
 exact .done ⟨rfl,rfl⟩
theorem Zd(n:Nat)(l:List aT)(fr:List Int)(σ:Hp)(hl:l.length≤100000)(hf:fr.length≤100000)(dT:ek n l=true)(mg:∀x∈fr,0≤x∧x<(n:Int)):ACalls Tryz.prog 310 [.int .i64 n,.af cb l,.af (.int .i64) fr] σ (aD (.int .i64 0) σ):=by
 refine au Tryz.func310 ?_
 intro aB
 refine aa 0 ?_
 refine dr [] (BC n l _ (by omega)) (fun _=>?_) (fun c=>absurd c (by rw[dT];decide))
 refine ar [] (ab0 aB n fr σ (by omega) mg) ?_
 exact .drop 0 1 (.done ⟨rfl,rfl⟩)
def j4(n:Nat)(l:List aT)(fr:List Int):List Int:=lV n (ax n l) (fr++(List.range n).map fun a:Nat=>(a:Int))
theorem DT(n:Nat)(nx:Int→List Int)(L:List Int)(a:Int):lV n nx (L++[a])=lV n nx L++e9 nx (n+1) a (lV n nx L):=by unfold lV;rw[uQ];rfl
theorem adf(n:Nat)(l:List aT)(fr:List Int)(σ:Hp)(hl:l.length≤100000)(hf:fr.length≤100000)(dT:ek n l=true)(mg:∀x∈fr,0≤x∧x<(n:Int)):ACalls Tryz.prog 288 [.int .i64 n,.af cb l,.af (.int .i64) fr] σ (fun r σ'=>r=.tup [.af (.int .i64) (j4 n l fr),.int .i64 0]∧σ'=σ∧(∃met,w6 n met (j4 n l fr))):=by
 have hn:1≤n∧n≤256:=by
  unfold ek at dT
  simp only[b9,decide_eq_true_eq]at dT
  omega
 have eu:∀k,(cx ((List.range k).map fun a:Nat=>ax n l a)).length=k:=fun k=>by rw[th,cm,kx]
 refine au Tryz.func288 ?_
 refine ar [] (Zd n l fr _ hl hf dT mg) ?_
 refine .wrap 9 .ak rfl rfl ?_
 refine bh (S:=Nat×AV×Hp) (fun x=>[(0,.int .i64 n),(1,.af cb l),(2,.af (.int .i64) fr),(9,.via x.2.1),(23,.int .i64 n),(24,.int .i64 x.1)]) (fun x=>x.2.2++σ) (fun x=>x.1≤n∧Acc 1 x.1 x.2.1 x.2.2 (cx ((List.range x.1).map fun a:Nat=>ax n l a))) (fun x=>n-x.1) (0,.ak,[]) ⟨⟨aY _,.nil⟩,⟨rfl,rfl,rfl,rfl,rfl,rfl,trivial⟩,rfl⟩ ?_
 rintro⟨k,v,acc⟩ g ⟨hk,bS⟩
 have hk:k≤n:=hk
 have bS:Acc 1 k v acc (cx ((List.range k).map fun a:Nat=>ax n l a)):=bS
 refine aj (p:=(k:Int)<n) (fun ab=>?_) (fun aq=>?_)
 ·have ab:k<n:=by omega
  refine ar [] (zu n l k _ hl) ?_
  intro bs
  refine eU [_] bS (.ah 0 bs 0 1 _ rfl (cp rfl)) rfl (by omega) (by decide) (by decide) (fun v' aU h'=>?_)
  refine aM (k+1,v',aU) (by show n-(k+1)<n-k;omega) ⟨ab,?_⟩ ⟨rfl,rfl,rfl,rfl,rfl,aL (by omega),trivial⟩ (.drop 0 1 (.refl _))
  show Acc 1 (k+1) v' aU (cx ((List.range (k+1)).map fun a:Nat=>ax n l a))
  rw[qe,cC,show cx (List.map (fun a:Nat=>ax n l a) (List.range k)++List.map (fun a:Nat=>ax n l a) [k])=cx (List.map (fun a:Nat=>ax n l a) (List.range k))++[.af (.int .i64) (ax n l k)] from cC]
  exact h'
 ·have aq:n=k:=by omega
  subst aq
  have hlx:∀(c:Nat) (L:List Int) (x:Int),(∀x∈L,0≤x∧x<(n:Int))→L[c]?=some x→0≤x∧x<(n:Int):=fun c L x h hx=>h x (dm hx)
  have La:((n:Nat):Int).toNat=n:=bR n
  refine bg ?_
  intro bm
  refine .wrap 12 .ak rfl rfl ?_
  refine my.acc 9 [_] (s:=.slice (.int .i64)) bS rfl ((eu n).symm.trans (th _)) (tp _) (by decide) ?_
  refine bh (S:=Nat×(List Bool×List Int)×(AV×Hp)) (fun x=>[(0,.int .i64 n),(9,.af (.slice (.int .i64)) (cj n l)),(11,.ah bm 0 n 1),(12,.via x.2.2.1),(37,.af (.int .i64) fr),(38,.int .i64 fr.length),(39,.int .i64 x.1)]) (fun x=>(bm,bK x.2.1.1)::(x.2.2.2++σ)) (fun x=>x.1≤fr.length∧w6 n x.2.1.1 x.2.1.2∧x.2.1.2=lV n (ax n l) (fr.take x.1)∧Acc 1 x.2.1.2.length x.2.2.1 x.2.2.2 (an x.2.1.2)) (fun x=>fr.length-x.1) (0,(List.replicate n false,[]),(.ak,[])) ⟨⟨Nat.zero_le _,⟨⟨by simp,fun u hu=>by rw[List.getD_eq_getElem?_getD,List.getElem?_replicate,if_pos hu];rfl⟩,List.nodup_nil,fun x hx=>absurd hx (by simp)⟩,rfl,.nil⟩,⟨rfl,rfl,rfl,rfl,rfl,rfl,rfl,trivial⟩,by rw[show bK (List.replicate n false)=cN [.bool false] n from (yU n).symm];rfl⟩ ?_
  rintro⟨j,⟨met,out⟩,⟨vo,ac⟩⟩ g ⟨hj,hP,ho,hO⟩
  have hj:j≤fr.length:=hj
  have hP:w6 n met out:=hP
  have ho:out=lV n (ax n l) (fr.take j):=ho
  have hO:Acc 1 out.length vo ac (an out):=hO
  refine aj (p:=(j:Int)<fr.length) (fun ab=>?_) (fun aq=>?_)
  ·have ab:j<fr.length:=by omega
   have hz:=mg _ (cq ab)
   refine aw.mk rfl (aX.mk fr[j] (by omega) (get_some ab) ?_)
   refine .mk [] _ (Rz n l fr[j] met out bm vo ac σ hl (by omega) hz hP hO) ?_
   rintro _ _ ⟨met2,B5,pM,mN,h1,h2,h3,rfl,rfl⟩
   refine aM (j+1,(met2,B5),(pM,mN)) (by show fr.length-(j+1)<fr.length-j;omega) ⟨ab,h2,?_,h3⟩ ⟨rfl,rfl,rfl,rfl,rfl,rfl,aL (by omega),trivial⟩ (.refl _)
   show B5=lV n (ax n l) (fr.take (j+1))
   rw[eT ab,DT,← ho];exact h1
  ·have aq:¬(j:Int)<fr.length:=aq
   rw[dN (by omega)]at ho
   refine bh (S:=Nat×(List Bool×List Int)×(AV×Hp)) (fun x=>[(9,.af (.slice (.int .i64)) (cj n l)),(11,.ah bm 0 n 1),(12,.via x.2.2.1),(49,.int .i64 n),(50,.int .i64 x.1)]) (fun x=>(bm,bK x.2.1.1)::(x.2.2.2++σ)) (fun x=>x.1≤n∧w6 n x.2.1.1 x.2.1.2∧x.2.1.2=lV n (ax n l) (fr++(List.range x.1).map fun a:Nat=>(a:Int))∧Acc 1 x.2.1.2.length x.2.2.1 x.2.2.2 (an x.2.1.2)) (fun x=>n-x.1) (0,(met,out),(vo,ac)) ⟨⟨Nat.zero_le _,hP,by rw[ho];simp,hO⟩,⟨rfl,rfl,rfl,rfl,rfl,trivial⟩,rfl⟩ ?_
   clear hP ho hO hj aq
   rintro⟨j,⟨met,out⟩,⟨vo,ac⟩⟩ g ⟨hj,hP,ho,hO⟩
   have hj:j≤n:=hj
   have hP:w6 n met out:=hP
   have ho:out=lV n (ax n l) (fr++(List.range j).map fun a:Nat=>(a:Int)):=ho
   have hO:Acc 1 out.length vo ac (an out):=hO
   refine aj (p:=(j:Int)<n) (fun ab=>?_) (fun aq=>?_)
   ·have ab:j<n:=by omega
    refine .mk [] _ (Rz n l j met out bm vo ac σ hl (by omega) ⟨by omega,by omega⟩ hP hO) ?_
    rintro _ _ ⟨met2,B5,pM,mN,h1,h2,h3,rfl,rfl⟩
    refine aM (j+1,(met2,B5),(pM,mN)) (by show n-(j+1)<n-j;omega) ⟨ab,h2,?_,h3⟩ ⟨rfl,rfl,rfl,rfl,aL (by omega),trivial⟩ (.refl _)
    show B5=lV n (ax n l) (fr++(List.range (j+1)).map fun a:Nat=>(a:Int))
    rw[qe,cC,← dh,show List.map (fun a:Nat=>(a:Int)) [j]=[(j:Int)] from rfl,DT,← ho];exact h1
   ·have aq:n=j:=by omega
    subst aq
    have ho:out=j4 n l fr:=ho
    rw[← ho]
    exact Yl [_] (s:=.int .i64) hO rfl (ir _) (by decide) (.drop 0 1 (.done ⟨rfl,rfl,met,hP⟩))
inductive w5(n:Int)(l:List aT)(fr:List Int):Int→Prop where
 |root {a:Int} (h:a∈fr) (h1:0≤a∧a<n):w5 n l fr a
 |step {a b:Int} (h:w5 n l fr a) (hb:b∈ax n l a):w5 n l fr b
theorem w5.node{n:Int}{l:List aT}{fr:List Int}{a:Int}(h:w5 n l fr a):0≤a∧a<n:=by
 cases h with
 |root h h1=>exact h1
 |step h hb=>exact (kD.1 hb).1
theorem A1:∀(n:Nat) (l:List Int),l.Nodup→(∀z∈l,0≤z∧z<n)→l.length≤n
 | 0,[],_,_=>bJ _
 | 0,z::l,_,h=>by have:=h z (cF ..);omega
 |n+1,l,hd,h=>by
  have h1:=A1 n (l.filter fun z=>decide (z≠n)) (hd.filter _) fun z hz=>by
   obtain⟨q1,q2⟩:=jW.1 hz
   have:=h z q1
   have q2:=fk q2
   omega
  have h2:l.length≤(l.filter fun z=>decide (z≠(n:Int))).length+1:=by
   clear h h1
   induction l with
   |nil=>simp
   |cons z l ih=>
    have kd:=mJ.1 hd
    by_cases hz:z=n
    ·subst hz
     have e:(((n:Int)::l).filter fun z=>decide (z≠(n:Int)))=l:=by
      rw[List.filter_cons_of_neg (by simp)]
      exact gu1.2 fun y hy=>bj fun e=>kd.1 (e▸hy)
     rw[e];simp
    ·have:=ih kd.2
     rw[List.filter_cons_of_pos (by simp[hz])]
     simp only[iE];omega
  omega
theorem Ws{b:List Bool}{k:Nat}{a:Int}:a∈kg b k↔(0≤a∧a<k)∧b.getD a.toNat false=true:=by
 unfold kg
 rw[fi]
 constructor
 ·rintro⟨i,hi,rfl⟩
  obtain⟨h1,h2⟩:=jW.1 hi
  exact⟨by have:=gq.1 h1;omega,h2⟩
 ·rintro⟨h1,h2⟩
  exact⟨a.toNat,jW.2 ⟨gq.2 (by omega),h2⟩,by omega⟩
theorem Ec(b:List Bool)(i j:Nat):(b.set i true).getD j false=true↔(i=j∧i<b.length)∨b.getD j false=true:=by
 rw[bO,gX,bO]
 by_cases h:i=j
 ·subst h
  rw[az rfl]
  by_cases h2:i<b.length
  ·rw[if_pos h2];simp[h2]
  ·rw[if_neg h2];simp[h2]
 ·rw[if_neg h];simp[h]
theorem Wu{n:Int}{b:List Bool}{a:Int}(hb:(b.length:Int)=n)(j:Nat):(lj n b a).getD j false=true↔(0≤a∧a<n∧(j:Int)=a)∨b.getD j false=true:=by
 unfold lj
 by_cases h:0≤a∧a<n
 ·rw[az h,Ec]
  constructor
  ·rintro (⟨e,_⟩ | e)
   ·exact .inl ⟨h.1,h.2,by omega⟩
   ·exact .inr e
  ·rintro (⟨_,_,e⟩ | e)
   ·exact .inl ⟨by omega,by omega⟩
   ·exact .inr e
 ·rw[aA h]
  exact⟨.inr,fun h2=>by rcases h2 with h2 | h2;exact absurd ⟨h2.1,h2.2.1⟩ h;exact h2⟩
theorem HV{n:Int}:∀(fr:List Int) {b:List Bool},(b.length:Int)=n→∀j:Nat,(fr.foldl (lj n) b).getD j false=true↔((j:Int)∈fr∧(j:Int)<n)∨b.getD j false=true
 | [],b,_,j=>by simp
 |a::fr,b,hb,j=>by
  rw[An,HV fr (by rw[ME];exact hb) j,Wu hb j,ei]
  constructor
  ·rintro (⟨h1,h2⟩ | ⟨h1,h2,h3⟩ | h)
   ·exact .inl ⟨.inr h1,h2⟩
   ·exact .inl ⟨.inl h3,by omega⟩
   ·exact .inr h
  ·rintro (⟨h1 | h1,h2⟩ | h)
   ·exact .inr (.inl ⟨by omega,by omega,h1⟩)
   ·exact .inl ⟨h1,h2⟩
   ·exact .inr (.inr h)
theorem Hl(n:Int):∀(fr:List Int) (b:List Bool),(fr.foldl (lj n) b).length=b.length
 | [],_=>rfl
 |a::fr,b=>by rw[An,Hl n fr,ME]
def okB(n:Int)(l:List aT)(fr:List Int)(b:List Bool):Prop:=(b.length:Int)=n∧∀j:Nat,b.getD j false=true→w5 n l fr j
theorem abB{n:Int}{l:List aT}{fr:List Int}{b:List Bool}{e:aT}(he:e∈l)(h:okB n l fr b):okB n l fr (kV n b e):=by
 unfold kV
 by_cases c:(0≤e.1∧e.1<n)∧(0≤e.2.1∧e.2.1<n)∧b.getD e.1.toNat false=true
 ·rw[az c]
  refine⟨by rw[dV];exact h.1,fun j hj=>?_⟩
  rcases (Ec _ _ _).1 hj with ⟨e1,_⟩ | hj
  ·have:=h.2 _ c.2.2
   refine .step this (kD.2 ⟨by omega,by omega,e,he,by omega,by omega⟩)
  ·exact h.2 j hj
 ·rw[aA c];exact h
theorem O0{n:Int}{l:List aT}{fr:List Int}:∀(L:List aT) {b:List Bool},(∀e∈L,e∈l)→okB n l fr b→okB n l fr (L.foldl (kV n) b)
 | [],_,_,h=>h
 |e::L,_,hL,h=>O0 L (fun x hx=>hL x (dy _ hx)) (abB (hL e (cF ..)) h)
theorem Rm{n:Int}{b:List Bool}{e:aT}{j:Nat}(h:b.getD j false=true):(kV n b e).getD j false=true:=by
 unfold kV
 split
 ·exact (Ec _ _ _).2 (.inr h)
 ·exact h
theorem A9{n:Int}:∀(L:List aT) {b:List Bool} {j:Nat},b.getD j false=true→(L.foldl (kV n) b).getD j false=true
 | [],_,_,h=>h
 |_::L,_,_,h=>A9 L (Rm h)
theorem O1{n:Int}:∀(L:List aT) {b:List Bool} {e:aT},(b.length:Int)=n→e∈L→(0≤e.1∧e.1<n)→(0≤e.2.1∧e.2.1<n)→b.getD e.1.toNat false=true→(L.foldl (kV n) b).getD e.2.1.toNat false=true
 |x::L,b,e,hb,he,h1,h2,h3=>by
  rcases ei.1 he with rfl | he
  ·refine A9 L ?_
   unfold kV
   rw[az ⟨h1,h2,h3⟩]
   exact (Ec _ _ _).2 (.inl ⟨rfl,by omega⟩)
  ·exact O1 L (by rw[Nt];exact hb) he h1 h2 (Rm h3)
def ud(b:List Bool):Nat:=b.countP id
theorem Is:∀{b c:List Bool},b.length=c.length→(∀j:Nat,b.getD j false=true→c.getD j false=true)→ud b≤ud c∧(ud b=ud c→b=c)
 | [],[],_,_=>⟨bJ _,fun _=>rfl⟩
 |x::b,y::c,hl,h=>by
  obtain⟨h1,h2⟩:=Is (b:=b) (c:=c) (by simpa using hl) fun j hj=>h (j+1) hj
  have h0:=h 0
  unfold ud at h1 h2 ⊢
  simp only[GK]
  cases x <;> cases y <;> simp at h0 ⊢
  ·exact⟨h1,h2⟩
  ·omega
  ·exact⟨h1,h2⟩
theorem Hk(n:Int):∀(L:List aT) (b:List Bool),(L.foldl (kV n) b).length=b.length
 | [],_=>rfl
 |e::L,b=>by rw[An,Hk n L,Nt]
theorem Nk{n:Int}{l:List aT}{b:List Bool}(h:kE n l b=b):∀k,px n l k b=b
 | 0=>rfl
 |k+1=>by rw[rounds_succ,h];exact Nk h k
theorem MP{n:Int}{l:List aT}:∀(k:Nat) {b:List Bool},(b.length:Int)=n→b.length≤ud b+k→kE n l (px n l k b)=px n l k b
 | 0,b,hb,hc=>by
  have hl:(kE n l b).length=b.length:=Hk n l b
  have hu:=Is (b:=b) (c:=kE n l b) hl.symm fun j hj=>A9 l hj
  have h2:ud (kE n l b)≤(kE n l b).length:=List.countP_le_length
  show kE n l b=b
  exact (hu.2 (by omega)).symm
 |k+1,b,hb,hc=>by
  have hl:(kE n l b).length=b.length:=Hk n l b
  have hu:=Is (b:=b) (c:=kE n l b) hl.symm fun j hj=>A9 l hj
  by_cases h:kE n l b=b
  ·rw[Nk h];exact h
  ·rw[rounds_succ]
   refine MP k (by rw[hl];exact hb) ?_
   have:ud b≠ud (kE n l b):=fun e=>h (hu.2 e).symm
   omega
theorem Nj{n:Int}{l:List aT}{fr:List Int}:∀(k:Nat) {b:List Bool},okB n l fr b→okB n l fr (px n l k b)
 | 0,_,h=>h
 |k+1,_,h=>by rw[rounds_succ];exact Nj k (O0 l (fun _ h=>h) h)
theorem NW{n:Int}{l:List aT}:∀(k:Nat) {b:List Bool} {j:Nat},b.getD j false=true→(px n l k b).getD j false=true
 | 0,_,_,h=>h
 |k+1,_,_,h=>by rw[rounds_succ];exact NW k (A9 l h)
theorem Ve{n:Nat}{l:List aT}{fr:List Int}(a:Int):a∈tG n l fr↔w5 n l fr a:=by
 have gD:(((List.replicate n false).length:Nat):Int)=n:=by rw[gY]
 have ao:okB n l fr (fr.foldl (lj n) (List.replicate n false)):=by
  refine⟨by rw[Hl];exact gD,fun j hj=>?_⟩
  rcases (HV fr gD j).1 hj with ⟨h1,h2⟩ | h
  ·exact .root h1 ⟨by omega,h2⟩
  ·rw[bO,wW]at h
   split at h <;> cases h
 have cM:okB n l fr (rf n l fr):=Nj _ ao
 have ae6:kE n l (rf n l fr)=rf n l fr:=by
  refine MP _ ao.1 ?_
  rw[Hl,gY,bR];omega
 unfold tG
 rw[bR,Ws]
 constructor
 ·rintro⟨h1,h2⟩
  have:=cM.2 _ h2
  rwa [mL h1.1]at this
 ·intro h
  refine⟨h.node,?_⟩
  induction h with
  | @root x hf hn=>
   refine NW _ ((HV fr gD _).2 (.inl ⟨?_,?_⟩))
   ·rw[mL hn.1];exact hf
   ·omega
  | @step x y hx hy ih=>
   obtain⟨x6,K1,e,he,e1,e2⟩:=kD.1 hy
   rw[← ae6]
   have:=O1 l (b:=rf n l fr) cM.1 he (by omega) (by omega) (by rw[e1];exact ih)
   rw[e2]at this
   exact this
theorem vj{a:Int}:∀{P:List (List Int)},P.flatten.Nodup→∀{i j:Nat} {p q:List Int},P[i]?=some p→P[j]?=some q→a∈p→a∈q→i=j
 | [],_,i,_,_,_,h,_,_,_=>by simp at h
 |r::P,hd,i,j,p,q,hi,hj,hp,hq=>by
  rw[wP]at hd
  obtain⟨_,h2,h3⟩:=ml.1 hd
  cases i with
  |zero=>
   cases j with
   |zero=>rfl
   |succ j=>
    obtain rfl:r=p:=by simpa using hi
    have hj:P[j]?=some q:=by simpa using hj
    exact absurd rfl (h3 a hp a (nu.2 ⟨q,dm hj,hq⟩))
  |succ i=>
   have hi:P[i]?=some p:=by simpa using hi
   cases j with
   |zero=>
    obtain rfl:r=q:=by simpa using hj
    exact absurd rfl (h3 a hq a (nu.2 ⟨p,dm hi,hp⟩))
   |succ j=>
    have hj:P[j]?=some q:=by simpa using hj
    exact congrArg (· + 1) (vj h2 hi hj hp hq)
theorem qh.le{n:Nat}{nx:Int→List Int}{P:List (List Int)}(h:qh n nx P){x y:Int}(hr:Rx nx x y){i:Nat}{p:List Int}(hi:P[i]?=some p)(hx:x∈p):∃(j:Nat) (q:List Int),j≤i∧P[j]?=some q∧y∈q:=by
 induction hr with
 |refl=>exact⟨i,p,bJ _,hi,hx⟩
 |step _ hc ih=>
  obtain⟨j,q,h1,h2,h3⟩:=ih
  obtain⟨k,r,k1,k2,k3⟩:=h.He j q h2 _ h3 _ hc
  exact⟨k,r,ey k1 h1,k2,k3⟩
theorem abe{n:Int}{l:List aT}{a b:Int}:w5 n l [a] b↔(0≤a∧a<n)∧Rx (ax n l) a b:=by
 constructor
 ·intro h
  induction h with
  |root hm h1=>rw[bE.1 hm]at h1 ⊢;exact⟨h1,.refl _⟩
  |step _ hb ih=>exact⟨ih.1,.step ih.2 hb⟩
 ·rintro⟨ha,h⟩
  induction h with
  |refl=>exact .root (bE.2 rfl) ha
  |step _ hc ih=>exact .step ih hc
theorem EC{n:Nat}{l:List aT}{a b:Int}:nh n l a b=true↔(0≤a∧a<n)∧Rx (ax n l) a b:=by
 unfold nh
 rw[tC,Ve,abe]
theorem Wf(n:Nat)(l:List aT)(a:Int):(eJ n l a).Pairwise (· < ·):=by
 unfold eJ lR
 rw[Aq]
 refine List.Pairwise.filter _ ?_
 exact LW.imp fun h=>by omega
theorem IG{n:Nat}{l:List aT}{P:List (List Int)}(h:qh n (ax n l) P){p:List Int}{a:Int}(hp:p∈P)(ha:a∈p):eJ n l a=p:=by
 obtain⟨i,hi⟩:=yn hp
 have rU:=h.node p hp a ha
 refine IM (Wf ..) (h.zM p hp) fun z=>?_
 rw[HU]
 constructor
 ·rintro⟨k,hk,hb,rfl⟩
  rw[b9,EC,EC]at hb
  obtain⟨j,q,j1,j2,j3⟩:=h.le hb.1.2 hi ha
  obtain⟨k2,r,k3,k4,k5⟩:=h.le hb.2.2 j2 j3
  have:=vj h.nd hi k4 ha k5
  have:i=j:=by omega
  subst this
  rw[hi]at j2
  rw[Option.some.inj j2];exact j3
 ·intro hz
  have fg:=h.node p hp z hz
  refine⟨z.toNat,by omega,?_,by omega⟩
  rw[mL fg.1,b9,EC,EC]
  exact⟨⟨rU,h.Md p hp a ha z hz⟩,fg,h.Md p hp z hz a ha⟩
def kQ(i:Int)(p:List Int)(w:List Int):List Int:=p.foldl (fun w a=>w.set a.toNat i) w
def mB(P:List (List Int)):Nat→List Int→List Int
 | 0,w=>w
 |k+1,w=>kQ k (P.getD k []) (mB P k w)
def bH(n:Nat)(P:List (List Int)):List Int:=mB P P.length (List.replicate n 0)
theorem DR(i:Int):∀(p w:List Int),(kQ i p w).length=w.length
 | [],_=>rfl
 |a::p,w=>by
  show (kQ i p (w.set a.toNat i)).length=_
  rw[DR i p,dV]
theorem AM(P:List (List Int)):∀(k:Nat) (w:List Int),(mB P k w).length=w.length
 | 0,_=>rfl
 |k+1,w=>by
  show (kQ k (P.getD k []) (mB P k w)).length=_
  rw[DR,AM P k]
theorem M8(n:Nat)(P:List (List Int)):(bH n P).length=n:=by unfold bH;rw[AM,gY]
theorem P4(i:Int){a:Int}(ha:0≤a):∀(p w:List Int),(∀z∈p,0≤z)→a.toNat<w.length→(kQ i p w).getD a.toNat 0=if a∈p then i else w.getD a.toNat 0
 | [],w,_,_=>by simp[kQ]
 |z::p,w,hp,hw=>by
  show (kQ i p (w.set z.toNat i)).getD a.toNat 0=_
  have hz:=hp z (cF ..)
  rw[P4 i ha p _ (fun y hy=>hp y (dy _ hy)) (by rw[dV];exact hw),mq]
  by_cases h1:a∈p
  ·rw[az h1,az (dy _ h1)]
  ·rw[aA h1]
   by_cases h2:a=z
   ·rw[az ⟨by omega,hw⟩,az (by rw[h2];exact cF ..)]
   ·rw[aA (by omega),aA (by rw[ei];exact fun h=>h.elim h2 h1)]
theorem tE{P:List (List Int)}{i:Nat}{p:List Int}(h:P[i]?=some p):P.getD i []=p:=by rw[bO,h];rfl
theorem P3{n:Nat}{nx:Int→List Int}{P:List (List Int)}(h:qh n nx P){i:Nat}{p:List Int}(hi:P[i]?=some p){a:Int}(ha:a∈p):∀k,k≤P.length→i<k→(mB P k (List.replicate n 0)).getD a.toNat 0=i
 | 0,_,hk=>absurd hk (s7 _)
 |k+1,gW,hk=>by
  have rU:=h.node p (dm hi) a ha
  obtain⟨q,hq⟩:∃q,P[k]?=some q:=⟨P[k],bN (by omega)⟩
  show (kQ k (P.getD k []) _).getD a.toNat 0=_
  rw[tE hq,P4 k rU.1 _ _ (fun z hz=>(h.node q (dm hq) z hz).1) (by rw[AM,gY];omega)]
  by_cases hm:a∈q
  ·rw[az hm,vj h.nd hi hq ha hm]
  ·rw[aA hm]
   have:i≠k:=fun e=>by subst e;rw[hi]at hq;exact hm (Option.some.inj hq▸ha)
   exact P3 h hi ha k (by omega) (by omega)
theorem Zk{n:Nat}{nx:Int→List Int}{P:List (List Int)}(h:qh n nx P){i:Nat}{p:List Int}(hi:P[i]?=some p){a:Int}(ha:a∈p):(bH n P).getD a.toNat 0=i:=
 P3 h hi ha P.length (bJ _) (cR.1 hi).1
def mU(l:List aT)(W:List Int)(T:List Bool)(i:Int):Bool:= !T.getD i.toNat false&&!l.any fun x=>decide (W.getD x.2.1.toNat 0=i)&&decide (W.getD x.1.toNat 0≠i)&&!T.getD (W.getD x.1.toNat 0).toNat false
def iv(P:List (List Int))(i:Nat):Int:=(P.getD i []).headD 0
def fp(P:List (List Int))(l:List aT)(W:List Int)(T:List Bool):Nat→Int
 | 0=> -1
 |k+1=>if mU l W T k=true∧(fp P l W T k<0∨iv P k<iv P (fp P l W T k).toNat) then k else fp P l W T k
theorem DZ(P:List (List Int))(l:List aT)(W:List Int)(T:List Bool):∀k:Nat,(fp P l W T k = -1∧∀i:Nat,i<k→mU l W T i=false)∨∃b:Nat,fp P l W T k=b∧b<k∧mU l W T b=true∧∀i:Nat,i<k→mU l W T i=true→iv P b≤iv P i
 | 0=>.inl ⟨rfl,fun _ h=>absurd h (s7 _)⟩
 |k+1=>by
  have ih:=DZ P l W T k
  by_cases c:mU l W T k=true∧(fp P l W T k<0∨iv P k<iv P (fp P l W T k).toNat)
  ·have e:fp P l W T (k+1)=k:=az c
   rw[e]
   refine .inr ⟨k,rfl,by omega,c.1,fun i hi hf=>?_⟩
   by_cases CX:i=k
   ·subst CX;exact dA _
   ·rcases ih with ⟨h1,h2⟩ | ⟨b,h1,h2,h3,h4⟩
    ·rw[h2 i (by omega)]at hf;cases hf
    ·have:=h4 i (by omega) hf
     rw[h1,bR]at c
     rcases c.2 with c | c
     ·omega
     ·omega
  ·have e:fp P l W T (k+1)=fp P l W T k:=aA c
   rw[e]
   rcases ih with ⟨h1,h2⟩ | ⟨b,h1,h2,h3,h4⟩
   ·refine .inl ⟨h1,fun i hi=>?_⟩
    by_cases CX:i=k
    ·subst CX
     exact yl.2 fun hf=>c ⟨hf,.inl (by omega)⟩
    ·exact h2 i (by omega)
   ·refine .inr ⟨b,h1,by omega,h3,fun i hi hf=>?_⟩
    by_cases CX:i=k
    ·subst CX
     rw[h1,bR]at c
     exact Int.not_lt.1 fun ab=>c ⟨hf,.inr ab⟩
    ·exact h4 i (by omega) hf
def dG(P:List (List Int))(l:List aT)(W:List Int):Nat→List Bool×List (List Int)
 | 0=>(List.replicate P.length false,[])
 |k+1=>((dG P l W k).1.set (fp P l W (dG P l W k).1 P.length).toNat true,(dG P l W k).2++[P.getD (fp P l W (dG P l W k).1 P.length).toNat []])
def lp(n:Nat)(l:List aT)(told:List Int)(a:Nat):Bool:=decide ((eJ n l a).headD 0=(a:Int))&&!iL told a&&qy l (eJ n l a) told
def nR(n:Nat)(l:List aT):Nat→List (List Int)×List Int→List (List Int)×List Int
 | 0,s=>s
 |f+1,s=>if s.2.length<n then (match (List.range n).find? (lp n l s.2) with | none=>s | some a=>nR n l f (s.1++[eJ n l a],s.2++eJ n l a)) else s
def gC(n:Nat)(l:List aT):List (List Int):=(nR n l (n+1) ([],[])).1
theorem Nx{p:Nat→Bool}{n a:Nat}(ha:a<n)(hp:p a=true)(h:∀b,b<a→p b=false):(List.range n).find? p=some a:=by
 rw[List.find?_range_eq_some]
 exact⟨hp,gq.2 ha,fun b hb=>by rw[h b hb];rfl⟩
structure n9(n:Nat)(l:List aT)(P:List (List Int)):Prop where
 ok:qh n (ax n l) P
 all:∀x:Int,0≤x→x<n→∃p∈P,x∈p
theorem n9.idx{n:Nat}{l:List aT}{P:List (List Int)}(h:n9 n l P){x:Int}(hx:0≤x∧x<n):∃(i:Nat) (p:List Int),P[i]?=some p∧x∈p∧(bH n P).getD x.toNat 0=i:=by
 obtain⟨p,hp,qK⟩:=h.all x hx.1 hx.2
 obtain⟨i,hi⟩:=yn hp
 exact⟨i,p,hi,qK,Zk h.ok hi qK⟩
theorem xd{P:List (List Int)}{i:Nat}{p:List Int}(h:P[i]?=some p):i<P.length:=(cR.1 h).1
structure OI(P:List (List Int))(k:Nat)(T:List Bool)(out:List (List Int)):Prop where
 tl:T.length=P.length
 ol:out.length=k
 aV:T.countP id=k
 mem:∀q,q∈out↔∃i:Nat,T.getD i false=true∧P[i]?=some q
 nd:out.flatten.Nodup
theorem Ov{n:Nat}{l:List aT}{P:List (List Int)}(h:n9 n l P)(hr:∀e∈l,(0≤e.1∧e.1<(n:Int))∧0≤e.2.1∧e.2.1<(n:Int)){k:Nat}{T:List Bool}{out:List (List Int)}(hO:OI P k T out){i:Nat}{p:List Int}(hi:P[i]?=some p):mU l (bH n P) T i=true↔T.getD i false=false∧qy l p out.flatten=true:=by
 unfold mU qy
 rw[bR,b9,ke,ke,Ap,fN]
 refine and_congr_right fun _=>?_
 refine forall_congr' fun e=>?_
 refine forall_congr' fun he=>?_
 obtain⟨q1,q2⟩:=hr e he
 obtain⟨a,pa,ha,CO,wa⟩:=h.idx q1
 obtain⟨b,pb,hb,pY,wb⟩:=h.idx q2
 rw[wa,wb,bR]
 have ew:∀{j:Nat} {r:List Int} {x:Int},P[j]?=some r→x∈r→(iL p x=true↔j=i):=fun {j r x} hj hx=>by
  rw[tC]
  exact⟨fun hm=>vj h.ok.nd hj hi hx hm,fun e=>by subst e;rw[hi]at hj;rw[Option.some.inj hj];exact hx⟩
 have acD:iL out.flatten e.1=true↔T.getD a false=true:=by
  rw[tC,nu]
  constructor
  ·rintro⟨q,hq,hm⟩
   obtain⟨j,hj,p7⟩:=(hO.mem q).1 hq
   rw[vj h.ok.nd ha p7 CO hm];exact hj
  ·intro ht
   exact⟨pa,(hO.mem pa).2 ⟨a,ht,ha⟩,CO⟩
 have h1:=ew ha CO
 have h2:=ew hb pY
 rw[b9,b9,decide_eq_true_eq,decide_eq_true_eq,ke,ke,Bool.and_eq_false_iff,Bool.and_eq_false_iff,GO,GO]
 have h3:iL p e.2.1=false↔b≠i:=by rw[← Bool.not_eq_true,h2]
 rw[acD,h1,h3,← Bool.not_eq_true]
 constructor
 ·intro hn
  by_cases c1:b=i
  ·by_cases c2:a=i
   ·exact .inl (.inr c2)
   ·exact .inr (by
     by_cases c3:T.getD a false=true
     ·exact c3
     ·exact absurd ⟨⟨by omega,by omega⟩,c3⟩ hn)
  ·exact .inl (.inl c1)
 ·rintro ((c | c) | c) ⟨⟨d1,d2⟩,d3⟩
  ·exact c (by omega)
  ·exact d2 (by omega)
  ·exact d3 c
theorem count_set{T:List Bool}{i:Nat}(hi:i<T.length)(h:T.getD i false=false):(T.set i true).countP id=T.countP id+1:=by
 induction T generalizing i with
 |nil=>simp at hi
 |cons t T ih=>
  cases i with
  |zero=>
   have:t=false:=h
   subst this
   simp
  |succ i=>
   have:=ih (i:=i) (by simpa using hi) h
   rw[List.set_cons_succ,GK,GK,this];omega
theorem Vx:∀{T:List Bool},T.countP id<T.length→∃i,i<T.length∧T.getD i false=false∧∀j,i<j→j<T.length→T.getD j false=true:=by
 intro T
 induction T with
 |nil=>intro h;simp at h
 |cons t T ih=>
  intro h
  rw[GK,iE]at h
  by_cases c:T.countP id<T.length
  ·obtain⟨i,h1,h2,h3⟩:=ih c
   refine⟨i+1,by rw[iE];omega,h2,fun j hj hl=>?_⟩
   cases j with
   |zero=>omega
   |succ j=>exact h3 j (by omega) (by rw[iE]at hl;omega)
  ·have ht:t=false:=by
    cases t with
    |false=>rfl
    |true=>simp at h;omega
   subst ht
   have bQ:T.countP id=T.length:=by have:=List.countP_le_length (p:=id) (l:=T);omega
   refine⟨0,by simp,rfl,fun j hj hl=>?_⟩
   cases j with
   |zero=>omega
   |succ j=>
    have hl:j<T.length:=by rw[iE]at hl;omega
    have:=List.countP_eq_length.1 bQ _ (cq hl)
    show T.getD j false=true
    rw[bO,bN hl];exact this
theorem AZ{n:Nat}{nx:Int→List Int}{P:List (List Int)}(h:qh n nx P):P.length≤n∧P.flatten.length≤n:=by
 have h1:P.flatten.length≤n:=A1 n _ h.nd fun z hz=>by
  obtain⟨p,hp,hz⟩:=nu.1 hz
  exact h.node p hp z hz
 refine⟨ey ?_ h1,h1⟩
 have:=h.ne
 clear h h1
 induction P with
 |nil=>exact bJ _
 |cons p P ih=>
  have h1:=mK.2 (this p (cF ..))
  have h2:=ih fun q hq=>this q (dy _ hq)
  rw[wP,bG,iE];omega
theorem Ik{n:Nat}{l:List aT}{P:List (List Int)}(h:n9 n l P)(hr:∀e∈l,(0≤e.1∧e.1<(n:Int))∧0≤e.2.1∧e.2.1<(n:Int)){k:Nat}(hk:k<P.length){T:List Bool}{out:List (List Int)}(hO:OI P k T out):
  ∃(b:Nat) (p:List Int),fp P l (bH n P) T P.length=b∧P[b]?=some p∧OI P (k+1) (T.set b true) (out++[p])∧out.flatten.length<n∧∃a:Nat,(List.range n).find? (lp n l out.flatten)=some a∧eJ n l a=p:=by
 obtain⟨i,Gx,z7,hi3⟩:=Vx (T:=T) (by rw[hO.aV,hO.tl];exact hk)
 rw[hO.tl]at Gx hi3
 obtain⟨pi,hpi⟩:∃p,P[i]?=some p:=⟨P[i],bN Gx⟩
 have Sf:mU l (bH n P) T i=true:=by
  unfold mU
  rw[bR,z7,b9]
  refine⟨rfl,?_⟩
  rw[ke]
  refine Ap.2 fun e he=>?_
  obtain⟨q1,q2⟩:=hr e he
  obtain⟨a,pa,ha,CO,wa⟩:=h.idx q1
  obtain⟨b,pb,hb,pY,wb⟩:=h.idx q2
  rw[wa,wb,bR,b9,b9,decide_eq_true_eq,decide_eq_true_eq,ke]
  rintro⟨⟨d1,d2⟩,d3⟩
  obtain⟨j,q,j1,j2,j3⟩:=h.ok.He a pa ha e.1 CO e.2.1 (kD.2 ⟨q2,q1,e,he,rfl,rfl⟩)
  have:=vj h.ok.nd hb j2 pY j3
  rw[hi3 a (by omega) (xd ha)]at d3
  cases d3
 rcases DZ P l (bH n P) T P.length with ⟨_,og⟩ | ⟨b,hb,pZ,Lp,rS⟩
 ·rw[og i Gx]at Sf;cases Sf
 obtain⟨p,hp⟩:∃p,P[b]?=some p:=⟨P[b],bN pZ⟩
 have gm:=dm hp
 obtain⟨uJ,hbF⟩:=(Ov h hr hO hp).1 Lp
 have zX:p ∉ out:=fun hm=>by
  obtain⟨j,hj,p7⟩:=(hO.mem p).1 hm
  obtain⟨z,hz⟩:=List.exists_mem_of_ne_nil _ (h.ok.ne p gm)
  rw[vj h.ok.nd hp p7 hz hz,hj]at uJ;cases uJ
 have S5:∀z∈p,z ∉ out.flatten:=fun z hz hm=>by
  obtain⟨q,hq,KU⟩:=nu.1 hm
  obtain⟨j,hj,p7⟩:=(hO.mem q).1 hq
  rw[vj h.ok.nd hp p7 hz KU,hj]at uJ;cases uJ
 have ck:(out.flatten++p).Nodup:=ml.2 ⟨hO.nd,(h.ok.zM p gm).imp fun h=>by omega,fun x hx y hy e=>S5 y hy (e▸hx)⟩
 have tO:∀z∈out.flatten++p,0≤z∧z<(n:Int):=fun z hz=>by
  rcases bU.1 hz with hz | hz
  ·obtain⟨q,hq,KU⟩:=nu.1 hz
   obtain⟨j,_,p7⟩:=(hO.mem q).1 hq
   exact h.ok.node q (dm p7) z KU
  ·exact h.ok.node p gm z hz
 have hlen:=A1 n _ ck tO
 rw[bG]at hlen
 have qO:=mK.2 (h.ok.ne p gm)
 refine⟨b,p,hb,hp,⟨by rw[List.length_set];exact hO.tl,by rw[List.length_append,hO.ol];rfl,by rw[count_set (by rw[hO.tl];exact pZ) uJ,hO.aV],fun q=>?_,by rw[List.flatten_append];simpa using ck⟩,by omega,?_⟩
 ·rw[bU,bE,hO.mem]
  constructor
  ·rintro (⟨j,hj,p7⟩ | rfl)
   ·exact⟨j,by rw[AQ];split;rfl;exact hj,p7⟩
   ·exact⟨b,by rw[AQ,az ⟨rfl,by rw[hO.tl];exact pZ⟩],hp⟩
  ·rintro⟨j,hj,p7⟩
   rw[AQ]at hj
   by_cases e:b=j
   ·subst e;rw[hp]at p7;exact .inr (Option.some.inj p7).symm
   ·rw[aA (fun h=>e h.1)]at hj
    exact .inl ⟨j,hj,p7⟩
 have Sd:∀{j:Nat} {q:List Int},P[j]?=some q→iv P j∈q∧iv P j=q.headD 0∧∀z∈q,iv P j≤z:=fun {j q} hj=>by
  have bc:=h.ok.ne q (dm hj)
  have hs:=h.ok.zM q (dm hj)
  unfold iv
  rw[tE hj]
  cases q with
  |nil=>exact absurd rfl bc
  |cons z q=>
   refine⟨cF ..,rfl,fun y hy=>?_⟩
   rcases ei.1 hy with rfl | hy
   ·exact dA _
   ·have:=(wQ.1 hs).1 y hy
    show z≤y
    omega
 obtain⟨m1,m2,_⟩:=Sd hp
 have hhn:=h.ok.node p gm _ m1
 refine⟨(iv P b).toNat,Nx (by omega) ?_ fun a' GB=>yl.2 fun hc=>?_,?_⟩
 ·unfold lp
  rw[mL hhn.1,IG h.ok gm m1,hbF,Dm,b9,decide_eq_true_eq,ke]
  exact⟨m2.symm,yl.2 fun hm=>S5 _ m1 (tC.1 hm)⟩
 ·unfold lp at hc
  rw[b9,b9,decide_eq_true_eq,ke]at hc
  obtain⟨⟨c1,c2⟩,c3⟩:=hc
  obtain⟨j,q,hj,hq,_⟩:=h.idx (x:=(a':Int)) (by omega)
  rw[IG h.ok (dm hj) hq]at c1 c3
  obtain⟨_,m4,_⟩:=Sd hj
  have hjT:T.getD j false=false:=yl.2 fun ht=>by
   have:iL out.flatten a'=true:=tC.2 (nu.2 ⟨q,(hO.mem q).2 ⟨j,ht,hj⟩,hq⟩)
   rw[this]at c2;cases c2
  have:=rS j (xd hj) ((Ov h hr hO hj).2 ⟨hjT,c3⟩)
  rw[m4,c1]at this
  omega
 ·rw[mL hhn.1];exact IG h.ok gm m1
theorem EF{n:Nat}{l:List aT}{P:List (List Int)}(h:n9 n l P)(hr:∀e∈l,(0≤e.1∧e.1<(n:Int))∧0≤e.2.1∧e.2.1<(n:Int)):∀k,k≤P.length→OI P k (dG P l (bH n P) k).1 (dG P l (bH n P) k).2∧(k<P.length→∃b:Nat,fp P l (bH n P) (dG P l (bH n P) k).1 P.length=b∧b<P.length)∧∀f,nR n l (k+f) ([],[])=nR n l f ((dG P l (bH n P) k).2,(dG P l (bH n P) k).2.flatten):=by
 intro k
 induction k with
 |zero=>
  intro _
  have og:∀i,¬((List.replicate P.length false).getD i false=true):=fun i h1=>by
   rw[bO,wW]at h1
   split at h1 <;> cases h1
  have h0:OI P 0 (List.replicate P.length false) []:=⟨List.length_replicate,rfl,(by rw[List.countP_eq_zero];intro x hx;rw[List.eq_of_mem_replicate hx];simp),fun q=>⟨fun h=>absurd h (by simp),fun ⟨i,h1,_⟩=>absurd h1 (og i)⟩,List.nodup_nil⟩
  refine⟨h0,fun hk=>?_,fun f=>by rw[dU];rfl⟩
  obtain⟨b,p,hb,hp,_⟩:=Ik h hr hk h0
  exact⟨b,hb,xd hp⟩
 |succ k ih=>
  intro hk
  obtain⟨hO,_,hf⟩:=ih (by omega)
  obtain⟨b,p,hb,hp,wG,ab,a,ha,uK⟩:=Ik h hr (by omega) hO
  have e1:(dG P l (bH n P) (k+1)).1=(dG P l (bH n P) k).1.set b true:=by
   show (dG P l (bH n P) k).1.set (fp P l (bH n P) (dG P l (bH n P) k).1 P.length).toNat true=_
   rw[hb,bR]
  have e2:(dG P l (bH n P) (k+1)).2=(dG P l (bH n P) k).2++[p]:=by
   show (dG P l (bH n P) k).2++[P.getD (fp P l (bH n P) (dG P l (bH n P) k).1 P.length).toNat []]=_
   rw[hb,bR,tE hp]
  rw[e1,e2]
  refine⟨wG,fun cY=>?_,fun f=>?_⟩
  ·obtain⟨b2,p2,wC,dE,_⟩:=Ik h hr cY wG
   exact⟨b2,wC,xd dE⟩
  ·rw[show k+1+f=k+(f+1) by omega,hf]
   show (if _ then _ else _)=_
   rw[az ab,ha]
   show nR n l f (_++[eJ n l a],_++eJ n l a)=_
   rw[uK,List.flatten_append];simp
theorem I7{n:Nat}{l:List aT}{P:List (List Int)}(h:n9 n l P)(hr:∀e∈l,(0≤e.1∧e.1<(n:Int))∧0≤e.2.1∧e.2.1<(n:Int)):(dG P l (bH n P) P.length).2=gC n l:=by
 obtain⟨hO,_,hf⟩:=EF h hr P.length (bJ _)
 have hl:=(AZ h.ok).1
 have hf:=hf (n+1-P.length)
 rw[show P.length+(n+1-P.length)=n+1 by omega]at hf
 unfold gC
 rw[hf]
 obtain⟨f,hfe⟩:∃f,n+1-P.length=f+1:=⟨n-P.length,by omega⟩
 rw[hfe]
 show _=(if _ then _ else _:List (List Int)×List Int).1
 have bQ:∀i,i<P.length→(dG P l (bH n P) P.length).1.getD i false=true:=fun i hi=>by
  have hc:(dG P l (bH n P) P.length).1.countP id=(dG P l (bH n P) P.length).1.length:=by rw[hO.aV,hO.tl]
  have:=List.countP_eq_length.1 hc _ (cq (n:=i) (by rw[hO.tl];exact hi))
  rw[bO,bN (by rw[hO.tl];exact hi)];exact this
 have l0:∀x∈(List.range n).map (fun i:Nat=>(i:Int)),x∈(dG P l (bH n P) P.length).2.flatten:=fun x hx=>by
  obtain⟨i,hi,rfl⟩:=fi.1 hx
  have hi:=gq.1 hi
  obtain⟨j,p,hj,hp,_⟩:=h.idx (x:=(i:Int)) (by omega)
  exact nu.2 ⟨p,(hO.mem p).2 ⟨j,bQ j (xd hj),hj⟩,hp⟩
 have aq:=Ie (l:=(List.range n).map (fun i:Nat=>(i:Int))) (by rw[List.nodup_iff_pairwise_ne,Aq];exact LW.imp fun h=>by omega) l0
 rw[cm,kx]at aq
 rw[aA (by show ¬((dG P l (bH n P) P.length).2.flatten.length<n);omega)]
end Go.Proofs.YtnikdflhefijbaaGreat
