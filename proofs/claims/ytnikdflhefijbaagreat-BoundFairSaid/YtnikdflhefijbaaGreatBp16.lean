import Derived.Test.YtnikdflhefijbaaGreatBp14
import Derived.Test.YtnikdflhefijbaaGreatBp15
import Derived.Test.YtnikdflhefijbaaGreatBp7
import Derived.Test.YtnikdflhefijbaaGreatBp9
import Derived.Test.YtnikdflhefijbaaGreatBp10
namespace Go.Proofs.YtnikdflhefijbaaGreat
open Go.RowKit
set_option maxRecDepth 100000
def l5(nx:Int→List Int)(seen:List Int):Nat→Nat
 | 0=>0
 |n+1=>l5 nx seen n+if (n:Int)∈seen then 0 else (nx n).length+2
theorem Gu{nx:Int→List Int}{seen:List Int}{b:Nat}(hb:(b:Int) ∉ seen):∀n,l5 nx (seen++[(b:Int)]) n+(if b<n then (nx b).length+2 else 0)=l5 nx seen n
 | 0=>rfl
 |n+1=>by
  have ih:=Gu (nx:=nx) hb n
  unfold l5
  by_cases h:b=n
  ·subst h
   rw[ah (JJ _)]at ih
   rw[if_pos (by simp),if_neg hb,if_pos (Nat.lt_succ_self _)]
   omega
  ·have h1:((n:Int)∈seen++[(b:Int)])↔(n:Int)∈seen:=by
    rw[bP,a8]
    exact⟨fun h'=>h'.elim id fun e=>absurd (Int.ofNat.inj e).symm h,.inl⟩
   by_cases h2:(n:Int)∈seen
   ·rw[ag (h1.2 h2),ag h2]
    by_cases h3:b<n
    ·rw[ag h3]at ih;rw[ag (by omega)];omega
    ·rw[ah h3]at ih;rw[ah (by omega)];omega
   ·rw[ah (fun h'=>h2 (h1.1 h')),ah h2]
    by_cases h3:b<n
    ·rw[ag h3]at ih;rw[ag (by omega)];omega
    ·rw[ah h3]at ih;rw[ah (by omega)];omega
def ei(nx:Int→List Int):List (Int×Nat)→Nat
 | []=>0
 |t::w=>ei nx w+((nx t.1).length-t.2)+1
def sI(n:Nat)(met:List Bool)(seen:List Int):Prop:=met.length=n∧∀u:Nat,u<n→met.getD u false=decide ((u:Int)∈seen)
theorem sI.at_{n:Nat}{met:List Bool}{seen:List Int}(h:sI n met seen){a:Int}(ha:0≤a∧a<n):met.getD a.toNat false=decide (a∈seen):=by
 have:=h.2 a.toNat (by omega)
 rw[lT ha.1]at this
 exact this
theorem sI.set{n:Nat}{met:List Bool}{seen:List Int}(h:sI n met seen){a:Int}(ha:0≤a∧a<n):sI n (met.set a.toNat true) (seen++[a]):=by
 refine⟨by rw[ck];exact h.1,fun u hu=>?_⟩
 rw[aR,dY]
 by_cases e:a.toNat=u
 ·subst e
  rw[ag rfl,ag (by rw[h.1];omega),lT ha.1]
  simp
 ·rw[ah e,← aR,h.2 u hu]
  have e2:¬(u:Int)=a:=fun e'=>e (by omega)
  simp[e2]
structure jW(n:Nat)(nx:Int→List Int)(F:List Int)(met:List Bool)(seen out:List Int)(gQ:List (Int×Nat)):Prop where
 nH:sI n met seen
 nd:seen.Nodup
 rg:∀x∈seen,0≤x∧x<(n:Int)
 len:out.length+gQ.length=seen.length
 wy:∀t∈gQ,(0≤t.1∧t.1<(n:Int))∧t.2≤(nx t.1).length
 tell:F=out++lF n nx gQ seen
 mem:∀x,x∈seen↔x∈out++gQ.map Prod.fst
 od:(out++gQ.map Prod.fst).Nodup
theorem GJ:∀(n:Nat) (l:List Int),l.Nodup→(∀z∈l,0≤z∧z<(n:Int))→l.length≤n
 | 0,l,_,h=>by
  cases l with
  |nil=>exact aM _
  |cons z l=>have:=h z (bV ..);omega
 |n+1,l,hn,h=>by
  have h1:=GJ n (l.erase (n:Int)) (hn.erase _) (fun z hz=>by
   rw[hn.mem_erase_iff]at hz
   have:=h z hz.2
   have:=hz.1
   omega)
  have h2:=List.length_erase (a:=(n:Int)) (l:=l)
  split at h2 <;> omega
theorem jW.small{n:Nat}{nx:Int→List Int}{F:List Int}{met:List Bool}{seen out:List Int}{gQ:List (Int×Nat)}(h:jW n nx F met seen out gQ):out.length+gQ.length≤n:=by
 rw[h.len];exact GJ n seen h.nd h.rg
theorem jW.skip{n:Nat}{nx:Int→List Int}{F:List Int}{met:List Bool}{seen out:List Int}{v:Int}{k:Nat}{w:List (Int×Nat)}(h:jW n nx F met seen out ((v,k)::w))(hk:k<(nx v).length)(hb:(nx v)[k]∈seen):jW n nx F met seen out ((v,k+1)::w):=
 ⟨h.nH,h.nd,h.rg,h.len,fun t ht=>by
  rcases da.1 ht with rfl | ht
  ·exact⟨(h.wy (v,k) (bV ..)).1,hk⟩
  ·exact h.wy t (cE _ ht),by rw[h.tell,abt hk hb],h.mem,h.od⟩
theorem jW.push{n:Nat}{nx:Int→List Int}(cy:∀x,∀y∈nx x,0≤y∧y<(n:Int)){F:List Int}{met:List Bool}{seen out:List Int}{v:Int}{k:Nat}{w:List (Int×Nat)}(h:jW n nx F met seen out ((v,k)::w))(hk:k<(nx v).length)(hb:(nx v)[k] ∉ seen):jW n nx F (met.set (nx v)[k].toNat true) (seen++[(nx v)[k]]) out (((nx v)[k],0)::(v,k+1)::w):=by
 have hr:=cy v _ (cD hk)
 refine⟨h.nH.set hr,List.nodup_append.2 ⟨h.nd,by simp,fun a ha b yn e=>?_⟩,fun x hx=>?_,?_,fun t ht=>?_,by rw[h.tell,abu cy hk hb],fun x=>?_,?_⟩
 ·rw[a8.1 yn]at e
  exact hb (e▸ha)
 ·rcases bP.1 hx with hx | hx
  ·exact h.rg x hx
  ·rw[a8.1 hx];exact hr
 ·have:=h.len
  rw[bG]
  show out.length+(w.length+1+1)=seen.length+1
  have this:out.length+(w.length+1)=seen.length:=this
  omega
 ·rcases da.1 ht with rfl | ht
  ·exact⟨hr,bK _⟩
  ·rcases da.1 ht with rfl | ht
   ·exact⟨(h.wy (v,k) (bV ..)).1,hk⟩
   ·exact h.wy t (cE _ ht)
 ·rw[bP,h.mem,bP,bP,a8]
  show _↔_∨x∈(nx v)[k]::v::w.map Prod.fst
  rw[da (a:=x)]
  exact⟨fun h'=>h'.elim (fun h'=>h'.elim .inl fun h'=>.inr (.inr h')) fun h'=>.inr (.inl h'),fun h'=>h'.elim (fun h'=>.inl (.inl h')) fun h'=>h'.elim .inr fun h'=>.inl (.inr h')⟩
 ·have hp:(out++(nx v)[k]::v::w.map Prod.fst).Perm ((nx v)[k]::(out++v::w.map Prod.fst)):=nU
  exact hp.nodup_iff.2 (lp.2 ⟨fun hm=>hb ((h.mem _).2 hm),h.od⟩)
theorem jW.pop{n:Nat}{nx:Int→List Int}{F:List Int}{met:List Bool}{seen out:List Int}{v:Int}{k:Nat}{w:List (Int×Nat)}(h:jW n nx F met seen out ((v,k)::w))(hk:(nx v).length≤k):jW n nx F met seen (out++[v]) w:=by
 refine⟨h.nH,h.nd,h.rg,?_,fun t ht=>h.wy t (cE _ ht),by rw[h.tell,adE hk,dN];rfl,fun x=>by rw[h.mem,dN];rfl,by rw[dN];exact h.od⟩
 have:=h.len
 rw[bG]
 have this:out.length+(w.length+1)=seen.length:=this
 show out.length+1+w.length=_
 omega
theorem jW.top{n:Nat}{nx:Int→List Int}{met:List Bool}{out:List Int}(hm:sI n met out)(hn:out.Nodup)(hr:∀x∈out,0≤x∧x<(n:Int)){a:Int}(ha:0≤a∧a<(n:Int))(h:a ∉ out):jW n nx (out++gO nx (n+1) a out) (met.set a.toNat true) (out++[a]) out [(a,0)]:=by
 refine⟨hm.set ha,List.nodup_append.2 ⟨hn,by simp,fun x hx b yn e=>?_⟩,fun x hx=>?_,by rw[List.length_append];rfl,fun t ht=>by rw[List.mem_singleton.1 ht];exact⟨ha,Nat.zero_le _⟩,by rw[adD h],fun _=>Iff.rfl,?_⟩
 ·rw[a8.1 yn]at e
  exact h (e▸hx)
 ·rcases bP.1 hx with hx | hx
  ·exact hr x hx
  ·rw[a8.1 hx];exact ha
 ·refine List.nodup_append.2 ⟨hn,by simp,fun x hx b yn e=>?_⟩
  rw[a8.1 (show b∈[a] from yn)]at e
  exact h (e▸hx)
theorem jW.done{n:Nat}{nx:Int→List Int}{F:List Int}{met:List Bool}{seen out:List Int}(h:jW n nx F met seen out []):F=out∧sI n met F∧F.Nodup∧∀x∈F,0≤x∧x<(n:Int):=by
 have e:F=out:=by rw[h.tell];unfold lF;exact mX _
 have hm:∀x,x∈seen↔x∈out:=fun x=>by have:=h.mem x;rwa [show out++List.map Prod.fst []=out from mX _]at this
 have ho:=h.od
 rw[show out++List.map Prod.fst []=out from mX _]at ho
 subst e
 exact⟨rfl,⟨h.nH.1,fun u hu=>(h.nH.2 u hu).trans (by rw[decide_eq_decide];exact hm _)⟩,ho,fun x hx=>h.rg x ((hm x).2 hx)⟩
set_option maxHeartbeats 8000000
theorem XL{P:Program}{TT:TypeId→Option TI}{fn:Go.Func}{a c:Go.Code}{xs:List AV}{σ:Hp}{R:AV→Hp→Prop}{S:Type}(hb:fn.body=some (.seq a (.scope c)))(fX:S→Nat)(L:S→List (Nat×AV))(H:S→Hp)(p:S→Prop)(μ:S→Nat)
  (hr:DL (mG P TT 998) c fX L H p μ (vO TT fn.results.toList R))
  (h:DL (mG P TT 998) c fX L H p μ (vO TT fn.results.toList R)→codeF P TT (mG P TT 999) (.seq a (.scope c)) (t0 xs) σ (vO TT fn.results.toList R)):vP P TT fn xs σ R:=by
 have h1:mG P TT 1000 (.seq a (.scope c)) (t0 xs) σ (vO TT fn.results.toList R):=h hr
 unfold vP
 rw[hb]
 exact h1
abbrev PI:=(Bool×Int×List Bool×List Int)×(List (Int×Nat)×Int×Nat)×(Nat×List AV)×(AV×Hp×List Int)
def VsP(n:Nat)(nx:Int→List Int)(F:List Int)(x:PI):Prop:=match x.1.1 with
 |true=>jW n nx F (x.1.2.2.1.set x.1.2.1.toNat true) (x.1.2.2.2++[x.1.2.1]) x.2.2.2.2.2 ((x.1.2.1,0)::(x.2.1.2.1,x.2.1.2.2)::x.2.1.1.reverse)∧x.1.2.2.1.length=n∧0≤x.1.2.1∧x.1.2.1<n
 |false=>jW n nx F x.1.2.2.1 x.1.2.2.2 x.2.2.2.2.2 ((x.2.1.2.1,x.2.1.2.2)::x.2.1.1.reverse)
def VsM(n:Nat)(nx:Int→List Int)(x:PI):Nat:=match x.1.1 with
 |true=>ei nx ((x.1.2.1,0)::(x.2.1.2.1,x.2.1.2.2)::x.2.1.1.reverse)+l5 nx (x.1.2.2.2++[x.1.2.1]) n+1
 |false=>ei nx ((x.2.1.2.1,x.2.1.2.2)::x.2.1.1.reverse)+l5 nx x.1.2.2.2 n
theorem aeE(n:Nat)(l:List bg)(a:Int)(met:List Bool)(out:List Int)(bm:Nat)(vo:AV)(v8 σ:Hp)(_hl:l.length≤100000)(hn:n≤1000)(ha:0≤a∧a<n)(hm:sI n met out)(bZ:out.Nodup)(zS:∀x∈out,0≤x∧x<(n:Int))(hO:Acc 1 out.length vo v8 (ak out)):
  ACalls Tryz.prog 311 [.ai (.slice (.int .i64)) (bY n l),.ae bm 0 n 1,.int .i64 a,.via vo] ((bm,bE met)::(v8++σ))
   (fun r σ'=>∃rI kT rL rD,kT=out++gO (ar n l) (n+1) a out∧sI n rI kT∧kT.Nodup∧(∀x∈kT,0≤x∧x<(n:Int))∧Acc 1 kT.length rL rD (ak kT)∧r=rL∧σ'=(bm,bE rI)::(rD++σ)):=by
 have cy:∀x,∀y∈ar n l x,0≤y∧y<(n:Int):=fun x y hy=>(lu.1 hy).1
 obtain⟨F,hF⟩:∃F,out++gO (ar n l) (n+1) a out=F:=⟨_,rfl⟩
 refine aA Tryz.func311 ?_
 refine XL (S:=PI) rfl (fun x=>match x.1.1 with | true=>0 | false=>1)
  (fun x=>[(0,.ai (.slice (.int .i64)) (bY n l)),(1,.ae bm 0 n 1),(2,.int .i64 x.1.2.1),(3,.via x.2.2.2.1),(9,.ae x.2.2.1.1 0 (x.2.1.1.length+1) 2)])
  (fun x=>(bm,bE x.1.2.2.1)::(x.2.2.1.1,bC (x.2.1.1++[(x.2.1.2.1,x.2.1.2.2)])++x.2.2.1.2)::(x.2.2.2.2.1++σ))
  (fun x=>VsP n (ar n l) F x∧Acc 1 x.2.2.2.2.2.length x.2.2.2.1 x.2.2.2.2.1 (ak x.2.2.2.2.2))
  (fun x=>VsM n (ar n l) x) ?_ ?_
 ·rintro⟨⟨f,b,ny,iE⟩,⟨wy,v,k⟩,⟨bw,J⟩,⟨EL,F9,kS⟩⟩ g ⟨hP,yu⟩
  have yu:Acc 1 kS.length EL F9 (ak kS):=yu
  cases f with
  |true=>
   obtain⟨hV,NL,k9,p7⟩:=hP
   have hV:jW n (ar n l) F (ny.set b.toNat true) (iE++[b]) kS ((b,0)::(v,k)::wy.reverse):=hV
   have NL:ny.length=n:=NL
   have k9:0≤b:=k9
   have p7:b<n:=p7
   have sR:(bC (wy++[(v,k)])).length=(wy.length+1)*2:=by rw[mu,bG];rfl
   have ahC:=hV.small
   rw[fO,fO,tb]at ahC
   refine aK ?_
   refine cU 0 rfl (yV rfl true k9 (by omega)) ?_
   intro aG
   refine yM (k:=wy.length+1) (n:=1) [_,_] (.ae bw (wy.length+1) (bC (wy++[(v,k)])) J sR) (.ae 0 aG 0 1 _ rfl (cT rfl)) rfl (by omega) (by decide) (by decide) (fun v' bN h'=>?_)
   obtain⟨o0,J2,rfl,rfl,_⟩:=h'.pos (by omega)
   have Ib:(wy++[(v,k)]).reverse=(v,k)::wy.reverse:=by rw[List.reverse_append];rfl
   have qK:bC (wy++[(v,k)])++[AV.int .i64 b,.int .i64 ((0:Nat):Int)]++J2=bC ((wy++[(v,k)])++[(b,0)])++J2:=by rw[o8 (wy++[(v,k)]) [(b,0)]];rfl
   have tS:(wy++[(v,k)]).length=wy.length+1:=by rw[bG];rfl
   rw[← Ib]at hV
   have xV:=hV.wy (b,0) (bV ..)
   have cX:0≤b∧b<(n:Int):=xV.1
   have BT:0≤(ar n l b).length:=xV.2
   have mi:=yO n l b
   have qM:=hV.small
   rw[fO,tb,tS]at qM
   have rS:((ny.set b.toNat true)).length=n:=hV.nH.1
   have nB:IntKind.i64.wrap ((((wy.length+1)+1:Nat):Int)-1)=(((wy.length+1):Nat):Int):=by rw[dh (by omega)];omega
   have hX:0+(IntKind.i64.wrap ((((wy.length+1)+1:Nat):Int)-1)).toNat*2=((wy++[(v,k)])).length*2:=by rw[nB,tS];omega
   have mP:dP ⟨.int .i64,1,8,[.int .i64 0]⟩ (bC (wy++[(v,k)])++[AV.int .i64 b,.int .i64 ((0:Nat):Int)]++J2) (0+(IntKind.i64.wrap ((((wy.length+1)+1:Nat):Int)-1)).toNat*2+0)=some (.int .i64 b):=by rw[qK];exact iY rfl (by rw[hX];exact sj rfl)
   have lO:dP ⟨.int .i64,1,8,[.int .i64 0]⟩ (bC (wy++[(v,k)])++[AV.int .i64 b,.int .i64 ((0:Nat):Int)]++J2) (0+(IntKind.i64.wrap ((((wy.length+1)+1:Nat):Int)-1)).toNat*2+1)=some (.int .i64 ((0:Nat):Int)):=by rw[qK];exact iY rfl (by rw[hX];exact CJ rfl)
   have ey:(bC ((wy++[(v,k)])++[(b,0)])++J2).length=((wy++[(v,k)])).length*2+2+(J2:List AV).length:=by rw[bG,mu,bG];show (_+1)*2+_=_;omega
   have kF:IntKind.i64.wrap (((0:Nat):Int)+1)=((0+1:Nat):Int):=by rw[dh (by omega)];omega
   have wE:kn ⟨.int .i64,1,8,[.int .i64 0]⟩ (bC (wy++[(v,k)])++[AV.int .i64 b,.int .i64 ((0:Nat):Int)]++J2) (0+(IntKind.i64.wrap ((((wy.length+1)+1:Nat):Int)-1)).toNat*2+1) (.int .i64 (IntKind.i64.wrap (((0:Nat):Int)+1)))=some (bC ((wy++[(v,k)])++[(b,0+1)])++J2):=by
    rw[qK,tD rfl rfl (by rw[hX,ey];omega),hX,kF,CX rfl]
   have vK:2=2∧0≤IntKind.i64.wrap ((((wy.length+1)+1:Nat):Int)-1)∧IntKind.i64.wrap ((((wy.length+1)+1:Nat):Int)-1)<(((wy.length+1)+1:Nat):Int):=⟨rfl,by omega,by omega⟩
   refine aH.mk vK ?_
   refine .quiet (by kernel_rfl) ?_
   refine aT 2 rfl lO ?_
   refine aT 2 rfl mP ?_
   refine aH.mk rfl ?_
   refine cg.mk (ar n l b) (by omega) (pq cX) ?_
   refine aq (p:=((0:Nat):Int)<(ar n l b).length) (fun ab=>?_) (fun ay=>?_)
   ·have ab:0<(ar n l b).length:=by omega
    obtain⟨z,hz⟩:∃z,(ar n l b)[0]=z:=⟨_,rfl⟩
    have EW:z∈ar n l b:=hz▸cD ab
    have gT:=(lu.1 EW).1
    refine .quiet (by kernel_rfl) ?_
    refine aT 2 rfl mP ?_
    refine aH.mk rfl ?_
    refine cg.mk (ar n l b) (by omega) (pq cX) ?_
    refine aT 2 rfl lO ?_
    refine aH.mk rfl ?_
    refine cg.mk z (by omega) ((get_some ab).trans (congrArg some hz)) ?_
    refine aT 2 rfl lO ?_
    refine cU 2 rfl wE ?_
    refine aK ?_
    refine eO.kz 1 _ _ rfl (tw rfl gT.1 (by rw[rS];omega)) (fun c2=>?_) (fun c2=>?_)
    ·have jB:z∈(iE++[b]):=by rw[hV.nH.at_ gT]at c2;exact fP c2
     have hS:=hV.skip ab (by rw[hz];exact jB)
     have kH:ei (ar n l) ((b,0+1)::((wy++[(v,k)])).reverse)+1=ei (ar n l) ((b,0)::((wy++[(v,k)])).reverse):=by show ei (ar n l) ((wy++[(v,k)])).reverse+((ar n l b).length-(0+1))+1+1=ei (ar n l) ((wy++[(v,k)])).reverse+((ar n l b).length-0)+1;omega
     exact .mk ((false,z,(ny.set b.toNat true),(iE++[b])),((wy++[(v,k)]),b,0+1),(o0,J2),(EL,F9,kS)) rfl (by show ei (ar n l) ((b,0+1)::((wy++[(v,k)])).reverse)+l5 (ar n l) ((iE++[b])) n<_;(show _<ei (ar n l) ((b,0)::(v,k)::wy.reverse)+l5 (ar n l) (iE++[b]) n+1);rw[← Ib];omega) ⟨hS,yu⟩ ⟨rfl,rfl,rfl,rfl,by rw[tS];rfl,trivial⟩ (.drop 0 1 (.refl _))
    ·have jB:z ∉ (iE++[b]):=by rw[hV.nH.at_ gT]at c2;exact sd c2
     have hS:=hV.push cy ab (by rw[hz];exact jB)
     rw[hz]at hS
     have kH:ei (ar n l) ((z,0)::(b,0+1)::((wy++[(v,k)])).reverse)=ei (ar n l) ((b,0)::((wy++[(v,k)])).reverse)+(ar n l z).length:=by show ei (ar n l) ((wy++[(v,k)])).reverse+((ar n l b).length-(0+1))+1+((ar n l z).length-0)+1=ei (ar n l) ((wy++[(v,k)])).reverse+((ar n l b).length-0)+1+(ar n l z).length;omega
     have mT:=Gu (nx:=ar n l) (seen:=(iE++[b])) (b:=z.toNat) (by rw[lT gT.1];exact jB) n
     rw[ag (by omega),lT gT.1]at mT
     exact .mk ((true,z,(ny.set b.toNat true),(iE++[b])),((wy++[(v,k)]),b,0+1),(o0,J2),(EL,F9,kS)) rfl (by show ei (ar n l) ((z,0)::(b,0+1)::((wy++[(v,k)])).reverse)+l5 (ar n l) (((iE++[b]))++[z]) n+1<_;(show _<ei (ar n l) ((b,0)::(v,k)::wy.reverse)+l5 (ar n l) (iE++[b]) n+1);rw[← Ib];omega) ⟨⟨hS,rS,gT.1,gT.2⟩,yu⟩ ⟨rfl,rfl,rfl,rfl,by rw[tS];rfl,trivial⟩ (.drop 0 1 (.refl _))
   ·have ay:(ar n l b).length≤0:=by omega
    have hS:=hV.pop ay
    refine aT 2 rfl mP ?_
    intro bs
    refine my (k:=(kS).length) (n:=1) [_,_,_,_] yu (.ae 0 bs 0 1 _ rfl (cT rfl)) rfl (by omega) (by decide) (by decide) (fun qF mY yr=>?_)
    have yq:Acc 1 ((kS)++[b]).length qF mY (ak ((kS)++[b])):=by
     rw[List.length_append,show ak ((kS)++[b])=ak (kS)++[.int .i64 b] by simp[ak]];exact yr
    have qq:(IntKind.i64.wrap ((((wy.length+1)+1:Nat):Int)-1)).toNat-Int.toNat 0=(wy.length+1):=by rw[nB];omega
    have cH:0≤(0:Int)∧(0:Int)≤IntKind.i64.wrap ((((wy.length+1)+1:Nat):Int)-1)∧IntKind.i64.wrap ((((wy.length+1)+1:Nat):Int)-1)≤(((wy.length+1)+1:Nat):Int)∧2=2:=⟨by omega,by omega,by omega,rfl⟩
    refine aH.mk cH ?_
    have jd:(IntKind.i64.wrap ((((wy.length+1)+1:Nat):Int)-1)).toNat-Int.toNat 0=(wy).length+1:=qq.trans (rfl)
    have kr:AV.ae o0 (0+Int.toNat 0*2) ((IntKind.i64.wrap ((((wy.length+1)+1:Nat):Int)-1)).toNat-Int.toNat 0) 2=.ae o0 0 ((wy).length+1) 2:=by rw[jd];rfl
    have oF:bC (wy++[(v,k)])++[AV.int .i64 b,.int .i64 ((0:Nat):Int)]++J2=bC (wy++[(v,k)])++([.int .i64 b,.int .i64 ((0:Nat):Int)]++J2):=by rw[qK,o8,dN];rfl
    rw[Ib]at hS
    refine aq (p:=(0:Int)<(((IntKind.i64.wrap ((((wy.length+1)+1:Nat):Int)-1)).toNat-Int.toNat 0:Nat):Int)) (fun c3=>?_) (fun c3=>?_)
    rotate_left
    ·rw[jd]at c3;omega
    have kH:ei (ar n l) ((v,k)::(wy).reverse)+1≤ei (ar n l) ((b,0)::(v,k)::(wy).reverse):=by show _≤ei (ar n l) ((v,k)::(wy).reverse)+((ar n l b).length-0)+1;omega
    have hE:(bm,bE (ny.set b.toNat true))::(o0,bC (wy++[(v,k)])++[AV.int .i64 b,.int .i64 ((0:Nat):Int)]++J2)::(mY++σ)=(bm,bE (ny.set b.toNat true))::(o0,bC (wy++[(v,k)])++([.int .i64 b,.int .i64 ((0:Nat):Int)]++J2))::(mY++σ):=by rw[oF]
    exact .mk ((false,b,(ny.set b.toNat true),(iE++[b])),(wy,v,k),(o0,[AV.int .i64 b,.int .i64 ((0:Nat):Int)]++J2),(qF,mY,(kS)++[b])) rfl (by show ei (ar n l) ((v,k)::(wy).reverse)+l5 (ar n l) ((iE++[b])) n<_;(show _<ei (ar n l) ((b,0)::(v,k)::wy.reverse)+l5 (ar n l) (iE++[b]) n+1);omega) ⟨hS,yq⟩ ⟨rfl,rfl,rfl,rfl,kr,trivial⟩ (.drop 0 2 (aJ hE))
  |false=>
   have hV:jW n (ar n l) F ny iE kS ((v,k)::wy.reverse):=hP
   have tS:wy.length=wy.length:=rfl
   have qK:bC (wy++[(v,k)])++J=bC (wy++[(v,k)])++J:=rfl
   have xV:=hV.wy (v,k) (bV ..)
   have cX:0≤v∧v<(n:Int):=xV.1
   have BT:k≤(ar n l v).length:=xV.2
   have mi:=yO n l v
   have qM:=hV.small
   rw[fO,tb,tS]at qM
   have rS:(ny).length=n:=hV.nH.1
   have nB:IntKind.i64.wrap (((wy.length+1:Nat):Int)-1)=((wy.length:Nat):Int):=by rw[dh (by omega)];omega
   have hX:0+(IntKind.i64.wrap (((wy.length+1:Nat):Int)-1)).toNat*2=(wy).length*2:=by rw[nB,tS];omega
   have mP:dP ⟨.int .i64,1,8,[.int .i64 0]⟩ (bC (wy++[(v,k)])++J) (0+(IntKind.i64.wrap (((wy.length+1:Nat):Int)-1)).toNat*2+0)=some (.int .i64 v):=by rw[qK];exact iY rfl (by rw[hX];exact sj rfl)
   have lO:dP ⟨.int .i64,1,8,[.int .i64 0]⟩ (bC (wy++[(v,k)])++J) (0+(IntKind.i64.wrap (((wy.length+1:Nat):Int)-1)).toNat*2+1)=some (.int .i64 ((k:Nat):Int)):=by rw[qK];exact iY rfl (by rw[hX];exact CJ rfl)
   have ey:(bC (wy++[(v,k)])++J).length=(wy).length*2+2+(J:List AV).length:=by rw[bG,mu,bG];show (_+1)*2+_=_;omega
   have kF:IntKind.i64.wrap (((k:Nat):Int)+1)=((k+1:Nat):Int):=by rw[dh (by omega)];omega
   have wE:kn ⟨.int .i64,1,8,[.int .i64 0]⟩ (bC (wy++[(v,k)])++J) (0+(IntKind.i64.wrap (((wy.length+1:Nat):Int)-1)).toNat*2+1) (.int .i64 (IntKind.i64.wrap (((k:Nat):Int)+1)))=some (bC (wy++[(v,k+1)])++J):=by
    rw[qK,tD rfl rfl (by rw[hX,ey];omega),hX,kF,CX rfl]
   have vK:2=2∧0≤IntKind.i64.wrap (((wy.length+1:Nat):Int)-1)∧IntKind.i64.wrap (((wy.length+1:Nat):Int)-1)<((wy.length+1:Nat):Int):=⟨rfl,by omega,by omega⟩
   refine aH.mk vK ?_
   refine .quiet (by kernel_rfl) ?_
   refine aT 1 rfl lO ?_
   refine aT 1 rfl mP ?_
   refine aH.mk rfl ?_
   refine cg.mk (ar n l v) (by omega) (pq cX) ?_
   refine aq (p:=((k:Nat):Int)<(ar n l v).length) (fun ab=>?_) (fun ay=>?_)
   ·have ab:k<(ar n l v).length:=by omega
    obtain⟨z,hz⟩:∃z,(ar n l v)[k]=z:=⟨_,rfl⟩
    have EW:z∈ar n l v:=hz▸cD ab
    have gT:=(lu.1 EW).1
    refine .quiet (by kernel_rfl) ?_
    refine aT 1 rfl mP ?_
    refine aH.mk rfl ?_
    refine cg.mk (ar n l v) (by omega) (pq cX) ?_
    refine aT 1 rfl lO ?_
    refine aH.mk rfl ?_
    refine cg.mk z (by omega) ((get_some ab).trans (congrArg some hz)) ?_
    refine aT 1 rfl lO ?_
    refine cU 1 rfl wE ?_
    refine aK ?_
    refine eO.kz 0 _ _ rfl (tw rfl gT.1 (by rw[rS];omega)) (fun c2=>?_) (fun c2=>?_)
    ·have jB:z∈iE:=by rw[hV.nH.at_ gT]at c2;exact fP c2
     have hS:=hV.skip ab (by rw[hz];exact jB)
     have kH:ei (ar n l) ((v,k+1)::(wy).reverse)+1=ei (ar n l) ((v,k)::(wy).reverse):=by show ei (ar n l) (wy).reverse+((ar n l v).length-(k+1))+1+1=ei (ar n l) (wy).reverse+((ar n l v).length-k)+1;omega
     exact .mk ((false,z,ny,iE),(wy,v,k+1),(bw,J),(EL,F9,kS)) rfl (by show ei (ar n l) ((v,k+1)::(wy).reverse)+l5 (ar n l) (iE) n<_;(show _<ei (ar n l) ((v,k)::wy.reverse)+l5 (ar n l) iE n);omega) ⟨hS,yu⟩ ⟨rfl,rfl,rfl,rfl,rfl,trivial⟩ (.refl _)
    ·have jB:z ∉ iE:=by rw[hV.nH.at_ gT]at c2;exact sd c2
     have hS:=hV.push cy ab (by rw[hz];exact jB)
     rw[hz]at hS
     have kH:ei (ar n l) ((z,0)::(v,k+1)::(wy).reverse)=ei (ar n l) ((v,k)::(wy).reverse)+(ar n l z).length:=by show ei (ar n l) (wy).reverse+((ar n l v).length-(k+1))+1+((ar n l z).length-0)+1=ei (ar n l) (wy).reverse+((ar n l v).length-k)+1+(ar n l z).length;omega
     have mT:=Gu (nx:=ar n l) (seen:=iE) (b:=z.toNat) (by rw[lT gT.1];exact jB) n
     rw[ag (by omega),lT gT.1]at mT
     exact .mk ((true,z,ny,iE),(wy,v,k+1),(bw,J),(EL,F9,kS)) rfl (by show ei (ar n l) ((z,0)::(v,k+1)::(wy).reverse)+l5 (ar n l) ((iE)++[z]) n+1<_;(show _<ei (ar n l) ((v,k)::wy.reverse)+l5 (ar n l) iE n);omega) ⟨⟨hS,rS,gT.1,gT.2⟩,yu⟩ ⟨rfl,rfl,rfl,rfl,rfl,trivial⟩ (.refl _)
   ·have ay:(ar n l v).length≤k:=by omega
    have hS:=hV.pop ay
    refine aT 1 rfl mP ?_
    intro bs
    refine my (k:=(kS).length) (n:=1) [_,_,_] yu (.ae 0 bs 0 1 _ rfl (cT rfl)) rfl (by omega) (by decide) (by decide) (fun qF mY yr=>?_)
    have yq:Acc 1 ((kS)++[v]).length qF mY (ak ((kS)++[v])):=by
     rw[List.length_append,show ak ((kS)++[v])=ak (kS)++[.int .i64 v] by simp[ak]];exact yr
    have qq:(IntKind.i64.wrap (((wy.length+1:Nat):Int)-1)).toNat-Int.toNat 0=wy.length:=by rw[nB];omega
    have cH:0≤(0:Int)∧(0:Int)≤IntKind.i64.wrap (((wy.length+1:Nat):Int)-1)∧IntKind.i64.wrap (((wy.length+1:Nat):Int)-1)≤((wy.length+1:Nat):Int)∧2=2:=⟨by omega,by omega,by omega,rfl⟩
    refine aH.mk cH ?_
    rcases FT wy with yf | ⟨w',⟨u,i⟩,yf⟩
    ·rw[show wy.reverse=[] by rw[yf];rfl]at hS
     refine aq (p:=(0:Int)<(((IntKind.i64.wrap (((wy.length+1:Nat):Int)-1)).toNat-Int.toNat 0:Nat):Int)) (fun c3=>?_) (fun c3=>?_)
     ·rw[qq]at c3;exact absurd c3 (by rw[yf];decide)
     ·obtain⟨e1,e2,e3,e4⟩:=jW.done hS
      rw[← e1]at yq
      exact .drop 0 1 (.drop 1 1 (.done ⟨ny,F,qF,mY,hF.symm,e2,e3,e4,yq,rfl,rfl⟩))
    ·have yf:wy=w'++[(u,i)]:=by simpa using yf
     have WD:(wy).reverse=(u,i)::w'.reverse:=by rw[yf,List.reverse_append];rfl
     have jd:(IntKind.i64.wrap (((wy.length+1:Nat):Int)-1)).toNat-Int.toNat 0=(w').length+1:=qq.trans (by rw[yf,bG];rfl)
     have kr:AV.ae bw (0+Int.toNat 0*2) ((IntKind.i64.wrap (((wy.length+1:Nat):Int)-1)).toNat-Int.toNat 0) 2=.ae bw 0 ((w').length+1) 2:=by rw[jd];rfl
     have oF:bC (wy++[(v,k)])++J=bC (w'++[(u,i)])++([.int .i64 v,.int .i64 ((k:Nat):Int)]++J):=by rw[qK,yf,o8,dN];rfl
     rw[WD]at hS
     refine aq (p:=(0:Int)<(((IntKind.i64.wrap (((wy.length+1:Nat):Int)-1)).toNat-Int.toNat 0:Nat):Int)) (fun c3=>?_) (fun c3=>?_)
     rotate_left
     ·rw[jd]at c3;omega
     have kH:ei (ar n l) ((u,i)::(w').reverse)+1≤ei (ar n l) ((v,k)::(wy).reverse):=by rw[← WD];show _≤ei (ar n l) (wy).reverse+((ar n l v).length-k)+1;omega
     have hE:(bm,bE ny)::(bw,bC (wy++[(v,k)])++J)::(mY++σ)=(bm,bE ny)::(bw,bC (w'++[(u,i)])++([.int .i64 v,.int .i64 ((k:Nat):Int)]++J))::(mY++σ):=by rw[oF]
     exact .mk ((false,b,ny,iE),(w',u,i),(bw,[AV.int .i64 v,.int .i64 ((k:Nat):Int)]++J),(qF,mY,(kS)++[v])) rfl (by show ei (ar n l) ((u,i)::(w').reverse)+l5 (ar n l) (iE) n<_;(show _<ei (ar n l) ((v,k)::wy.reverse)+l5 (ar n l) iE n);omega) ⟨hS,yq⟩ ⟨rfl,rfl,rfl,rfl,kr,trivial⟩ (.drop 0 1 (aJ hE))
 ·intro hr
  have NL:=hm.1
  refine aK ?_
  refine eO.kz 0 _ _ rfl (tw rfl ha.1 (by omega)) (fun c1=>?_) (fun c1=>?_)
  ·have eg:a∈out:=by rw[hm.at_ ha]at c1;exact fP c1
   have oP:gO (ar n l) (n+1) a out=[]:=by unfold gO;rw[ag eg]
   rw[oP,mX]at hF
   exact .done ⟨met,out,vo,v8,by rw[oP,mX],hm,bZ,zS,hO,rfl,rfl⟩
  ·have eg:a ∉ out:=by rw[hm.at_ ha]at c1;exact sd c1
   have hV:=jW.top (nx:=ar n l) hm bZ zS ha eg
   rw[hF]at hV
   refine aK ?_
   refine cU 0 rfl (yV rfl true ha.1 (by omega)) ?_
   intro aG
   refine yM (k:=0) (n:=1) [_,_] (acc:=[]) .nil (.ae 0 aG 0 1 _ rfl (cT rfl)) rfl (by omega) (by decide) (by decide) (fun v' bN h'=>?_)
   obtain⟨bw,J,rfl,rfl,_⟩:=h'.pos (by omega)
   have qK:[]++[AV.int .i64 a,.int .i64 ((0:Nat):Int)]++J=bC (([]:List (Int×Nat))++[(a,0)])++J:=rfl
   have tS:([]:List (Int×Nat)).length=0:=rfl
   have hV:jW n (ar n l) F (met.set a.toNat true) (out++[a]) out ((a,0)::([]:List (Int×Nat)).reverse):=hV
   have xV:=hV.wy (a,0) (bV ..)
   have cX:0≤a∧a<(n:Int):=xV.1
   have BT:0≤(ar n l a).length:=xV.2
   have mi:=yO n l a
   have qM:=hV.small
   rw[fO,tb,tS]at qM
   have rS:((met.set a.toNat true)).length=n:=hV.nH.1
   have nB:IntKind.i64.wrap (((0+1:Nat):Int)-1)=((0:Nat):Int):=by rw[dh (by omega)];omega
   have hX:0+(IntKind.i64.wrap (((0+1:Nat):Int)-1)).toNat*2=(([]:List (Int×Nat))).length*2:=by rw[nB,tS];omega
   have mP:dP ⟨.int .i64,1,8,[.int .i64 0]⟩ ([]++[AV.int .i64 a,.int .i64 ((0:Nat):Int)]++J) (0+(IntKind.i64.wrap (((0+1:Nat):Int)-1)).toNat*2+0)=some (.int .i64 a):=by rw[qK];exact iY rfl (by rw[hX];exact sj rfl)
   have lO:dP ⟨.int .i64,1,8,[.int .i64 0]⟩ ([]++[AV.int .i64 a,.int .i64 ((0:Nat):Int)]++J) (0+(IntKind.i64.wrap (((0+1:Nat):Int)-1)).toNat*2+1)=some (.int .i64 ((0:Nat):Int)):=by rw[qK];exact iY rfl (by rw[hX];exact CJ rfl)
   have ey:(bC (([]:List (Int×Nat))++[(a,0)])++J).length=(([]:List (Int×Nat))).length*2+2+(J:List AV).length:=by rw[bG,mu,bG];show (_+1)*2+_=_;omega
   have kF:IntKind.i64.wrap (((0:Nat):Int)+1)=((0+1:Nat):Int):=by rw[dh (by omega)];omega
   have wE:kn ⟨.int .i64,1,8,[.int .i64 0]⟩ ([]++[AV.int .i64 a,.int .i64 ((0:Nat):Int)]++J) (0+(IntKind.i64.wrap (((0+1:Nat):Int)-1)).toNat*2+1) (.int .i64 (IntKind.i64.wrap (((0:Nat):Int)+1)))=some (bC (([]:List (Int×Nat))++[(a,0+1)])++J):=by
    rw[qK,tD rfl rfl (by rw[hX,ey];omega),hX,kF,CX rfl]
   have vK:2=2∧0≤IntKind.i64.wrap (((0+1:Nat):Int)-1)∧IntKind.i64.wrap (((0+1:Nat):Int)-1)<((0+1:Nat):Int):=⟨rfl,by omega,by omega⟩
   refine aH.mk vK ?_
   refine .quiet (by kernel_rfl) ?_
   refine aT 2 rfl lO ?_
   refine aT 2 rfl mP ?_
   refine aH.mk rfl ?_
   refine cg.mk (ar n l a) (by omega) (pq cX) ?_
   refine aq (p:=((0:Nat):Int)<(ar n l a).length) (fun ab=>?_) (fun ay=>?_)
   ·have ab:0<(ar n l a).length:=by omega
    obtain⟨z,hz⟩:∃z,(ar n l a)[0]=z:=⟨_,rfl⟩
    have EW:z∈ar n l a:=hz▸cD ab
    have gT:=(lu.1 EW).1
    refine .quiet (by kernel_rfl) ?_
    refine aT 2 rfl mP ?_
    refine aH.mk rfl ?_
    refine cg.mk (ar n l a) (by omega) (pq cX) ?_
    refine aT 2 rfl lO ?_
    refine aH.mk rfl ?_
    refine cg.mk z (by omega) ((get_some ab).trans (congrArg some hz)) ?_
    refine aT 2 rfl lO ?_
    refine cU 2 rfl wE ?_
    refine aK ?_
    refine eO.kz 1 _ _ rfl (tw rfl gT.1 (by rw[rS];omega)) (fun c2=>?_) (fun c2=>?_)
    ·have jB:z∈(out++[a]):=by rw[hV.nH.at_ gT]at c2;exact fP c2
     have hS:=hV.skip ab (by rw[hz];exact jB)
     have kH:ei (ar n l) ((a,0+1)::(([]:List (Int×Nat))).reverse)+1=ei (ar n l) ((a,0)::(([]:List (Int×Nat))).reverse):=by show ei (ar n l) (([]:List (Int×Nat))).reverse+((ar n l a).length-(0+1))+1+1=ei (ar n l) (([]:List (Int×Nat))).reverse+((ar n l a).length-0)+1;omega
     exact xf hr ((false,z,(met.set a.toNat true),(out++[a])),(([]:List (Int×Nat)),a,0+1),(bw,J),(vo,v8,out)) ⟨rfl,⟨hS,hO⟩,⟨rfl,rfl,rfl,rfl,rfl,trivial⟩,(.drop 0 1 (.refl _))⟩
    ·have jB:z ∉ (out++[a]):=by rw[hV.nH.at_ gT]at c2;exact sd c2
     have hS:=hV.push cy ab (by rw[hz];exact jB)
     rw[hz]at hS
     have kH:ei (ar n l) ((z,0)::(a,0+1)::(([]:List (Int×Nat))).reverse)=ei (ar n l) ((a,0)::(([]:List (Int×Nat))).reverse)+(ar n l z).length:=by show ei (ar n l) (([]:List (Int×Nat))).reverse+((ar n l a).length-(0+1))+1+((ar n l z).length-0)+1=ei (ar n l) (([]:List (Int×Nat))).reverse+((ar n l a).length-0)+1+(ar n l z).length;omega
     have mT:=Gu (nx:=ar n l) (seen:=(out++[a])) (b:=z.toNat) (by rw[lT gT.1];exact jB) n
     rw[ag (by omega),lT gT.1]at mT
     exact xf hr ((true,z,(met.set a.toNat true),(out++[a])),(([]:List (Int×Nat)),a,0+1),(bw,J),(vo,v8,out)) ⟨rfl,⟨⟨hS,rS,gT.1,gT.2⟩,hO⟩,⟨rfl,rfl,rfl,rfl,rfl,trivial⟩,(.drop 0 1 (.refl _))⟩
   ·have ay:(ar n l a).length≤0:=by omega
    have hS:=hV.pop ay
    refine aT 2 rfl mP ?_
    intro bs
    refine my (k:=(out).length) (n:=1) [_,_,_,_] hO (.ae 0 bs 0 1 _ rfl (cT rfl)) rfl (by omega) (by decide) (by decide) (fun qF mY yr=>?_)
    have yq:Acc 1 ((out)++[a]).length qF mY (ak ((out)++[a])):=by
     rw[List.length_append,show ak ((out)++[a])=ak (out)++[.int .i64 a] by simp[ak]];exact yr
    have qq:(IntKind.i64.wrap (((0+1:Nat):Int)-1)).toNat-Int.toNat 0=0:=by rw[nB];omega
    have cH:0≤(0:Int)∧(0:Int)≤IntKind.i64.wrap (((0+1:Nat):Int)-1)∧IntKind.i64.wrap (((0+1:Nat):Int)-1)≤((0+1:Nat):Int)∧2=2:=⟨by omega,by omega,by omega,rfl⟩
    refine aH.mk cH ?_
    obtain⟨e1,e2,e3,e4⟩:=jW.done hS
    rw[← e1]at yq
    exact .drop 0 2 (.drop 1 1 (.done ⟨(met.set a.toNat true),F,qF,mY,hF.symm,e2,e3,e4,yq,rfl,rfl⟩))
theorem ai4{t t':Tm}{b off len es:Nat}{e:Sh}{l:List e.T}(k:Nat)(h:t k=.via (.ae b off len es))(h':t'=dm t [(k,.ai e l)])(i:Nat):eI b off len es e l (t i) (t' i):=by
 subst h'
 show eI b off len es e l (t i) (match Nat.beq i k with | true=>.ai e l | false=>t i)
 cases hb:Nat.beq i k with
 |true=>rw[jr hb,h];exact .via .here
 |false=>exact .refl _
theorem ahs{t t':Tm}(e:Sh)(k:Nat)(h:t k=.via .aj)(h':t'=dm t [(k,.ai e [])])(i:Nat):eI 0 0 0 0 .bool [] (t i) (t' i):=by
 subst h'
 show eI 0 0 0 0 .bool [] (t i) (match Nat.beq i k with | true=>.ai e [] | false=>t i)
 cases hb:Nat.beq i k with
 |true=>rw[jr hb,h];exact .via (.nil e)
 |false=>exact .refl _
theorem mH.acc{body:Tm→Hp→(Ex→Tm→Hp→Prop)→Prop}{Q:Ex→Tm→Hp→Prop}{t:Tm}(j:Nat)(fr:Hp){acc σ:Hp}{s:Sh}{k:Nat}{v:AV}{cs:List AV}{l:List s.T}(h:Acc s.size k v acc cs)(ht:t j=.via v)(hl:k=l.length)(hc:cs=l.flatMap s.cells)(hp:0<s.size)
  (go:mH body Q (dm t [(j,.ai s l)]) (fr++σ)):mH body Q t (fr++(acc++σ)):=by
 cases h with
 |nil=>
  have ie:l=[]:=iS.1 hl.symm
  subst ie
  exact .nil (ahs s j ht rfl) go
 |ae b k cs h=>
  refine .dM (.perm (AG fr [(b,cs)] σ) (.refl _)) ?_
  exact .cI 0 b 0 k s.size cs s l rfl (by rw[iB,eZ (by omega)];exact hc) ⟨hl.symm,rfl,hp⟩ (ai4 j ht rfl) go
theorem acn{R:AV→Hp→Prop}(fr:Hp){acc σ:Hp}{s:Sh}{k:Nat}{v x:AV}{cs:List AV}{l:List s.T}(h:Acc s.size k v acc cs)(hl:k=l.length)(hc:cs=l.flatMap s.cells)(hp:0<s.size)(go:Fin R (.tup [.ai s l,x]) (fr++σ)):Fin R (.tup [v,x]) (fr++(acc++σ)):=by
 subst hl
 have hlen:=h.length
 refine .perm (AG fr acc σ) ?_
 generalize hk:l.length=k at h
 cases h with
 |nil=>
  obtain rfl:=iS.1 hk
  exact .nil (eH (.nil _) (.refl _)) go
 |ae b k cs h=>
  subst hk
  exact .cI 0 b 0 l.length s.size cs s l rfl (by rw[iB,eZ (by omega)];exact hc) ⟨rfl,rfl,hp⟩ (eH .here (.refl _)) go
theorem Y3{R:AV→Hp→Prop}{r:AV}(a:Hp){σ:Hp}(h:Fin R r σ):Fin R r (a++σ):=.drop 0 a.length (by rw[List.take_zero,dK,List.drop_left];exact h)
set_option maxHeartbeats 4000000
theorem Yr{P:Program}{f:FuncId}{a b:List AV}{v:AV}{σ:Hp}{R:AV→Hp→Prop}(hl:v.leaf=true)(h:ACalls P f (a++.via v::b) σ R):ACalls P f (a++v::b) σ R:=by
 refine⟨h.1,fun F w vs bX aC=>h.2 F w vs ⟨by rw[← bX.1];simp,fun i x hx=>?_⟩ aC⟩
 rcases Nat.lt_trichotomy i a.length with hi | hi | hi
 ·rw[jG hi]at hx
  exact bX.2 i x (by rw[jG hi];exact hx)
 ·subst hi
  rw[ij (aM _),qT]at hx
  cases hx
  exact .via v _ hl (bX.2 a.length v (by rw[ij (aM _),qT];rfl))
 ·obtain⟨j,rfl⟩:∃j,i=a.length+(j+1):=⟨i-a.length-1,by omega⟩
  rw[ij (by omega),show a.length+(j+1)-a.length=j+1 by omega]at hx
  exact bX.2 _ x (by rw[ij (by omega),show a.length+(j+1)-a.length=j+1 by omega];exact hx)
theorem Acc.leaf{e k:Nat}{v:AV}{acc:Hp}{cs:List AV}(h:Acc e k v acc cs):v.leaf=true:=by cases h <;> rfl
structure yF(n:Nat)(met:List Bool)(out:List Int):Prop where
 nH:sI n met out
 nd:out.Nodup
 rg:∀x∈out,0≤x∧x<(n:Int)
theorem Vz(n:Nat)(l:List bg)(a:Int)(met:List Bool)(out:List Int)(bm:Nat)(vo:AV)(v8 σ:Hp)(hl:l.length≤100000)(hn:n≤1000)(ha:0≤a∧a<n)(h:yF n met out)(hO:Acc 1 out.length vo v8 (ak out)):
  ACalls Tryz.prog 311 [.ai (.slice (.int .i64)) (bY n l),.ae bm 0 n 1,.int .i64 a,vo] ((bm,bE met)::(v8++σ))
   (fun r σ'=>∃rI kT rL rD,kT=out++gO (ar n l) (n+1) a out∧yF n rI kT∧Acc 1 kT.length rL rD (ak kT)∧r=.via rL∧σ'=(bm,bE rI)::(rD++σ)):=
 Zi (R:=fun r σ'=>∃rI kT rL rD,kT=out++gO (ar n l) (n+1) a out∧yF n rI kT∧Acc 1 kT.length rL rD (ak kT)∧r=rL∧σ'=(bm,bE rI)::(rD++σ)) (Yr (a:=[_,_,_]) (b:=[]) hO.leaf ((aeE n l a met out bm vo v8 σ hl hn ha h.nH h.nd h.rg hO).mono fun _ _ ⟨rI,kT,rL,rD,h1,h2,h3,h4,h5,h6,h7⟩=>⟨rI,kT,rL,rD,h1,⟨h2,h3,h4⟩,h5,h6,h7⟩)) fun r σ' ⟨rI,kT,rL,rD,h1,h2,h3,h4,h5⟩=>⟨h4▸h3.leaf,rI,kT,rL,rD,h1,h2,h3,by rw[h4],h5⟩
theorem ahl(bn:Nat)(n:Nat)(x:Int)(σ:Hp):ACalls Tryz.prog 337 [.int .i64 x,.ptr bn 0] ((bn,[.int .i64 n])::σ) (aE (.bool (decide (x<0∨(n:Int)≤x))) ((bn,[.int .i64 n])::σ)):=by
 refine aA Tryz.func337 ?_
 refine aq (fun c1=>?_) (fun c1=>?_)
 ·have c1:x<0:=c1
  exact .done ⟨congrArg AV.bool (aY (by omega)).symm,rfl⟩
 ·have c1:¬(x<0):=c1
  refine aa 0 ?_
  refine aq (fun c2=>?_) (fun c2=>?_)
  ·have c2:(↑n:Int)≤x:=c2
   exact .done ⟨congrArg AV.bool (aY (by omega)).symm,rfl⟩
  ·have c2:¬((↑n:Int)≤x):=c2
   exact .done ⟨congrArg AV.bool (b9 (by omega)).symm,rfl⟩
theorem af4(bn n:Nat)(L:List Int)(σ:Hp)(hl:L.length≤1000000)(hL:∀x∈L,0≤x∧x<(n:Int)):ACalls Tryz.prog 345 [.ai (.int .i64) L,.fn (.func 337) [] [.ptr bn 0]] ((bn,[.int .i64 n])::σ) (aE (.int .i64 (-1)) ((bn,[.int .i64 n])::σ)):=by
 refine aA Tryz.func345 ?_
 refine cj (S:=Nat) (fun k=>[(0,.ai (.int .i64) L),(1,.fn (.func 337) [] [.ptr bn 0]),(7,.int .i64 L.length),(8,.int .i64 k)]) (fun _=>(bn,[.int .i64 n])::σ) (fun k=>k≤L.length) (fun k=>L.length-k) 0 ⟨bK _,⟨rfl,rfl,rfl,rfl,trivial⟩,rfl⟩ ?_
 intro k g bD
 have hk:k≤L.length:=bD
 refine aq (p:=(k:Int)<L.length) (fun ab=>?_) (fun ay=>?_)
 ·have ab:k<L.length:=by omega
  have hx:=hL _ (cD ab)
  refine aH.mk rfl (cg.mk L[k] (by omega) (get_some ab) ?_)
  refine fM [] (ahl bn n L[k] σ) (fun c=>?_) (fun _=>?_)
  ·have c:=fP c;omega
  ·exact aZ (k+1) (by show L.length-(k+1)<L.length-k;omega) ab ⟨rfl,rfl,rfl,bu (by omega),trivial⟩ (.refl _)
 ·exact .done ⟨rfl,rfl⟩
theorem af5(bn n:Nat)(L:List Int)(σ:Hp)(hl:L.length≤1000000)(hL:∀x∈L,0≤x∧x<(n:Int)):ACalls Tryz.prog 336 [.ai (.int .i64) L,.fn (.func 337) [] [.ptr bn 0]] ((bn,[.int .i64 n])::σ) (aE (.bool false) ((bn,[.int .i64 n])::σ)):=by
 refine aA Tryz.func336 ?_
 refine aB [] (af4 bn n L σ hl hL) ?_
 exact .done ⟨rfl,rfl⟩
theorem ad7(n:Nat)(l:List bg)(fr:List Int)(σ:Hp)(hl:l.length≤100000)(hf:fr.length≤100000)(dW:fu n l=true)(uF:∀x∈fr,0≤x∧x<(n:Int)):ACalls Tryz.prog 310 [.int .i64 n,.ai dG l,.ai (.int .i64) fr] σ (aE (.int .i64 0) σ):=by
 refine aA Tryz.func310 ?_
 intro aG
 refine aa 0 ?_
 refine fM [] (DK n l _ (by omega)) (fun _=>?_) (fun c=>absurd c (by rw[dW];decide))
 refine aB [] (af5 aG n fr σ (by omega) uF) ?_
 exact .drop 0 1 (.done ⟨rfl,rfl⟩)
def qm(n:Nat)(l:List bg)(fr:List Int):List Int:=su n (ar n l) (fr++(List.range n).map fun a:Nat=>(a:Int))
theorem QJ(n:Nat)(nx:Int→List Int)(L:List Int)(a:Int):su n nx (L++[a])=su n nx L++gO nx (n+1) a (su n nx L):=by unfold su;rw[sa];rfl
theorem ahe(n:Nat)(l:List bg)(fr:List Int)(σ:Hp)(hl:l.length≤100000)(hf:fr.length≤100000)(dW:fu n l=true)(uF:∀x∈fr,0≤x∧x<(n:Int)):ACalls Tryz.prog 288 [.int .i64 n,.ai dG l,.ai (.int .i64) fr] σ (fun r σ'=>r=.tup [.ai (.int .i64) (qm n l fr),.int .i64 0]∧σ'=σ∧(∃met,yF n met (qm n l fr))):=by
 have hn:1≤n∧n≤256:=by
  unfold fu at dW
  simp only[bL,decide_eq_true_eq]at dW
  omega
 have fN:∀k,(cq ((List.range k).map fun a:Nat=>ar n l a)).length=k:=fun k=>by rw[vd,cb,oY]
 refine aA Tryz.func288 ?_
 refine aB [] (ad7 n l fr _ hl hf dW uF) ?_
 refine .wrap 9 .aj rfl rfl ?_
 refine cj (S:=Nat×AV×Hp) (fun x=>[(0,.int .i64 n),(1,.ai dG l),(2,.ai (.int .i64) fr),(9,.via x.2.1),(23,.int .i64 n),(24,.int .i64 x.1)]) (fun x=>x.2.2++σ) (fun x=>x.1≤n∧Acc 1 x.1 x.2.1 x.2.2 (cq ((List.range x.1).map fun a:Nat=>ar n l a))) (fun x=>n-x.1) (0,.aj,[]) ⟨⟨bK _,.nil⟩,⟨rfl,rfl,rfl,rfl,rfl,rfl,trivial⟩,rfl⟩ ?_
 rintro⟨k,v,acc⟩ g ⟨hk,cC⟩
 have hk:k≤n:=hk
 have cC:Acc 1 k v acc (cq ((List.range k).map fun a:Nat=>ar n l a)):=cC
 refine aq (p:=(k:Int)<n) (fun ab=>?_) (fun ay=>?_)
 ·have ab:k<n:=by omega
  refine aB [] (Bo n l k _ hl) ?_
  intro bs
  refine my [_] cC (.ae 0 bs 0 1 _ rfl (cT rfl)) rfl (by omega) (by decide) (by decide) (fun v' bN h'=>?_)
  refine aZ (k+1,v',bN) (by show n-(k+1)<n-k;omega) ⟨ab,?_⟩ ⟨rfl,rfl,rfl,rfl,rfl,bu (by omega),trivial⟩ (.drop 0 1 (.refl _))
  show Acc 1 (k+1) v' bN (cq ((List.range (k+1)).map fun a:Nat=>ar n l a))
  rw[wU,cM,show cq (List.map (fun a:Nat=>ar n l a) (List.range k)++List.map (fun a:Nat=>ar n l a) [k])=cq (List.map (fun a:Nat=>ar n l a) (List.range k))++[.ai (.int .i64) (ar n l k)] from cM]
  exact h'
 ·have ay:n=k:=by omega
  subst ay
  have hlx:∀(c:Nat) (L:List Int) (x:Int),(∀x∈L,0≤x∧x<(n:Int))→L[c]?=some x→0≤x∧x<(n:Int):=fun c L x h hx=>h x (bH hx)
  have hnT:((n:Nat):Int).toNat=n:=bU n
  refine aU ?_
  intro bm
  refine .wrap 12 .aj rfl rfl ?_
  refine mH.acc 9 [_] (s:=.slice (.int .i64)) cC rfl ((fN n).symm.trans (vd _)) (xj _) (by decide) ?_
  refine cj (S:=Nat×(List Bool×List Int)×(AV×Hp)) (fun x=>[(0,.int .i64 n),(9,.ai (.slice (.int .i64)) (bY n l)),(11,.ae bm 0 n 1),(12,.via x.2.2.1),(37,.ai (.int .i64) fr),(38,.int .i64 fr.length),(39,.int .i64 x.1)]) (fun x=>(bm,bE x.2.1.1)::(x.2.2.2++σ)) (fun x=>x.1≤fr.length∧yF n x.2.1.1 x.2.1.2∧x.2.1.2=su n (ar n l) (fr.take x.1)∧Acc 1 x.2.1.2.length x.2.2.1 x.2.2.2 (ak x.2.1.2)) (fun x=>fr.length-x.1) (0,(List.replicate n false,[]),(.aj,[])) ⟨⟨Nat.zero_le _,⟨⟨by simp,fun u hu=>by rw[List.getD_eq_getElem?_getD,List.getElem?_replicate,if_pos hu];rfl⟩,List.nodup_nil,fun x hx=>absurd hx (by simp)⟩,rfl,.nil⟩,⟨rfl,rfl,rfl,rfl,rfl,rfl,rfl,trivial⟩,by rw[show bE (List.replicate n false)=cz [.bool false] n from (Di n).symm];rfl⟩ ?_
  rintro⟨j,⟨met,out⟩,⟨vo,ac⟩⟩ g ⟨hj,hP,ho,hO⟩
  have hj:j≤fr.length:=hj
  have hP:yF n met out:=hP
  have ho:out=su n (ar n l) (fr.take j):=ho
  have hO:Acc 1 out.length vo ac (ak out):=hO
  refine aq (p:=(j:Int)<fr.length) (fun ab=>?_) (fun ay=>?_)
  ·have ab:j<fr.length:=by omega
   have hz:=uF _ (cD ab)
   refine aH.mk rfl (cg.mk fr[j] (by omega) (get_some ab) ?_)
   refine .mk [] _ (Vz n l fr[j] met out bm vo ac σ hl (by omega) hz hP hO) ?_
   rintro _ _ ⟨met2,Ei,qF,mY,h1,h2,h3,rfl,rfl⟩
   refine aZ (j+1,(met2,Ei),(qF,mY)) (by show fr.length-(j+1)<fr.length-j;omega) ⟨ab,h2,?_,h3⟩ ⟨rfl,rfl,rfl,rfl,rfl,rfl,bu (by omega),trivial⟩ (.refl _)
   show Ei=su n (ar n l) (fr.take (j+1))
   rw[fQ ab,QJ,← ho];exact h1
  ·have ay:¬(j:Int)<fr.length:=ay
   rw[eZ (by omega)]at ho
   refine cj (S:=Nat×(List Bool×List Int)×(AV×Hp)) (fun x=>[(9,.ai (.slice (.int .i64)) (bY n l)),(11,.ae bm 0 n 1),(12,.via x.2.2.1),(49,.int .i64 n),(50,.int .i64 x.1)]) (fun x=>(bm,bE x.2.1.1)::(x.2.2.2++σ)) (fun x=>x.1≤n∧yF n x.2.1.1 x.2.1.2∧x.2.1.2=su n (ar n l) (fr++(List.range x.1).map fun a:Nat=>(a:Int))∧Acc 1 x.2.1.2.length x.2.2.1 x.2.2.2 (ak x.2.1.2)) (fun x=>n-x.1) (0,(met,out),(vo,ac)) ⟨⟨Nat.zero_le _,hP,by rw[ho];simp,hO⟩,⟨rfl,rfl,rfl,rfl,rfl,trivial⟩,rfl⟩ ?_
   clear hP ho hO hj ay
   rintro⟨j,⟨met,out⟩,⟨vo,ac⟩⟩ g ⟨hj,hP,ho,hO⟩
   have hj:j≤n:=hj
   have hP:yF n met out:=hP
   have ho:out=su n (ar n l) (fr++(List.range j).map fun a:Nat=>(a:Int)):=ho
   have hO:Acc 1 out.length vo ac (ak out):=hO
   refine aq (p:=(j:Int)<n) (fun ab=>?_) (fun ay=>?_)
   ·have ab:j<n:=by omega
    refine .mk [] _ (Vz n l j met out bm vo ac σ hl (by omega) ⟨by omega,by omega⟩ hP hO) ?_
    rintro _ _ ⟨met2,Ei,qF,mY,h1,h2,h3,rfl,rfl⟩
    refine aZ (j+1,(met2,Ei),(qF,mY)) (by show n-(j+1)<n-j;omega) ⟨ab,h2,?_,h3⟩ ⟨rfl,rfl,rfl,rfl,bu (by omega),trivial⟩ (.refl _)
    show Ei=su n (ar n l) (fr++(List.range (j+1)).map fun a:Nat=>(a:Int))
    rw[wU,cM,← dN,show List.map (fun a:Nat=>(a:Int)) [j]=[(j:Int)] from rfl,QJ,← ho];exact h1
   ·have ay:n=j:=by omega
    subst ay
    have ho:out=qm n l fr:=ho
    rw[← ho]
    exact acn [_] (s:=.int .i64) hO rfl (xn _) (by decide) (.drop 0 1 (.done ⟨rfl,rfl,met,hP⟩))
inductive yE(n:Int)(l:List bg)(fr:List Int):Int→Prop where
 |root {a:Int} (h:a∈fr) (h1:0≤a∧a<n):yE n l fr a
 |step {a b:Int} (h:yE n l fr a) (hb:b∈ar n l a):yE n l fr b
theorem yE.node{n:Int}{l:List bg}{fr:List Int}{a:Int}(h:yE n l fr a):0≤a∧a<n:=by
 cases h with
 |root h h1=>exact h1
 |step h hb=>exact (lu.1 hb).1
theorem CQ:∀(n:Nat) (l:List Int),l.Nodup→(∀z∈l,0≤z∧z<n)→l.length≤n
 | 0,[],_,_=>aM _
 | 0,z::l,_,h=>by have:=h z (bV ..);omega
 |n+1,l,hd,h=>by
  have h1:=CQ n (l.filter fun z=>decide (z≠n)) (hd.filter _) fun z hz=>by
   obtain⟨q1,q2⟩:=ki.1 hz
   have:=h z q1
   have q2:=fP q2
   omega
  have h2:l.length≤(l.filter fun z=>decide (z≠(n:Int))).length+1:=by
   clear h h1
   induction l with
   |nil=>simp
   |cons z l ih=>
    have kh:=lp.1 hd
    by_cases hz:z=n
    ·subst hz
     have e:(((n:Int)::l).filter fun z=>decide (z≠(n:Int)))=l:=by
      rw[List.filter_cons_of_neg (by simp)]
      exact gv7.2 fun y hy=>aY fun e=>kh.1 (e▸hy)
     rw[e];simp
    ·have:=ih kh.2
     rw[List.filter_cons_of_pos (by simp[hz])]
     simp only[fO];omega
  omega
theorem aa3{b:List Bool}{k:Nat}{a:Int}:a∈M7 b k↔(0≤a∧a<k)∧b.getD a.toNat false=true:=by
 unfold M7
 rw[cY]
 constructor
 ·rintro⟨i,hi,rfl⟩
  obtain⟨h1,h2⟩:=ki.1 hi
  exact⟨by have:=fA.1 h1;omega,h2⟩
 ·rintro⟨h1,h2⟩
  exact⟨a.toNat,ki.2 ⟨fA.2 (by omega),h2⟩,by omega⟩
theorem GR(b:List Bool)(i j:Nat):(b.set i true).getD j false=true↔(i=j∧i<b.length)∨b.getD j false=true:=by
 rw[aR,dY,aR]
 by_cases h:i=j
 ·subst h
  rw[ag rfl]
  by_cases h2:i<b.length
  ·rw[if_pos h2];simp[h2]
  ·rw[if_neg h2];simp[h2]
 ·rw[if_neg h];simp[h]
theorem aa5{n:Int}{b:List Bool}{a:Int}(hb:(b.length:Int)=n)(j:Nat):(xO n b a).getD j false=true↔(0≤a∧a<n∧(j:Int)=a)∨b.getD j false=true:=by
 unfold xO
 by_cases h:0≤a∧a<n
 ·rw[ag h,GR]
  constructor
  ·rintro (⟨e,_⟩ | e)
   ·exact .inl ⟨h.1,h.2,by omega⟩
   ·exact .inr e
  ·rintro (⟨_,_,e⟩ | e)
   ·exact .inl ⟨by omega,by omega⟩
   ·exact .inr e
 ·rw[ah h]
  exact⟨.inr,fun h2=>by rcases h2 with h2 | h2;exact absurd ⟨h2.1,h2.2.1⟩ h;exact h2⟩
theorem K6{n:Int}:∀(fr:List Int) {b:List Bool},(b.length:Int)=n→∀j:Nat,(fr.foldl (xO n) b).getD j false=true↔((j:Int)∈fr∧(j:Int)<n)∨b.getD j false=true
 | [],b,_,j=>by simp
 |a::fr,b,hb,j=>by
  rw[FK,K6 fr (by rw[PW];exact hb) j,aa5 hb j,da]
  constructor
  ·rintro (⟨h1,h2⟩ | ⟨h1,h2,h3⟩ | h)
   ·exact .inl ⟨.inr h1,h2⟩
   ·exact .inl ⟨.inl h3,by omega⟩
   ·exact .inr h
  ·rintro (⟨h1 | h1,h2⟩ | h)
   ·exact .inr (.inl ⟨by omega,by omega,h1⟩)
   ·exact .inl ⟨h1,h2⟩
   ·exact .inr (.inr h)
theorem Ku(n:Int):∀(fr:List Int) (b:List Bool),(fr.foldl (xO n) b).length=b.length
 | [],_=>rfl
 |a::fr,b=>by rw[FK,Ku n fr,PW]
def okB(n:Int)(l:List bg)(fr:List Int)(b:List Bool):Prop:=(b.length:Int)=n∧∀j:Nat,b.getD j false=true→yE n l fr j
theorem afM{n:Int}{l:List bg}{fr:List Int}{b:List Bool}{e:bg}(he:e∈l)(h:okB n l fr b):okB n l fr (rZ n b e):=by
 unfold rZ
 by_cases c:(0≤e.1∧e.1<n)∧(0≤e.2.1∧e.2.1<n)∧b.getD e.1.toNat false=true
 ·rw[ag c]
  refine⟨by rw[ck];exact h.1,fun j hj=>?_⟩
  rcases (GR _ _ _).1 hj with ⟨e1,_⟩ | hj
  ·have:=h.2 _ c.2.2
   refine .step this (lu.2 ⟨by omega,by omega,e,he,by omega,by omega⟩)
  ·exact h.2 j hj
 ·rw[ah c];exact h
theorem SB{n:Int}{l:List bg}{fr:List Int}:∀(L:List bg) {b:List Bool},(∀e∈L,e∈l)→okB n l fr b→okB n l fr (L.foldl (rZ n) b)
 | [],_,_,h=>h
 |e::L,_,hL,h=>SB L (fun x hx=>hL x (cE _ hx)) (afM (hL e (bV ..)) h)
theorem Vm{n:Int}{b:List Bool}{e:bg}{j:Nat}(h:b.getD j false=true):(rZ n b e).getD j false=true:=by
 unfold rZ
 split
 ·exact (GR _ _ _).2 (.inr h)
 ·exact h
theorem C0{n:Int}:∀(L:List bg) {b:List Bool} {j:Nat},b.getD j false=true→(L.foldl (rZ n) b).getD j false=true
 | [],_,_,h=>h
 |_::L,_,_,h=>C0 L (Vm h)
theorem SC{n:Int}:∀(L:List bg) {b:List Bool} {e:bg},(b.length:Int)=n→e∈L→(0≤e.1∧e.1<n)→(0≤e.2.1∧e.2.1<n)→b.getD e.1.toNat false=true→(L.foldl (rZ n) b).getD e.2.1.toNat false=true
 |x::L,b,e,hb,he,h1,h2,h3=>by
  rcases da.1 he with rfl | he
  ·refine C0 L ?_
   unfold rZ
   rw[ag ⟨h1,h2,h3⟩]
   exact (GR _ _ _).2 (.inl ⟨rfl,by omega⟩)
  ·exact SC L (by rw[QU];exact hb) he h1 h2 (Vm h3)
def vX(b:List Bool):Nat:=b.countP id
theorem LJ:∀{b c:List Bool},b.length=c.length→(∀j:Nat,b.getD j false=true→c.getD j false=true)→vX b≤vX c∧(vX b=vX c→b=c)
 | [],[],_,_=>⟨aM _,fun _=>rfl⟩
 |x::b,y::c,hl,h=>by
  obtain⟨h1,h2⟩:=LJ (b:=b) (c:=c) (by simpa using hl) fun j hj=>h (j+1) hj
  have h0:=h 0
  unfold vX at h1 h2 ⊢
  simp only[JT]
  cases x <;> cases y <;> simp at h0 ⊢
  ·exact⟨h1,h2⟩
  ·omega
  ·exact⟨h1,h2⟩
theorem Kt(n:Int):∀(L:List bg) (b:List Bool),(L.foldl (rZ n) b).length=b.length
 | [],_=>rfl
 |e::L,b=>by rw[FK,Kt n L,QU]
theorem QF{n:Int}{l:List bg}{b:List Bool}(h:po n l b=b):∀k,vt n l k b=b
 | 0=>rfl
 |k+1=>by rw[rounds_succ,h];exact QF h k
theorem P8{n:Int}{l:List bg}:∀(k:Nat) {b:List Bool},(b.length:Int)=n→b.length≤vX b+k→po n l (vt n l k b)=vt n l k b
 | 0,b,hb,hc=>by
  have hl:(po n l b).length=b.length:=Kt n l b
  have hu:=LJ (b:=b) (c:=po n l b) hl.symm fun j hj=>C0 l hj
  have h2:vX (po n l b)≤(po n l b).length:=List.countP_le_length
  show po n l b=b
  exact (hu.2 (by omega)).symm
 |k+1,b,hb,hc=>by
  have hl:(po n l b).length=b.length:=Kt n l b
  have hu:=LJ (b:=b) (c:=po n l b) hl.symm fun j hj=>C0 l hj
  by_cases h:po n l b=b
  ·rw[QF h];exact h
  ·rw[rounds_succ]
   refine P8 k (by rw[hl];exact hb) ?_
   have:vX b≠vX (po n l b):=fun e=>h (hu.2 e).symm
   omega
theorem QE{n:Int}{l:List bg}{fr:List Int}:∀(k:Nat) {b:List Bool},okB n l fr b→okB n l fr (vt n l k b)
 | 0,_,h=>h
 |k+1,_,h=>by rw[rounds_succ];exact QE k (SB l (fun _ h=>h) h)
theorem Rq{n:Int}{l:List bg}:∀(k:Nat) {b:List Bool} {j:Nat},b.getD j false=true→(vt n l k b).getD j false=true
 | 0,_,_,h=>h
 |k+1,_,_,h=>by rw[rounds_succ];exact Rq k (C0 l h)
theorem YQ{n:Nat}{l:List bg}{fr:List Int}(a:Int):a∈MA n l fr↔yE n l fr a:=by
 have ie:(((List.replicate n false).length:Nat):Int)=n:=by rw[fZ]
 have ao:okB n l fr (fr.foldl (xO n) (List.replicate n false)):=by
  refine⟨by rw[Ku];exact ie,fun j hj=>?_⟩
  rcases (K6 fr ie j).1 hj with ⟨h1,h2⟩ | h
  ·exact .root h1 ⟨by omega,h2⟩
  ·rw[aR,uT]at h
   split at h <;> cases h
 have bF:okB n l fr (DG n l fr):=QE _ ao
 have Ey:po n l (DG n l fr)=DG n l fr:=by
  refine P8 _ ao.1 ?_
  rw[Ku,fZ,bU];omega
 unfold MA
 rw[bU,aa3]
 constructor
 ·rintro⟨h1,h2⟩
  have:=bF.2 _ h2
  rwa [lT h1.1]at this
 ·intro h
  refine⟨h.node,?_⟩
  induction h with
  | @root x hf hn=>
   refine Rq _ ((K6 fr ie _).2 (.inl ⟨?_,?_⟩))
   ·rw[lT hn.1];exact hf
   ·omega
  | @step x y hx hy ih=>
   obtain⟨uv,rP,e,he,e1,e2⟩:=lu.1 hy
   rw[← Ey]
   have:=SC l (b:=DG n l fr) bF.1 he (by omega) (by omega) (by rw[e1];exact ih)
   rw[e2]at this
   exact this
theorem xg{a:Int}:∀{P:List (List Int)},P.flatten.Nodup→∀{i j:Nat} {p q:List Int},P[i]?=some p→P[j]?=some q→a∈p→a∈q→i=j
 | [],_,i,_,_,_,h,_,_,_=>by simp at h
 |r::P,hd,i,j,p,q,hi,hj,hp,hq=>by
  rw[Cf]at hd
  obtain⟨_,h2,h3⟩:=oZ.1 hd
  cases i with
  |zero=>
   cases j with
   |zero=>rfl
   |succ j=>
    obtain rfl:r=p:=by simpa using hi
    have hj:P[j]?=some q:=by simpa using hj
    exact absurd rfl (h3 a hp a (oX.2 ⟨q,bH hj,hq⟩))
  |succ i=>
   have hi:P[i]?=some p:=by simpa using hi
   cases j with
   |zero=>
    obtain rfl:r=q:=by simpa using hj
    exact absurd rfl (h3 a hq a (oX.2 ⟨p,bH hi,hp⟩))
   |succ j=>
    have hj:P[j]?=some q:=by simpa using hj
    exact congrArg (· + 1) (xg h2 hi hj hp hq)
theorem qX.le{n:Nat}{nx:Int→List Int}{P:List (List Int)}(h:qX n nx P){x y:Int}(hr:Rx nx x y){i:Nat}{p:List Int}(hi:P[i]?=some p)(hx:x∈p):∃(j:Nat) (q:List Int),j≤i∧P[j]?=some q∧y∈q:=by
 induction hr with
 |refl=>exact⟨i,p,aM _,hi,hx⟩
 |step _ hc ih=>
  obtain⟨j,q,h1,h2,h3⟩:=ih
  obtain⟨k,r,k1,k2,k3⟩:=h.Kp j q h2 _ h3 _ hc
  exact⟨k,r,fy k1 h1,k2,k3⟩
theorem afm{n:Int}{l:List bg}{a b:Int}:yE n l [a] b↔(0≤a∧a<n)∧Rx (ar n l) a b:=by
 constructor
 ·intro h
  induction h with
  |root hm h1=>rw[a8.1 hm]at h1 ⊢;exact⟨h1,.refl _⟩
  |step _ hb ih=>exact⟨ih.1,.step ih.2 hb⟩
 ·rintro⟨ha,h⟩
  induction h with
  |refl=>exact .root (a8.2 rfl) ha
  |step _ hc ih=>exact .step ih hc
theorem Hf{n:Nat}{l:List bg}{a b:Int}:BG n l a b=true↔(0≤a∧a<n)∧Rx (ar n l) a b:=by
 unfold BG
 rw[Dr,YQ,afm]
theorem ZW(n:Nat)(l:List bg)(a:Int):(ry n l a).Pairwise (· < ·):=by
 unfold ry MB
 rw[uP]
 refine List.Pairwise.filter _ ?_
 exact List.pairwise_lt_range.imp fun h=>by omega
theorem L6{n:Nat}{l:List bg}{P:List (List Int)}(h:qX n (ar n l) P){p:List Int}{a:Int}(hp:p∈P)(ha:a∈p):ry n l a=p:=by
 obtain⟨i,hi⟩:=FQ hp
 have s5:=h.node p hp a ha
 refine Mf (ZW ..) (h.BH p hp) fun z=>?_
 rw[aa2]
 constructor
 ·rintro⟨k,hk,hb,rfl⟩
  rw[bL,Hf,Hf]at hb
  obtain⟨j,q,j1,j2,j3⟩:=h.le hb.1.2 hi ha
  obtain⟨k2,r,k3,k4,k5⟩:=h.le hb.2.2 j2 j3
  have:=xg h.nd hi k4 ha k5
  have:i=j:=by omega
  subst this
  rw[hi]at j2
  rw[Option.some.inj j2];exact j3
 ·intro hz
  have gT:=h.node p hp z hz
  refine⟨z.toNat,by omega,?_,by omega⟩
  rw[lT gT.1,bL,Hf,Hf]
  exact⟨⟨s5,h.Ps p hp a ha z hz⟩,gT,h.Ps p hp z hz a ha⟩
def kV(i:Int)(p:List Int)(w:List Int):List Int:=p.foldl (fun w a=>w.set a.toNat i) w
def mI(P:List (List Int)):Nat→List Int→List Int
 | 0,w=>w
 |k+1,w=>kV k (P.getD k []) (mI P k w)
def bf(n:Nat)(P:List (List Int)):List Int:=mI P P.length (List.replicate n 0)
theorem Gm(i:Int):∀(p w:List Int),(kV i p w).length=w.length
 | [],_=>rfl
 |a::p,w=>by
  show (kV i p (w.set a.toNat i)).length=_
  rw[Gm i p,ck]
theorem Cy(P:List (List Int)):∀(k:Nat) (w:List Int),(mI P k w).length=w.length
 | 0,_=>rfl
 |k+1,w=>by
  show (kV k (P.getD k []) (mI P k w)).length=_
  rw[Gm,Cy P k]
theorem Qs(n:Nat)(P:List (List Int)):(bf n P).length=n:=by unfold bf;rw[Cy,fZ]
theorem TQ(i:Int){a:Int}(ha:0≤a):∀(p w:List Int),(∀z∈p,0≤z)→a.toNat<w.length→(kV i p w).getD a.toNat 0=if a∈p then i else w.getD a.toNat 0
 | [],w,_,_=>by simp[kV]
 |z::p,w,hp,hw=>by
  show (kV i p (w.set z.toNat i)).getD a.toNat 0=_
  have hz:=hp z (bV ..)
  rw[TQ i ha p _ (fun y hy=>hp y (cE _ hy)) (by rw[ck];exact hw),mz]
  by_cases h1:a∈p
  ·rw[ag h1,ag (cE _ h1)]
  ·rw[ah h1]
   by_cases h2:a=z
   ·rw[ag ⟨by omega,hw⟩,ag (by rw[h2];exact bV ..)]
   ·rw[ah (by omega),ah (by rw[da];exact fun h=>h.elim h2 h1)]
theorem vC{P:List (List Int)}{i:Nat}{p:List Int}(h:P[i]?=some p):P.getD i []=p:=by rw[aR,h];rfl
theorem TP{n:Nat}{nx:Int→List Int}{P:List (List Int)}(h:qX n nx P){i:Nat}{p:List Int}(hi:P[i]?=some p){a:Int}(ha:a∈p):∀k,k≤P.length→i<k→(mI P k (List.replicate n 0)).getD a.toNat 0=i
 | 0,_,hk=>absurd hk (ml _)
 |k+1,mQ,hk=>by
  have s5:=h.node p (bH hi) a ha
  obtain⟨q,hq⟩:∃q,P[k]?=some q:=⟨P[k],bc (by omega)⟩
  show (kV k (P.getD k []) _).getD a.toNat 0=_
  rw[vC hq,TQ k s5.1 _ _ (fun z hz=>(h.node q (bH hq) z hz).1) (by rw[Cy,fZ];omega)]
  by_cases hm:a∈q
  ·rw[ag hm,xg h.nd hi hq ha hm]
  ·rw[ah hm]
   have:i≠k:=fun e=>by subst e;rw[hi]at hq;exact hm (Option.some.inj hq▸ha)
   exact TP h hi ha k (by omega) (by omega)
theorem adg{n:Nat}{nx:Int→List Int}{P:List (List Int)}(h:qX n nx P){i:Nat}{p:List Int}(hi:P[i]?=some p){a:Int}(ha:a∈p):(bf n P).getD a.toNat 0=i:=
 TP h hi ha P.length (aM _) (bQ.1 hi).1
def nr(l:List bg)(W:List Int)(T:List Bool)(i:Int):Bool:= !T.getD i.toNat false&&!l.any fun x=>decide (W.getD x.2.1.toNat 0=i)&&decide (W.getD x.1.toNat 0≠i)&&!T.getD (W.getD x.1.toNat 0).toNat false
def ir(P:List (List Int))(i:Nat):Int:=(P.getD i []).headD 0
def fk(P:List (List Int))(l:List bg)(W:List Int)(T:List Bool):Nat→Int
 | 0=> -1
 |k+1=>if nr l W T k=true∧(fk P l W T k<0∨ir P k<ir P (fk P l W T k).toNat) then k else fk P l W T k
theorem Gw(P:List (List Int))(l:List bg)(W:List Int)(T:List Bool):∀k:Nat,(fk P l W T k = -1∧∀i:Nat,i<k→nr l W T i=false)∨∃b:Nat,fk P l W T k=b∧b<k∧nr l W T b=true∧∀i:Nat,i<k→nr l W T i=true→ir P b≤ir P i
 | 0=>.inl ⟨rfl,fun _ h=>absurd h (ml _)⟩
 |k+1=>by
  have ih:=Gw P l W T k
  by_cases c:nr l W T k=true∧(fk P l W T k<0∨ir P k<ir P (fk P l W T k).toNat)
  ·have e:fk P l W T (k+1)=k:=ag c
   rw[e]
   refine .inr ⟨k,rfl,by omega,c.1,fun i hi hf=>?_⟩
   by_cases wH:i=k
   ·subst wH;exact lf _
   ·rcases ih with ⟨h1,h2⟩ | ⟨b,h1,h2,h3,h4⟩
    ·rw[h2 i (by omega)]at hf;cases hf
    ·have:=h4 i (by omega) hf
     rw[h1,bU]at c
     rcases c.2 with c | c
     ·omega
     ·omega
  ·have e:fk P l W T (k+1)=fk P l W T k:=ah c
   rw[e]
   rcases ih with ⟨h1,h2⟩ | ⟨b,h1,h2,h3,h4⟩
   ·refine .inl ⟨h1,fun i hi=>?_⟩
    by_cases wH:i=k
    ·subst wH
     exact JX.2 fun hf=>c ⟨hf,.inl (by omega)⟩
    ·exact h2 i (by omega)
   ·refine .inr ⟨b,h1,by omega,h3,fun i hi hf=>?_⟩
    by_cases wH:i=k
    ·subst wH
     rw[h1,bU]at c
     exact Int.not_lt.1 fun ab=>c ⟨hf,.inr ab⟩
    ·exact h4 i (by omega) hf
def dB(P:List (List Int))(l:List bg)(W:List Int):Nat→List Bool×List (List Int)
 | 0=>(List.replicate P.length false,[])
 |k+1=>((dB P l W k).1.set (fk P l W (dB P l W k).1 P.length).toNat true,(dB P l W k).2++[P.getD (fk P l W (dB P l W k).1 P.length).toNat []])
def Ii(n:Nat)(l:List bg)(told:List Int)(a:Nat):Bool:=decide ((ry n l a).headD 0=(a:Int))&&!sQ told a&&Nj l (ry n l a) told
def Eh(n:Nat)(l:List bg):Nat→List (List Int)×List Int→List (List Int)×List Int
 | 0,s=>s
 |f+1,s=>if s.2.length<n then (match (List.range n).find? (Ii n l s.2) with | none=>s | some a=>Eh n l f (s.1++[ry n l a],s.2++ry n l a)) else s
def kd(n:Nat)(l:List bg):List (List Int):=(Eh n l (n+1) ([],[])).1
theorem Y2{p:Nat→Bool}{n a:Nat}(ha:a<n)(hp:p a=true)(h:∀b,b<a→p b=false):(List.range n).find? p=some a:=by
 rw[List.find?_range_eq_some]
 exact⟨hp,fA.2 ha,fun b hb=>by rw[h b hb];rfl⟩
structure oL(n:Nat)(l:List bg)(P:List (List Int)):Prop where
 ok:qX n (ar n l) P
 all:∀x:Int,0≤x→x<n→∃p∈P,x∈p
theorem oL.idx{n:Nat}{l:List bg}{P:List (List Int)}(h:oL n l P){x:Int}(hx:0≤x∧x<n):∃(i:Nat) (p:List Int),P[i]?=some p∧x∈p∧(bf n P).getD x.toNat 0=i:=by
 obtain⟨p,hp,rO⟩:=h.all x hx.1 hx.2
 obtain⟨i,hi⟩:=FQ hp
 exact⟨i,p,hi,rO,adg h.ok hi rO⟩
theorem yR{P:List (List Int)}{i:Nat}{p:List Int}(h:P[i]?=some p):i<P.length:=(bQ.1 h).1
structure OI(P:List (List Int))(k:Nat)(T:List Bool)(out:List (List Int)):Prop where
 tl:T.length=P.length
 ol:out.length=k
 aD:T.countP id=k
 mem:∀q,q∈out↔∃i:Nat,T.getD i false=true∧P[i]?=some q
 nd:out.flatten.Nodup
theorem RS{n:Nat}{l:List bg}{P:List (List Int)}(h:oL n l P)(hr:∀e∈l,(0≤e.1∧e.1<(n:Int))∧0≤e.2.1∧e.2.1<(n:Int)){k:Nat}{T:List Bool}{out:List (List Int)}(hO:OI P k T out){i:Nat}{p:List Int}(hi:P[i]?=some p):nr l (bf n P) T i=true↔T.getD i false=false∧Nj l p out.flatten=true:=by
 unfold nr Nj
 rw[bU,bL,jq,jq,Ce,fp]
 refine and_congr_right fun _=>?_
 refine forall_congr' fun e=>?_
 refine forall_congr' fun he=>?_
 obtain⟨q1,q2⟩:=hr e he
 obtain⟨a,pa,ha,E8,wa⟩:=h.idx q1
 obtain⟨b,pb,hb,qO,wb⟩:=h.idx q2
 rw[wa,wb,bU]
 have eg:∀{j:Nat} {r:List Int} {x:Int},P[j]?=some r→x∈r→(sQ p x=true↔j=i):=fun {j r x} hj hx=>by
  rw[Dr]
  exact⟨fun hm=>xg h.ok.nd hj hi hx hm,fun e=>by subst e;rw[hi]at hj;rw[Option.some.inj hj];exact hx⟩
 have agJ:sQ out.flatten e.1=true↔T.getD a false=true:=by
  rw[Dr,oX]
  constructor
  ·rintro⟨q,hq,hm⟩
   obtain⟨j,hj,nR⟩:=(hO.mem q).1 hq
   rw[xg h.ok.nd ha nR E8 hm];exact hj
  ·intro ht
   exact⟨pa,(hO.mem pa).2 ⟨a,ht,ha⟩,E8⟩
 have h1:=eg ha E8
 have h2:=eg hb qO
 rw[bL,bL,decide_eq_true_eq,decide_eq_true_eq,jq,jq,Bool.and_eq_false_iff,Bool.and_eq_false_iff,JZ,JZ]
 have h3:sQ p e.2.1=false↔b≠i:=by rw[← Bool.not_eq_true,h2]
 rw[agJ,h1,h3,← Bool.not_eq_true]
 constructor
 ·intro hn
  by_cases c1:b=i
  ·by_cases c2:a=i
   ·exact .inl (.inr c2)
   ·exact .inr (by
     by_cases c3:T.getD a false=true
     ·exact c3
     ·exact absurd ⟨⟨by omega,by omega⟩,c3⟩ hn)
  ·exact .inl (.inl c1)
 ·rintro ((c | c) | c) ⟨⟨d1,d2⟩,d3⟩
  ·exact c (by omega)
  ·exact d2 (by omega)
  ·exact d3 c
theorem count_set{T:List Bool}{i:Nat}(hi:i<T.length)(h:T.getD i false=false):(T.set i true).countP id=T.countP id+1:=by
 induction T generalizing i with
 |nil=>simp at hi
 |cons t T ih=>
  cases i with
  |zero=>
   have:t=false:=h
   subst this
   simp
  |succ i=>
   have:=ih (i:=i) (by simpa using hi) h
   rw[List.set_cons_succ,JT,JT,this];omega
theorem Za:∀{T:List Bool},T.countP id<T.length→∃i,i<T.length∧T.getD i false=false∧∀j,i<j→j<T.length→T.getD j false=true:=by
 intro T
 induction T with
 |nil=>intro h;simp at h
 |cons t T ih=>
  intro h
  rw[JT,fO]at h
  by_cases c:T.countP id<T.length
  ·obtain⟨i,h1,h2,h3⟩:=ih c
   refine⟨i+1,by rw[fO];omega,h2,fun j hj hl=>?_⟩
   cases j with
   |zero=>omega
   |succ j=>exact h3 j (by omega) (by rw[fO]at hl;omega)
  ·have ht:t=false:=by
    cases t with
    |false=>rfl
    |true=>simp at h;omega
   subst ht
   have cf:T.countP id=T.length:=by have:=List.countP_le_length (p:=id) (l:=T);omega
   refine⟨0,by simp,rfl,fun j hj hl=>?_⟩
   cases j with
   |zero=>omega
   |succ j=>
    have hl:j<T.length:=by rw[fO]at hl;omega
    have:=List.countP_eq_length.1 cf _ (cD hl)
    show T.getD j false=true
    rw[aR,bc hl];exact this
theorem CO{n:Nat}{nx:Int→List Int}{P:List (List Int)}(h:qX n nx P):P.length≤n∧P.flatten.length≤n:=by
 have h1:P.flatten.length≤n:=CQ n _ h.nd fun z hz=>by
  obtain⟨p,hp,hz⟩:=oX.1 hz
  exact h.node p hp z hz
 refine⟨fy ?_ h1,h1⟩
 have:=h.ne
 clear h h1
 induction P with
 |nil=>exact aM _
 |cons p P ih=>
  have h1:=mm.2 (this p (bV ..))
  have h2:=ih fun q hq=>this q (cE _ hq)
  rw[Cf,bG,fO];omega
theorem Lv{n:Nat}{l:List bg}{P:List (List Int)}(h:oL n l P)(hr:∀e∈l,(0≤e.1∧e.1<(n:Int))∧0≤e.2.1∧e.2.1<(n:Int)){k:Nat}(hk:k<P.length){T:List Bool}{out:List (List Int)}(hO:OI P k T out):
  ∃(b:Nat) (p:List Int),fk P l (bf n P) T P.length=b∧P[b]?=some p∧OI P (k+1) (T.set b true) (out++[p])∧out.flatten.length<n∧∃a:Nat,(List.range n).find? (Ii n l out.flatten)=some a∧ry n l a=p:=by
 obtain⟨i,OB,yl,hi3⟩:=Za (T:=T) (by rw[hO.aD,hO.tl];exact hk)
 rw[hO.tl]at OB hi3
 obtain⟨pi,hpi⟩:∃p,P[i]?=some p:=⟨P[i],bc OB⟩
 have V5:nr l (bf n P) T i=true:=by
  unfold nr
  rw[bU,yl,bL]
  refine⟨rfl,?_⟩
  rw[jq]
  refine Ce.2 fun e he=>?_
  obtain⟨q1,q2⟩:=hr e he
  obtain⟨a,pa,ha,E8,wa⟩:=h.idx q1
  obtain⟨b,pb,hb,qO,wb⟩:=h.idx q2
  rw[wa,wb,bU,bL,bL,decide_eq_true_eq,decide_eq_true_eq,jq]
  rintro⟨⟨d1,d2⟩,d3⟩
  obtain⟨j,q,j1,j2,j3⟩:=h.ok.Kp a pa ha e.1 E8 e.2.1 (lu.2 ⟨q2,q1,e,he,rfl,rfl⟩)
  have:=xg h.ok.nd hb j2 qO j3
  rw[hi3 a (by omega) (yR ha)]at d3
  cases d3
 rcases Gw P l (bf n P) T P.length with ⟨_,kg⟩ | ⟨b,hb,oS,hbf,sZ⟩
 ·rw[kg i OB]at V5;cases V5
 obtain⟨p,hp⟩:∃p,P[b]?=some p:=⟨P[b],bc oS⟩
 have fw:=bH hp
 obtain⟨wK,hbF⟩:=(RS h hr hO hp).1 hbf
 have E7:p ∉ out:=fun hm=>by
  obtain⟨j,hj,nR⟩:=(hO.mem p).1 hm
  obtain⟨z,hz⟩:=List.exists_mem_of_ne_nil _ (h.ok.ne p fw)
  rw[xg h.ok.nd hp nR hz hz,hj]at wK;cases wK
 have WR:∀z∈p,z ∉ out.flatten:=fun z hz hm=>by
  obtain⟨q,hq,Oh⟩:=oX.1 hm
  obtain⟨j,hj,nR⟩:=(hO.mem q).1 hq
  rw[xg h.ok.nd hp nR hz Oh,hj]at wK;cases wK
 have bZ:(out.flatten++p).Nodup:=oZ.2 ⟨hO.nd,(h.ok.BH p fw).imp fun h=>by omega,fun x hx y hy e=>WR y hy (e▸hx)⟩
 have qp:∀z∈out.flatten++p,0≤z∧z<(n:Int):=fun z hz=>by
  rcases bP.1 hz with hz | hz
  ·obtain⟨q,hq,Oh⟩:=oX.1 hz
   obtain⟨j,_,nR⟩:=(hO.mem q).1 hq
   exact h.ok.node q (bH nR) z Oh
  ·exact h.ok.node p fw z hz
 have hlen:=CQ n _ bZ qp
 rw[bG]at hlen
 have uA:=mm.2 (h.ok.ne p fw)
 refine⟨b,p,hb,hp,⟨by rw[List.length_set];exact hO.tl,by rw[List.length_append,hO.ol];rfl,by rw[count_set (by rw[hO.tl];exact oS) wK,hO.aD],fun q=>?_,by rw[List.flatten_append];simpa using bZ⟩,by omega,?_⟩
 ·rw[bP,a8,hO.mem]
  constructor
  ·rintro (⟨j,hj,nR⟩ | rfl)
   ·exact⟨j,by rw[KK];split;rfl;exact hj,nR⟩
   ·exact⟨b,by rw[KK,ag ⟨rfl,by rw[hO.tl];exact oS⟩],hp⟩
  ·rintro⟨j,hj,nR⟩
   rw[KK]at hj
   by_cases e:b=j
   ·subst e;rw[hp]at nR;exact .inr (Option.some.inj nR).symm
   ·rw[ah (fun h=>e h.1)]at hj
    exact .inl ⟨j,hj,nR⟩
 have V4:∀{j:Nat} {q:List Int},P[j]?=some q→ir P j∈q∧ir P j=q.headD 0∧∀z∈q,ir P j≤z:=fun {j q} hj=>by
  have aO:=h.ok.ne q (bH hj)
  have hs:=h.ok.BH q (bH hj)
  unfold ir
  rw[vC hj]
  cases q with
  |nil=>exact absurd rfl aO
  |cons z q=>
   refine⟨bV ..,rfl,fun y hy=>?_⟩
   rcases da.1 hy with rfl | hy
   ·exact lf _
   ·have:=(ta.1 hs).1 y hy
    show z≤y
    omega
 obtain⟨m1,m2,_⟩:=V4 hp
 have hhn:=h.ok.node p fw _ m1
 refine⟨(ir P b).toNat,Y2 (by omega) ?_ fun a' JA=>JX.2 fun hc=>?_,?_⟩
 ·unfold Ii
  rw[lT hhn.1,L6 h.ok fw m1,hbF,JG,bL,decide_eq_true_eq,jq]
  exact⟨m2.symm,JX.2 fun hm=>WR _ m1 (Dr.1 hm)⟩
 ·unfold Ii at hc
  rw[bL,bL,decide_eq_true_eq,jq]at hc
  obtain⟨⟨c1,c2⟩,c3⟩:=hc
  obtain⟨j,q,hj,hq,_⟩:=h.idx (x:=(a':Int)) (by omega)
  rw[L6 h.ok (bH hj) hq]at c1 c3
  obtain⟨_,m4,_⟩:=V4 hj
  have hjT:T.getD j false=false:=JX.2 fun ht=>by
   have:sQ out.flatten a'=true:=Dr.2 (oX.2 ⟨q,(hO.mem q).2 ⟨j,ht,hj⟩,hq⟩)
   rw[this]at c2;cases c2
  have:=sZ j (yR hj) ((RS h hr hO hj).2 ⟨hjT,c3⟩)
  rw[m4,c1]at this
  omega
 ·rw[lT hhn.1];exact L6 h.ok fw m1
theorem Hn{n:Nat}{l:List bg}{P:List (List Int)}(h:oL n l P)(hr:∀e∈l,(0≤e.1∧e.1<(n:Int))∧0≤e.2.1∧e.2.1<(n:Int)):∀k,k≤P.length→OI P k (dB P l (bf n P) k).1 (dB P l (bf n P) k).2∧(k<P.length→∃b:Nat,fk P l (bf n P) (dB P l (bf n P) k).1 P.length=b∧b<P.length)∧∀f,Eh n l (k+f) ([],[])=Eh n l f ((dB P l (bf n P) k).2,(dB P l (bf n P) k).2.flatten):=by
 intro k
 induction k with
 |zero=>
  intro _
  have kg:∀i,¬((List.replicate P.length false).getD i false=true):=fun i h1=>by
   rw[aR,uT]at h1
   split at h1 <;> cases h1
  have h0:OI P 0 (List.replicate P.length false) []:=⟨List.length_replicate,rfl,(by rw[List.countP_eq_zero];intro x hx;rw[List.eq_of_mem_replicate hx];simp),fun q=>⟨fun h=>absurd h (by simp),fun ⟨i,h1,_⟩=>absurd h1 (kg i)⟩,List.nodup_nil⟩
  refine⟨h0,fun hk=>?_,fun f=>by rw[dK];rfl⟩
  obtain⟨b,p,hb,hp,_⟩:=Lv h hr hk h0
  exact⟨b,hb,yR hp⟩
 |succ k ih=>
  intro hk
  obtain⟨hO,_,hf⟩:=ih (by omega)
  obtain⟨b,p,hb,hp,yr,ab,a,ha,wL⟩:=Lv h hr (by omega) hO
  have e1:(dB P l (bf n P) (k+1)).1=(dB P l (bf n P) k).1.set b true:=by
   show (dB P l (bf n P) k).1.set (fk P l (bf n P) (dB P l (bf n P) k).1 P.length).toNat true=_
   rw[hb,bU]
  have e2:(dB P l (bf n P) (k+1)).2=(dB P l (bf n P) k).2++[p]:=by
   show (dB P l (bf n P) k).2++[P.getD (fk P l (bf n P) (dB P l (bf n P) k).1 P.length).toNat []]=_
   rw[hb,bU,vC hp]
  rw[e1,e2]
  refine⟨yr,fun ef=>?_,fun f=>?_⟩
  ·obtain⟨b2,p2,p7,dz,_⟩:=Lv h hr ef yr
   exact⟨b2,p7,yR dz⟩
  ·rw[show k+1+f=k+(f+1) by omega,hf]
   show (if _ then _ else _)=_
   rw[ag ab,ha]
   show Eh n l f (_++[ry n l a],_++ry n l a)=_
   rw[wL,List.flatten_append];simp
theorem MC{n:Nat}{l:List bg}{P:List (List Int)}(h:oL n l P)(hr:∀e∈l,(0≤e.1∧e.1<(n:Int))∧0≤e.2.1∧e.2.1<(n:Int)):(dB P l (bf n P) P.length).2=kd n l:=by
 obtain⟨hO,_,hf⟩:=Hn h hr P.length (aM _)
 have hl:=(CO h.ok).1
 have hf:=hf (n+1-P.length)
 rw[show P.length+(n+1-P.length)=n+1 by omega]at hf
 unfold kd
 rw[hf]
 obtain⟨f,hfe⟩:∃f,n+1-P.length=f+1:=⟨n-P.length,by omega⟩
 rw[hfe]
 show _=(if _ then _ else _:List (List Int)×List Int).1
 have cf:∀i,i<P.length→(dB P l (bf n P) P.length).1.getD i false=true:=fun i hi=>by
  have hc:(dB P l (bf n P) P.length).1.countP id=(dB P l (bf n P) P.length).1.length:=by rw[hO.aD,hO.tl]
  have:=List.countP_eq_length.1 hc _ (cD (n:=i) (by rw[hO.tl];exact hi))
  rw[aR,bc (by rw[hO.tl];exact hi)];exact this
 have l9:∀x∈(List.range n).map (fun i:Nat=>(i:Int)),x∈(dB P l (bf n P) P.length).2.flatten:=fun x hx=>by
  obtain⟨i,hi,rfl⟩:=cY.1 hx
  have hi:=fA.1 hi
  obtain⟨j,p,hj,hp,_⟩:=h.idx (x:=(i:Int)) (by omega)
  exact oX.2 ⟨p,(hO.mem p).2 ⟨j,cf j (yR hj),hj⟩,hp⟩
 have ay:=Ln (l:=(List.range n).map (fun i:Nat=>(i:Int))) (by rw[List.nodup_iff_pairwise_ne,uP];exact List.pairwise_lt_range.imp fun h=>by omega) l9
 rw[cb,oY]at ay
 rw[ah (by show ¬((dB P l (bf n P) P.length).2.flatten.length<n);omega)]
end Go.Proofs.YtnikdflhefijbaaGreat
