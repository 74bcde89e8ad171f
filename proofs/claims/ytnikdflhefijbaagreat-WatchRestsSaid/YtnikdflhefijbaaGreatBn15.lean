import Derived.Test.YtnikdflhefijbaaGreatBn13
import Derived.Test.YtnikdflhefijbaaGreatBn14
import Derived.Test.YtnikdflhefijbaaGreatBn5
import Derived.Test.YtnikdflhefijbaaGreatBn8
import Derived.Test.YtnikdflhefijbaaGreatBn9
import Derived.Test.YtnikdflhefijbaaGreatBn10
namespace Go.Proofs.YtnikdflhefijbaaGreat
open Go.RowKit
set_option maxRecDepth 100000
def mj(nx:Int→List Int)(seen:List Int):Nat→Nat
 | 0=>0
 |n+1=>mj nx seen n+if (n:Int)∈seen then 0 else (nx n).length+2
theorem GM{nx:Int→List Int}{seen:List Int}{b:Nat}(hb:(b:Int) ∉ seen):∀n,mj nx (seen++[(b:Int)]) n+(if b<n then (nx b).length+2 else 0)=mj nx seen n
 | 0=>rfl
 |n+1=>by
  have ih:=GM (nx:=nx) hb n
  unfold mj
  by_cases h:b=n
  ·subst h
   rw[ag (Kc _)]at ih
   rw[if_pos (by simp),if_neg hb,if_pos (Nat.lt_succ_self _)]
   omega
  ·have h1:((n:Int)∈seen++[(b:Int)])↔(n:Int)∈seen:=by
    rw[bV,bB]
    exact⟨fun h'=>h'.elim id fun e=>absurd (Int.ofNat.inj e).symm h,.inl⟩
   by_cases h2:(n:Int)∈seen
   ·rw[ah (h1.2 h2),ah h2]
    by_cases h3:b<n
    ·rw[ah h3]at ih;rw[ah (by omega)];omega
    ·rw[ag h3]at ih;rw[ag (by omega)];omega
   ·rw[ag (fun h'=>h2 (h1.1 h')),ag h2]
    by_cases h3:b<n
    ·rw[ah h3]at ih;rw[ah (by omega)];omega
    ·rw[ag h3]at ih;rw[ag (by omega)];omega
def er(nx:Int→List Int):List (Int×Nat)→Nat
 | []=>0
 |t::w=>er nx w+((nx t.1).length-t.2)+1
def sP(n:Nat)(met:List Bool)(seen:List Int):Prop:=met.length=n∧∀u:Nat,u<n→met.getD u false=decide ((u:Int)∈seen)
theorem sP.at_{n:Nat}{met:List Bool}{seen:List Int}(h:sP n met seen){a:Int}(ha:0≤a∧a<n):met.getD a.toNat false=decide (a∈seen):=by
 have:=h.2 a.toNat (by omega)
 rw[ma ha.1]at this
 exact this
theorem sP.set{n:Nat}{met:List Bool}{seen:List Int}(h:sP n met seen){a:Int}(ha:0≤a∧a<n):sP n (met.set a.toNat true) (seen++[a]):=by
 refine⟨by rw[cR];exact h.1,fun u hu=>?_⟩
 rw[aZ,fj]
 by_cases e:a.toNat=u
 ·subst e
  rw[ah rfl,ah (by rw[h.1];omega),ma ha.1]
  simp
 ·rw[ag e,← aZ,h.2 u hu]
  have e2:¬(u:Int)=a:=fun e'=>e (by omega)
  simp[e2]
structure j8(n:Nat)(nx:Int→List Int)(F:List Int)(met:List Bool)(seen out:List Int)(ie:List (Int×Nat)):Prop where
 nS:sP n met seen
 nd:seen.Nodup
 rg:∀x∈seen,0≤x∧x<(n:Int)
 len:out.length+ie.length=seen.length
 wy:∀t∈ie,(0≤t.1∧t.1<(n:Int))∧t.2≤(nx t.1).length
 tell:F=out++lR n nx ie seen
 mem:∀x,x∈seen↔x∈out++ie.map Prod.fst
 od:(out++ie.map Prod.fst).Nodup
theorem GY:∀(n:Nat) (l:List Int),l.Nodup→(∀z∈l,0≤z∧z<(n:Int))→l.length≤n
 | 0,l,_,h=>by
  cases l with
  |nil=>exact a8 _
  |cons z l=>have:=h z (cj ..);omega
 |n+1,l,hn,h=>by
  have h1:=GY n (l.erase (n:Int)) (hn.erase _) (fun z hz=>by
   rw[hn.mem_erase_iff]at hz
   have:=h z hz.2
   have:=hz.1
   omega)
  have h2:=List.length_erase (a:=(n:Int)) (l:=l)
  split at h2 <;> omega
theorem j8.small{n:Nat}{nx:Int→List Int}{F:List Int}{met:List Bool}{seen out:List Int}{ie:List (Int×Nat)}(h:j8 n nx F met seen out ie):out.length+ie.length≤n:=by
 rw[h.len];exact GY n seen h.nd h.rg
theorem j8.skip{n:Nat}{nx:Int→List Int}{F:List Int}{met:List Bool}{seen out:List Int}{v:Int}{k:Nat}{w:List (Int×Nat)}(h:j8 n nx F met seen out ((v,k)::w))(hk:k<(nx v).length)(hb:(nx v)[k]∈seen):j8 n nx F met seen out ((v,k+1)::w):=
 ⟨h.nS,h.nd,h.rg,h.len,fun t ht=>by
  rcases eB.1 ht with rfl | ht
  ·exact⟨(h.wy (v,k) (cj ..)).1,hk⟩
  ·exact h.wy t (dp _ ht),by rw[h.tell,abI hk hb],h.mem,h.od⟩
theorem j8.push{n:Nat}{nx:Int→List Int}(cU:∀x,∀y∈nx x,0≤y∧y<(n:Int)){F:List Int}{met:List Bool}{seen out:List Int}{v:Int}{k:Nat}{w:List (Int×Nat)}(h:j8 n nx F met seen out ((v,k)::w))(hk:k<(nx v).length)(hb:(nx v)[k] ∉ seen):j8 n nx F (met.set (nx v)[k].toNat true) (seen++[(nx v)[k]]) out (((nx v)[k],0)::(v,k+1)::w):=by
 have hr:=cU v _ (bP hk)
 refine⟨h.nS.set hr,List.nodup_append.2 ⟨h.nd,by simp,fun a ha b yl e=>?_⟩,fun x hx=>?_,?_,fun t ht=>?_,by rw[h.tell,abJ cU hk hb],fun x=>?_,?_⟩
 ·rw[bB.1 yl]at e
  exact hb (e▸ha)
 ·rcases bV.1 hx with hx | hx
  ·exact h.rg x hx
  ·rw[bB.1 hx];exact hr
 ·have:=h.len
  rw[bZ]
  show out.length+(w.length+1+1)=seen.length+1
  have this:out.length+(w.length+1)=seen.length:=this
  omega
 ·rcases eB.1 ht with rfl | ht
  ·exact⟨hr,bA _⟩
  ·rcases eB.1 ht with rfl | ht
   ·exact⟨(h.wy (v,k) (cj ..)).1,hk⟩
   ·exact h.wy t (dp _ ht)
 ·rw[bV,h.mem,bV,bV,bB]
  show _↔_∨x∈(nx v)[k]::v::w.map Prod.fst
  rw[eB (a:=x)]
  exact⟨fun h'=>h'.elim (fun h'=>h'.elim .inl fun h'=>.inr (.inr h')) fun h'=>.inr (.inl h'),fun h'=>h'.elim (fun h'=>.inl (.inl h')) fun h'=>h'.elim .inr fun h'=>.inl (.inr h')⟩
 ·have hp:(out++(nx v)[k]::v::w.map Prod.fst).Perm ((nx v)[k]::(out++v::w.map Prod.fst)):=oh
  exact hp.nodup_iff.2 (mE.2 ⟨fun hm=>hb ((h.mem _).2 hm),h.od⟩)
theorem j8.pop{n:Nat}{nx:Int→List Int}{F:List Int}{met:List Bool}{seen out:List Int}{v:Int}{k:Nat}{w:List (Int×Nat)}(h:j8 n nx F met seen out ((v,k)::w))(hk:(nx v).length≤k):j8 n nx F met seen (out++[v]) w:=by
 refine⟨h.nS,h.nd,h.rg,?_,fun t ht=>h.wy t (dp _ ht),by rw[h.tell,adW hk,dU];rfl,fun x=>by rw[h.mem,dU];rfl,by rw[dU];exact h.od⟩
 have:=h.len
 rw[bZ]
 have this:out.length+(w.length+1)=seen.length:=this
 show out.length+1+w.length=_
 omega
theorem j8.top{n:Nat}{nx:Int→List Int}{met:List Bool}{out:List Int}(hm:sP n met out)(hn:out.Nodup)(hr:∀x∈out,0≤x∧x<(n:Int)){a:Int}(ha:0≤a∧a<(n:Int))(h:a ∉ out):j8 n nx (out++ia nx (n+1) a out) (met.set a.toNat true) (out++[a]) out [(a,0)]:=by
 refine⟨hm.set ha,List.nodup_append.2 ⟨hn,by simp,fun x hx b yl e=>?_⟩,fun x hx=>?_,by rw[List.length_append];rfl,fun t ht=>by rw[List.mem_singleton.1 ht];exact⟨ha,Nat.zero_le _⟩,by rw[adV h],fun _=>Iff.rfl,?_⟩
 ·rw[bB.1 yl]at e
  exact h (e▸hx)
 ·rcases bV.1 hx with hx | hx
  ·exact hr x hx
  ·rw[bB.1 hx];exact ha
 ·refine List.nodup_append.2 ⟨hn,by simp,fun x hx b yl e=>?_⟩
  rw[bB.1 (show b∈[a] from yl)]at e
  exact h (e▸hx)
theorem j8.done{n:Nat}{nx:Int→List Int}{F:List Int}{met:List Bool}{seen out:List Int}(h:j8 n nx F met seen out []):F=out∧sP n met F∧F.Nodup∧∀x∈F,0≤x∧x<(n:Int):=by
 have e:F=out:=by rw[h.tell];unfold lR;exact ni _
 have hm:∀x,x∈seen↔x∈out:=fun x=>by have:=h.mem x;rwa [show out++List.map Prod.fst []=out from ni _]at this
 have ho:=h.od
 rw[show out++List.map Prod.fst []=out from ni _]at ho
 subst e
 exact⟨rfl,⟨h.nS.1,fun u hu=>(h.nS.2 u hu).trans (by rw[decide_eq_decide];exact hm _)⟩,ho,fun x hx=>h.rg x ((hm x).2 hx)⟩
set_option maxHeartbeats 8000000
theorem X6{P:Program}{TT:TypeId→Option TI}{fn:Go.Func}{a c:Go.Code}{xs:List AV}{σ:Hp}{R:AV→Hp→Prop}{S:Type}(hb:fn.body=some (.seq a (.scope c)))(gk:S→Nat)(L:S→List (Nat×AV))(H:S→Hp)(p:S→Prop)(μ:S→Nat)
  (hr:D2 (mQ P TT 998) c gk L H p μ (vH TT fn.results.toList R))
  (h:D2 (mQ P TT 998) c gk L H p μ (vH TT fn.results.toList R)→codeF P TT (mQ P TT 999) (.seq a (.scope c)) (t0 xs) σ (vH TT fn.results.toList R)):vJ P TT fn xs σ R:=by
 have h1:mQ P TT 1000 (.seq a (.scope c)) (t0 xs) σ (vH TT fn.results.toList R):=h hr
 unfold vJ
 rw[hb]
 exact h1
abbrev P7:=(Bool×Int×List Bool×List Int)×(List (Int×Nat)×Int×Nat)×(Nat×List AV)×(AV×Hp×List Int)
def VsP(n:Nat)(nx:Int→List Int)(F:List Int)(x:P7):Prop:=match x.1.1 with
 |true=>j8 n nx F (x.1.2.2.1.set x.1.2.1.toNat true) (x.1.2.2.2++[x.1.2.1]) x.2.2.2.2.2 ((x.1.2.1,0)::(x.2.1.2.1,x.2.1.2.2)::x.2.1.1.reverse)∧x.1.2.2.1.length=n∧0≤x.1.2.1∧x.1.2.1<n
 |false=>j8 n nx F x.1.2.2.1 x.1.2.2.2 x.2.2.2.2.2 ((x.2.1.2.1,x.2.1.2.2)::x.2.1.1.reverse)
def VsM(n:Nat)(nx:Int→List Int)(x:P7):Nat:=match x.1.1 with
 |true=>er nx ((x.1.2.1,0)::(x.2.1.2.1,x.2.1.2.2)::x.2.1.1.reverse)+mj nx (x.1.2.2.2++[x.1.2.1]) n+1
 |false=>er nx ((x.2.1.2.1,x.2.1.2.2)::x.2.1.1.reverse)+mj nx x.1.2.2.2 n
theorem af1(n:Nat)(l:List bK)(a:Int)(met:List Bool)(out:List Int)(bm:Nat)(vo:AV)(vV σ:Hp)(_hl:l.length≤100000)(hn:n≤1000)(ha:0≤a∧a<n)(hm:sP n met out)(cf:out.Nodup)(OH:∀x∈out,0≤x∧x<(n:Int))(hO:Acc 1 out.length vo vV (ao out)):
  ACalls Tryz.prog 311 [.ae (.slice (.int .i64)) (ca n l),.af bm 0 n 1,.int .i64 a,.via vo] ((bm,bN met)::(vV++σ))
   (fun r σ'=>∃rW lv rZ rR,lv=out++ia (au n l) (n+1) a out∧sP n rW lv∧lv.Nodup∧(∀x∈lv,0≤x∧x<(n:Int))∧Acc 1 lv.length rZ rR (ao lv)∧r=rZ∧σ'=(bm,bN rW)::(rR++σ)):=by
 have cU:∀x,∀y∈au n l x,0≤y∧y<(n:Int):=fun x y hy=>(lL.1 hy).1
 obtain⟨F,hF⟩:∃F,out++ia (au n l) (n+1) a out=F:=⟨_,rfl⟩
 refine ar Tryz.func311 ?_
 refine X6 (S:=P7) rfl (fun x=>match x.1.1 with | true=>0 | false=>1)
  (fun x=>[(0,.ae (.slice (.int .i64)) (ca n l)),(1,.af bm 0 n 1),(2,.int .i64 x.1.2.1),(3,.via x.2.2.2.1),(9,.af x.2.2.1.1 0 (x.2.1.1.length+1) 2)])
  (fun x=>(bm,bN x.1.2.2.1)::(x.2.2.1.1,bL (x.2.1.1++[(x.2.1.2.1,x.2.1.2.2)])++x.2.2.1.2)::(x.2.2.2.2.1++σ))
  (fun x=>VsP n (au n l) F x∧Acc 1 x.2.2.2.2.2.length x.2.2.2.1 x.2.2.2.2.1 (ao x.2.2.2.2.2))
  (fun x=>VsM n (au n l) x) ?_ ?_
 ·rintro⟨⟨f,b,nI,iS⟩,⟨wy,v,k⟩,⟨bw,J⟩,⟨E3,Gn,lu⟩⟩ g ⟨hP,yq⟩
  have yq:Acc 1 lu.length E3 Gn (ao lu):=yq
  cases f with
  |true=>
   obtain⟨hV,NW,mC,sf⟩:=hP
   have hV:j8 n (au n l) F (nI.set b.toNat true) (iS++[b]) lu ((b,0)::(v,k)::wy.reverse):=hV
   have NW:nI.length=n:=NW
   have mC:0≤b:=mC
   have sf:b<n:=sf
   have wz:(bL (wy++[(v,k)])).length=(wy.length+1)*2:=by rw[mJ,bZ];rfl
   have ai5:=hV.small
   rw[ik,ik,tg]at ai5
   refine aM ?_
   refine cT 0 rfl (yU rfl true mC (by omega)) ?_
   intro aB
   refine yI (k:=wy.length+1) (n:=1) [_,_] (.af bw (wy.length+1) (bL (wy++[(v,k)])) J wz) (.af 0 aB 0 1 _ rfl (cI rfl)) rfl (by omega) (by decide) (by decide) (fun v' bD h'=>?_)
   obtain⟨pv,J2,rfl,rfl,_⟩:=h'.pos (by omega)
   have IE:(wy++[(v,k)]).reverse=(v,k)::wy.reverse:=by rw[List.reverse_append];rfl
   have qT:bL (wy++[(v,k)])++[AV.int .i64 b,.int .i64 ((0:Nat):Int)]++J2=bL ((wy++[(v,k)])++[(b,0)])++J2:=by rw[pz (wy++[(v,k)]) [(b,0)]];rfl
   have tT:(wy++[(v,k)]).length=wy.length+1:=by rw[bZ];rfl
   rw[← IE]at hV
   have xT:=hV.wy (b,0) (cj ..)
   have dy:0≤b∧b<(n:Int):=xT.1
   have B6:0≤(au n l b).length:=xT.2
   have mz:=yM n l b
   have qV:=hV.small
   rw[ik,tg,tT]at qV
   have yh:((nI.set b.toNat true)).length=n:=hV.nS.1
   have nM:IntKind.i64.wrap ((((wy.length+1)+1:Nat):Int)-1)=(((wy.length+1):Nat):Int):=by rw[cE (by omega)];omega
   have hX:0+(IntKind.i64.wrap ((((wy.length+1)+1:Nat):Int)-1)).toNat*2=((wy++[(v,k)])).length*2:=by rw[nM,tT];omega
   have nf:ep ⟨.int .i64,1,8,[.int .i64 0]⟩ (bL (wy++[(v,k)])++[AV.int .i64 b,.int .i64 ((0:Nat):Int)]++J2) (0+(IntKind.i64.wrap ((((wy.length+1)+1:Nat):Int)-1)).toNat*2+0)=some (.int .i64 b):=by rw[qT];exact jf rfl (by rw[hX];exact so rfl)
   have l0:ep ⟨.int .i64,1,8,[.int .i64 0]⟩ (bL (wy++[(v,k)])++[AV.int .i64 b,.int .i64 ((0:Nat):Int)]++J2) (0+(IntKind.i64.wrap ((((wy.length+1)+1:Nat):Int)-1)).toNat*2+1)=some (.int .i64 ((0:Nat):Int)):=by rw[qT];exact jf rfl (by rw[hX];exact CW rfl)
   have eG:(bL ((wy++[(v,k)])++[(b,0)])++J2).length=((wy++[(v,k)])).length*2+2+(J2:List AV).length:=by rw[bZ,mJ,bZ];show (_+1)*2+_=_;omega
   have n0:IntKind.i64.wrap (((0:Nat):Int)+1)=((0+1:Nat):Int):=by rw[cE (by omega)];omega
   have wA:kX ⟨.int .i64,1,8,[.int .i64 0]⟩ (bL (wy++[(v,k)])++[AV.int .i64 b,.int .i64 ((0:Nat):Int)]++J2) (0+(IntKind.i64.wrap ((((wy.length+1)+1:Nat):Int)-1)).toNat*2+1) (.int .i64 (IntKind.i64.wrap (((0:Nat):Int)+1)))=some (bL ((wy++[(v,k)])++[(b,0+1)])++J2):=by
    rw[qT,rH rfl rfl (by rw[hX,eG];omega),hX,n0,Df rfl]
   have vE:2=2∧0≤IntKind.i64.wrap ((((wy.length+1)+1:Nat):Int)-1)∧IntKind.i64.wrap ((((wy.length+1)+1:Nat):Int)-1)<(((wy.length+1)+1:Nat):Int):=⟨rfl,by omega,by omega⟩
   refine aG.mk vE ?_
   refine .quiet (by kernel_rfl) ?_
   refine bf 2 rfl l0 ?_
   refine bf 2 rfl nf ?_
   refine aG.mk rfl ?_
   refine bE.mk (au n l b) (by omega) (pG dy) ?_
   refine ak (p:=((0:Nat):Int)<(au n l b).length) (fun ab=>?_) (fun aq=>?_)
   ·have ab:0<(au n l b).length:=by omega
    obtain⟨z,hz⟩:∃z,(au n l b)[0]=z:=⟨_,rfl⟩
    have Ff:z∈au n l b:=hz▸bP ab
    have ij:=(lL.1 Ff).1
    refine .quiet (by kernel_rfl) ?_
    refine bf 2 rfl nf ?_
    refine aG.mk rfl ?_
    refine bE.mk (au n l b) (by omega) (pG dy) ?_
    refine bf 2 rfl l0 ?_
    refine aG.mk rfl ?_
    refine bE.mk z (by omega) ((get_some ab).trans (congrArg some hz)) ?_
    refine bf 2 rfl l0 ?_
    refine cT 2 rfl wA ?_
    refine aM ?_
    refine eY.kL 1 _ _ rfl (tE rfl ij.1 (by rw[yh];omega)) (fun c2=>?_) (fun c2=>?_)
    ·have jI:z∈(iS++[b]):=by rw[hV.nS.at_ ij]at c2;exact fk c2
     have hS:=hV.skip ab (by rw[hz];exact jI)
     have jB:er (au n l) ((b,0+1)::((wy++[(v,k)])).reverse)+1=er (au n l) ((b,0)::((wy++[(v,k)])).reverse):=by show er (au n l) ((wy++[(v,k)])).reverse+((au n l b).length-(0+1))+1+1=er (au n l) ((wy++[(v,k)])).reverse+((au n l b).length-0)+1;omega
     exact .mk ((false,z,(nI.set b.toNat true),(iS++[b])),((wy++[(v,k)]),b,0+1),(pv,J2),(E3,Gn,lu)) rfl (by show er (au n l) ((b,0+1)::((wy++[(v,k)])).reverse)+mj (au n l) ((iS++[b])) n<_;(show _<er (au n l) ((b,0)::(v,k)::wy.reverse)+mj (au n l) (iS++[b]) n+1);rw[← IE];omega) ⟨hS,yq⟩ ⟨rfl,rfl,rfl,rfl,by rw[tT];rfl,trivial⟩ (.drop 0 1 (.refl _))
    ·have jI:z ∉ (iS++[b]):=by rw[hV.nS.at_ ij]at c2;exact nj c2
     have hS:=hV.push cU ab (by rw[hz];exact jI)
     rw[hz]at hS
     have jB:er (au n l) ((z,0)::(b,0+1)::((wy++[(v,k)])).reverse)=er (au n l) ((b,0)::((wy++[(v,k)])).reverse)+(au n l z).length:=by show er (au n l) ((wy++[(v,k)])).reverse+((au n l b).length-(0+1))+1+((au n l z).length-0)+1=er (au n l) ((wy++[(v,k)])).reverse+((au n l b).length-0)+1+(au n l z).length;omega
     have pj:=GM (nx:=au n l) (seen:=(iS++[b])) (b:=z.toNat) (by rw[ma ij.1];exact jI) n
     rw[ah (by omega),ma ij.1]at pj
     exact .mk ((true,z,(nI.set b.toNat true),(iS++[b])),((wy++[(v,k)]),b,0+1),(pv,J2),(E3,Gn,lu)) rfl (by show er (au n l) ((z,0)::(b,0+1)::((wy++[(v,k)])).reverse)+mj (au n l) (((iS++[b]))++[z]) n+1<_;(show _<er (au n l) ((b,0)::(v,k)::wy.reverse)+mj (au n l) (iS++[b]) n+1);rw[← IE];omega) ⟨⟨hS,yh,ij.1,ij.2⟩,yq⟩ ⟨rfl,rfl,rfl,rfl,by rw[tT];rfl,trivial⟩ (.drop 0 1 (.refl _))
   ·have aq:(au n l b).length≤0:=by omega
    have hS:=hV.pop aq
    refine bf 2 rfl nf ?_
    intro bs
    refine jP (k:=(lu).length) (n:=1) [_,_,_,_] yq (.af 0 bs 0 1 _ rfl (cI rfl)) rfl (by omega) (by decide) (by decide) (fun qN nk yp=>?_)
    have yo:Acc 1 ((lu)++[b]).length qN nk (ao ((lu)++[b])):=by
     rw[List.length_append,show ao ((lu)++[b])=ao (lu)++[.int .i64 b] by simp[ao]];exact yp
    have qE:(IntKind.i64.wrap ((((wy.length+1)+1:Nat):Int)-1)).toNat-Int.toNat 0=(wy.length+1):=by rw[nM];omega
    have df:0≤(0:Int)∧(0:Int)≤IntKind.i64.wrap ((((wy.length+1)+1:Nat):Int)-1)∧IntKind.i64.wrap ((((wy.length+1)+1:Nat):Int)-1)≤(((wy.length+1)+1:Nat):Int)∧2=2:=⟨by omega,by omega,by omega,rfl⟩
    refine aG.mk df ?_
    have jq:(IntKind.i64.wrap ((((wy.length+1)+1:Nat):Int)-1)).toNat-Int.toNat 0=(wy).length+1:=qE.trans (rfl)
    have iX:AV.af pv (0+Int.toNat 0*2) ((IntKind.i64.wrap ((((wy.length+1)+1:Nat):Int)-1)).toNat-Int.toNat 0) 2=.af pv 0 ((wy).length+1) 2:=by rw[jq];rfl
    have oR:bL (wy++[(v,k)])++[AV.int .i64 b,.int .i64 ((0:Nat):Int)]++J2=bL (wy++[(v,k)])++([.int .i64 b,.int .i64 ((0:Nat):Int)]++J2):=by rw[qT,pz,dU];rfl
    rw[IE]at hS
    refine ak (p:=(0:Int)<(((IntKind.i64.wrap ((((wy.length+1)+1:Nat):Int)-1)).toNat-Int.toNat 0:Nat):Int)) (fun c3=>?_) (fun c3=>?_)
    rotate_left
    ·rw[jq]at c3;omega
    have jB:er (au n l) ((v,k)::(wy).reverse)+1≤er (au n l) ((b,0)::(v,k)::(wy).reverse):=by show _≤er (au n l) ((v,k)::(wy).reverse)+((au n l b).length-0)+1;omega
    have hE:(bm,bN (nI.set b.toNat true))::(pv,bL (wy++[(v,k)])++[AV.int .i64 b,.int .i64 ((0:Nat):Int)]++J2)::(nk++σ)=(bm,bN (nI.set b.toNat true))::(pv,bL (wy++[(v,k)])++([.int .i64 b,.int .i64 ((0:Nat):Int)]++J2))::(nk++σ):=by rw[oR]
    exact .mk ((false,b,(nI.set b.toNat true),(iS++[b])),(wy,v,k),(pv,[AV.int .i64 b,.int .i64 ((0:Nat):Int)]++J2),(qN,nk,(lu)++[b])) rfl (by show er (au n l) ((v,k)::(wy).reverse)+mj (au n l) ((iS++[b])) n<_;(show _<er (au n l) ((b,0)::(v,k)::wy.reverse)+mj (au n l) (iS++[b]) n+1);omega) ⟨hS,yo⟩ ⟨rfl,rfl,rfl,rfl,iX,trivial⟩ (.drop 0 2 (aL hE))
  |false=>
   have hV:j8 n (au n l) F nI iS lu ((v,k)::wy.reverse):=hP
   have tT:wy.length=wy.length:=rfl
   have qT:bL (wy++[(v,k)])++J=bL (wy++[(v,k)])++J:=rfl
   have xT:=hV.wy (v,k) (cj ..)
   have dy:0≤v∧v<(n:Int):=xT.1
   have B6:k≤(au n l v).length:=xT.2
   have mz:=yM n l v
   have qV:=hV.small
   rw[ik,tg,tT]at qV
   have yh:(nI).length=n:=hV.nS.1
   have nM:IntKind.i64.wrap (((wy.length+1:Nat):Int)-1)=((wy.length:Nat):Int):=by rw[cE (by omega)];omega
   have hX:0+(IntKind.i64.wrap (((wy.length+1:Nat):Int)-1)).toNat*2=(wy).length*2:=by rw[nM,tT];omega
   have nf:ep ⟨.int .i64,1,8,[.int .i64 0]⟩ (bL (wy++[(v,k)])++J) (0+(IntKind.i64.wrap (((wy.length+1:Nat):Int)-1)).toNat*2+0)=some (.int .i64 v):=by rw[qT];exact jf rfl (by rw[hX];exact so rfl)
   have l0:ep ⟨.int .i64,1,8,[.int .i64 0]⟩ (bL (wy++[(v,k)])++J) (0+(IntKind.i64.wrap (((wy.length+1:Nat):Int)-1)).toNat*2+1)=some (.int .i64 ((k:Nat):Int)):=by rw[qT];exact jf rfl (by rw[hX];exact CW rfl)
   have eG:(bL (wy++[(v,k)])++J).length=(wy).length*2+2+(J:List AV).length:=by rw[bZ,mJ,bZ];show (_+1)*2+_=_;omega
   have n0:IntKind.i64.wrap (((k:Nat):Int)+1)=((k+1:Nat):Int):=by rw[cE (by omega)];omega
   have wA:kX ⟨.int .i64,1,8,[.int .i64 0]⟩ (bL (wy++[(v,k)])++J) (0+(IntKind.i64.wrap (((wy.length+1:Nat):Int)-1)).toNat*2+1) (.int .i64 (IntKind.i64.wrap (((k:Nat):Int)+1)))=some (bL (wy++[(v,k+1)])++J):=by
    rw[qT,rH rfl rfl (by rw[hX,eG];omega),hX,n0,Df rfl]
   have vE:2=2∧0≤IntKind.i64.wrap (((wy.length+1:Nat):Int)-1)∧IntKind.i64.wrap (((wy.length+1:Nat):Int)-1)<((wy.length+1:Nat):Int):=⟨rfl,by omega,by omega⟩
   refine aG.mk vE ?_
   refine .quiet (by kernel_rfl) ?_
   refine bf 1 rfl l0 ?_
   refine bf 1 rfl nf ?_
   refine aG.mk rfl ?_
   refine bE.mk (au n l v) (by omega) (pG dy) ?_
   refine ak (p:=((k:Nat):Int)<(au n l v).length) (fun ab=>?_) (fun aq=>?_)
   ·have ab:k<(au n l v).length:=by omega
    obtain⟨z,hz⟩:∃z,(au n l v)[k]=z:=⟨_,rfl⟩
    have Ff:z∈au n l v:=hz▸bP ab
    have ij:=(lL.1 Ff).1
    refine .quiet (by kernel_rfl) ?_
    refine bf 1 rfl nf ?_
    refine aG.mk rfl ?_
    refine bE.mk (au n l v) (by omega) (pG dy) ?_
    refine bf 1 rfl l0 ?_
    refine aG.mk rfl ?_
    refine bE.mk z (by omega) ((get_some ab).trans (congrArg some hz)) ?_
    refine bf 1 rfl l0 ?_
    refine cT 1 rfl wA ?_
    refine aM ?_
    refine eY.kL 0 _ _ rfl (tE rfl ij.1 (by rw[yh];omega)) (fun c2=>?_) (fun c2=>?_)
    ·have jI:z∈iS:=by rw[hV.nS.at_ ij]at c2;exact fk c2
     have hS:=hV.skip ab (by rw[hz];exact jI)
     have jB:er (au n l) ((v,k+1)::(wy).reverse)+1=er (au n l) ((v,k)::(wy).reverse):=by show er (au n l) (wy).reverse+((au n l v).length-(k+1))+1+1=er (au n l) (wy).reverse+((au n l v).length-k)+1;omega
     exact .mk ((false,z,nI,iS),(wy,v,k+1),(bw,J),(E3,Gn,lu)) rfl (by show er (au n l) ((v,k+1)::(wy).reverse)+mj (au n l) (iS) n<_;(show _<er (au n l) ((v,k)::wy.reverse)+mj (au n l) iS n);omega) ⟨hS,yq⟩ ⟨rfl,rfl,rfl,rfl,rfl,trivial⟩ (.refl _)
    ·have jI:z ∉ iS:=by rw[hV.nS.at_ ij]at c2;exact nj c2
     have hS:=hV.push cU ab (by rw[hz];exact jI)
     rw[hz]at hS
     have jB:er (au n l) ((z,0)::(v,k+1)::(wy).reverse)=er (au n l) ((v,k)::(wy).reverse)+(au n l z).length:=by show er (au n l) (wy).reverse+((au n l v).length-(k+1))+1+((au n l z).length-0)+1=er (au n l) (wy).reverse+((au n l v).length-k)+1+(au n l z).length;omega
     have pj:=GM (nx:=au n l) (seen:=iS) (b:=z.toNat) (by rw[ma ij.1];exact jI) n
     rw[ah (by omega),ma ij.1]at pj
     exact .mk ((true,z,nI,iS),(wy,v,k+1),(bw,J),(E3,Gn,lu)) rfl (by show er (au n l) ((z,0)::(v,k+1)::(wy).reverse)+mj (au n l) ((iS)++[z]) n+1<_;(show _<er (au n l) ((v,k)::wy.reverse)+mj (au n l) iS n);omega) ⟨⟨hS,yh,ij.1,ij.2⟩,yq⟩ ⟨rfl,rfl,rfl,rfl,rfl,trivial⟩ (.refl _)
   ·have aq:(au n l v).length≤k:=by omega
    have hS:=hV.pop aq
    refine bf 1 rfl nf ?_
    intro bs
    refine jP (k:=(lu).length) (n:=1) [_,_,_] yq (.af 0 bs 0 1 _ rfl (cI rfl)) rfl (by omega) (by decide) (by decide) (fun qN nk yp=>?_)
    have yo:Acc 1 ((lu)++[v]).length qN nk (ao ((lu)++[v])):=by
     rw[List.length_append,show ao ((lu)++[v])=ao (lu)++[.int .i64 v] by simp[ao]];exact yp
    have qE:(IntKind.i64.wrap (((wy.length+1:Nat):Int)-1)).toNat-Int.toNat 0=wy.length:=by rw[nM];omega
    have df:0≤(0:Int)∧(0:Int)≤IntKind.i64.wrap (((wy.length+1:Nat):Int)-1)∧IntKind.i64.wrap (((wy.length+1:Nat):Int)-1)≤((wy.length+1:Nat):Int)∧2=2:=⟨by omega,by omega,by omega,rfl⟩
    refine aG.mk df ?_
    rcases Gc wy with yc | ⟨w',⟨u,i⟩,yc⟩
    ·rw[show wy.reverse=[] by rw[yc];rfl]at hS
     refine ak (p:=(0:Int)<(((IntKind.i64.wrap (((wy.length+1:Nat):Int)-1)).toNat-Int.toNat 0:Nat):Int)) (fun c3=>?_) (fun c3=>?_)
     ·rw[qE]at c3;exact absurd c3 (by rw[yc];decide)
     ·obtain⟨e1,e2,e3,e4⟩:=j8.done hS
      rw[← e1]at yo
      exact .drop 0 1 (.drop 1 1 (.done ⟨nI,F,qN,nk,hF.symm,e2,e3,e4,yo,rfl,rfl⟩))
    ·have yc:wy=w'++[(u,i)]:=by simpa using yc
     have W7:(wy).reverse=(u,i)::w'.reverse:=by rw[yc,List.reverse_append];rfl
     have jq:(IntKind.i64.wrap (((wy.length+1:Nat):Int)-1)).toNat-Int.toNat 0=(w').length+1:=qE.trans (by rw[yc,bZ];rfl)
     have iX:AV.af bw (0+Int.toNat 0*2) ((IntKind.i64.wrap (((wy.length+1:Nat):Int)-1)).toNat-Int.toNat 0) 2=.af bw 0 ((w').length+1) 2:=by rw[jq];rfl
     have oR:bL (wy++[(v,k)])++J=bL (w'++[(u,i)])++([.int .i64 v,.int .i64 ((k:Nat):Int)]++J):=by rw[qT,yc,pz,dU];rfl
     rw[W7]at hS
     refine ak (p:=(0:Int)<(((IntKind.i64.wrap (((wy.length+1:Nat):Int)-1)).toNat-Int.toNat 0:Nat):Int)) (fun c3=>?_) (fun c3=>?_)
     rotate_left
     ·rw[jq]at c3;omega
     have jB:er (au n l) ((u,i)::(w').reverse)+1≤er (au n l) ((v,k)::(wy).reverse):=by rw[← W7];show _≤er (au n l) (wy).reverse+((au n l v).length-k)+1;omega
     have hE:(bm,bN nI)::(bw,bL (wy++[(v,k)])++J)::(nk++σ)=(bm,bN nI)::(bw,bL (w'++[(u,i)])++([.int .i64 v,.int .i64 ((k:Nat):Int)]++J))::(nk++σ):=by rw[oR]
     exact .mk ((false,b,nI,iS),(w',u,i),(bw,[AV.int .i64 v,.int .i64 ((k:Nat):Int)]++J),(qN,nk,(lu)++[v])) rfl (by show er (au n l) ((u,i)::(w').reverse)+mj (au n l) (iS) n<_;(show _<er (au n l) ((v,k)::wy.reverse)+mj (au n l) iS n);omega) ⟨hS,yo⟩ ⟨rfl,rfl,rfl,rfl,iX,trivial⟩ (.drop 0 1 (aL hE))
 ·intro hr
  have NW:=hm.1
  refine aM ?_
  refine eY.kL 0 _ _ rfl (tE rfl ha.1 (by omega)) (fun c1=>?_) (fun c1=>?_)
  ·have ej:a∈out:=by rw[hm.at_ ha]at c1;exact fk c1
   have o6:ia (au n l) (n+1) a out=[]:=by unfold ia;rw[ah ej]
   rw[o6,ni]at hF
   exact .done ⟨met,out,vo,vV,by rw[o6,ni],hm,cf,OH,hO,rfl,rfl⟩
  ·have ej:a ∉ out:=by rw[hm.at_ ha]at c1;exact nj c1
   have hV:=j8.top (nx:=au n l) hm cf OH ha ej
   rw[hF]at hV
   refine aM ?_
   refine cT 0 rfl (yU rfl true ha.1 (by omega)) ?_
   intro aB
   refine yI (k:=0) (n:=1) [_,_] (acc:=[]) .nil (.af 0 aB 0 1 _ rfl (cI rfl)) rfl (by omega) (by decide) (by decide) (fun v' bD h'=>?_)
   obtain⟨bw,J,rfl,rfl,_⟩:=h'.pos (by omega)
   have qT:[]++[AV.int .i64 a,.int .i64 ((0:Nat):Int)]++J=bL (([]:List (Int×Nat))++[(a,0)])++J:=rfl
   have tT:([]:List (Int×Nat)).length=0:=rfl
   have hV:j8 n (au n l) F (met.set a.toNat true) (out++[a]) out ((a,0)::([]:List (Int×Nat)).reverse):=hV
   have xT:=hV.wy (a,0) (cj ..)
   have dy:0≤a∧a<(n:Int):=xT.1
   have B6:0≤(au n l a).length:=xT.2
   have mz:=yM n l a
   have qV:=hV.small
   rw[ik,tg,tT]at qV
   have yh:((met.set a.toNat true)).length=n:=hV.nS.1
   have nM:IntKind.i64.wrap (((0+1:Nat):Int)-1)=((0:Nat):Int):=by rw[cE (by omega)];omega
   have hX:0+(IntKind.i64.wrap (((0+1:Nat):Int)-1)).toNat*2=(([]:List (Int×Nat))).length*2:=by rw[nM,tT];omega
   have nf:ep ⟨.int .i64,1,8,[.int .i64 0]⟩ ([]++[AV.int .i64 a,.int .i64 ((0:Nat):Int)]++J) (0+(IntKind.i64.wrap (((0+1:Nat):Int)-1)).toNat*2+0)=some (.int .i64 a):=by rw[qT];exact jf rfl (by rw[hX];exact so rfl)
   have l0:ep ⟨.int .i64,1,8,[.int .i64 0]⟩ ([]++[AV.int .i64 a,.int .i64 ((0:Nat):Int)]++J) (0+(IntKind.i64.wrap (((0+1:Nat):Int)-1)).toNat*2+1)=some (.int .i64 ((0:Nat):Int)):=by rw[qT];exact jf rfl (by rw[hX];exact CW rfl)
   have eG:(bL (([]:List (Int×Nat))++[(a,0)])++J).length=(([]:List (Int×Nat))).length*2+2+(J:List AV).length:=by rw[bZ,mJ,bZ];show (_+1)*2+_=_;omega
   have n0:IntKind.i64.wrap (((0:Nat):Int)+1)=((0+1:Nat):Int):=by rw[cE (by omega)];omega
   have wA:kX ⟨.int .i64,1,8,[.int .i64 0]⟩ ([]++[AV.int .i64 a,.int .i64 ((0:Nat):Int)]++J) (0+(IntKind.i64.wrap (((0+1:Nat):Int)-1)).toNat*2+1) (.int .i64 (IntKind.i64.wrap (((0:Nat):Int)+1)))=some (bL (([]:List (Int×Nat))++[(a,0+1)])++J):=by
    rw[qT,rH rfl rfl (by rw[hX,eG];omega),hX,n0,Df rfl]
   have vE:2=2∧0≤IntKind.i64.wrap (((0+1:Nat):Int)-1)∧IntKind.i64.wrap (((0+1:Nat):Int)-1)<((0+1:Nat):Int):=⟨rfl,by omega,by omega⟩
   refine aG.mk vE ?_
   refine .quiet (by kernel_rfl) ?_
   refine bf 2 rfl l0 ?_
   refine bf 2 rfl nf ?_
   refine aG.mk rfl ?_
   refine bE.mk (au n l a) (by omega) (pG dy) ?_
   refine ak (p:=((0:Nat):Int)<(au n l a).length) (fun ab=>?_) (fun aq=>?_)
   ·have ab:0<(au n l a).length:=by omega
    obtain⟨z,hz⟩:∃z,(au n l a)[0]=z:=⟨_,rfl⟩
    have Ff:z∈au n l a:=hz▸bP ab
    have ij:=(lL.1 Ff).1
    refine .quiet (by kernel_rfl) ?_
    refine bf 2 rfl nf ?_
    refine aG.mk rfl ?_
    refine bE.mk (au n l a) (by omega) (pG dy) ?_
    refine bf 2 rfl l0 ?_
    refine aG.mk rfl ?_
    refine bE.mk z (by omega) ((get_some ab).trans (congrArg some hz)) ?_
    refine bf 2 rfl l0 ?_
    refine cT 2 rfl wA ?_
    refine aM ?_
    refine eY.kL 1 _ _ rfl (tE rfl ij.1 (by rw[yh];omega)) (fun c2=>?_) (fun c2=>?_)
    ·have jI:z∈(out++[a]):=by rw[hV.nS.at_ ij]at c2;exact fk c2
     have hS:=hV.skip ab (by rw[hz];exact jI)
     have jB:er (au n l) ((a,0+1)::(([]:List (Int×Nat))).reverse)+1=er (au n l) ((a,0)::(([]:List (Int×Nat))).reverse):=by show er (au n l) (([]:List (Int×Nat))).reverse+((au n l a).length-(0+1))+1+1=er (au n l) (([]:List (Int×Nat))).reverse+((au n l a).length-0)+1;omega
     exact xe hr ((false,z,(met.set a.toNat true),(out++[a])),(([]:List (Int×Nat)),a,0+1),(bw,J),(vo,vV,out)) ⟨rfl,⟨hS,hO⟩,⟨rfl,rfl,rfl,rfl,rfl,trivial⟩,(.drop 0 1 (.refl _))⟩
    ·have jI:z ∉ (out++[a]):=by rw[hV.nS.at_ ij]at c2;exact nj c2
     have hS:=hV.push cU ab (by rw[hz];exact jI)
     rw[hz]at hS
     have jB:er (au n l) ((z,0)::(a,0+1)::(([]:List (Int×Nat))).reverse)=er (au n l) ((a,0)::(([]:List (Int×Nat))).reverse)+(au n l z).length:=by show er (au n l) (([]:List (Int×Nat))).reverse+((au n l a).length-(0+1))+1+((au n l z).length-0)+1=er (au n l) (([]:List (Int×Nat))).reverse+((au n l a).length-0)+1+(au n l z).length;omega
     have pj:=GM (nx:=au n l) (seen:=(out++[a])) (b:=z.toNat) (by rw[ma ij.1];exact jI) n
     rw[ah (by omega),ma ij.1]at pj
     exact xe hr ((true,z,(met.set a.toNat true),(out++[a])),(([]:List (Int×Nat)),a,0+1),(bw,J),(vo,vV,out)) ⟨rfl,⟨⟨hS,yh,ij.1,ij.2⟩,hO⟩,⟨rfl,rfl,rfl,rfl,rfl,trivial⟩,(.drop 0 1 (.refl _))⟩
   ·have aq:(au n l a).length≤0:=by omega
    have hS:=hV.pop aq
    refine bf 2 rfl nf ?_
    intro bs
    refine jP (k:=(out).length) (n:=1) [_,_,_,_] hO (.af 0 bs 0 1 _ rfl (cI rfl)) rfl (by omega) (by decide) (by decide) (fun qN nk yp=>?_)
    have yo:Acc 1 ((out)++[a]).length qN nk (ao ((out)++[a])):=by
     rw[List.length_append,show ao ((out)++[a])=ao (out)++[.int .i64 a] by simp[ao]];exact yp
    have qE:(IntKind.i64.wrap (((0+1:Nat):Int)-1)).toNat-Int.toNat 0=0:=by rw[nM];omega
    have df:0≤(0:Int)∧(0:Int)≤IntKind.i64.wrap (((0+1:Nat):Int)-1)∧IntKind.i64.wrap (((0+1:Nat):Int)-1)≤((0+1:Nat):Int)∧2=2:=⟨by omega,by omega,by omega,rfl⟩
    refine aG.mk df ?_
    obtain⟨e1,e2,e3,e4⟩:=j8.done hS
    rw[← e1]at yo
    exact .drop 0 2 (.drop 1 1 (.done ⟨(met.set a.toNat true),F,qN,nk,hF.symm,e2,e3,e4,yo,rfl,rfl⟩))
theorem aiA{t t':Tm}{b off len es:Nat}{e:Sh}{l:List e.T}(k:Nat)(h:t k=.via (.af b off len es))(h':t'=eT t [(k,.ae e l)])(i:Nat):eO b off len es e l (t i) (t' i):=by
 subst h'
 show eO b off len es e l (t i) (match Nat.beq i k with | true=>.ae e l | false=>t i)
 cases hb:Nat.beq i k with
 |true=>rw[jN hb,h];exact .via .here
 |false=>exact .refl _
theorem ahU{t t':Tm}(e:Sh)(k:Nat)(h:t k=.via .ai)(h':t'=eT t [(k,.ae e [])])(i:Nat):eO 0 0 0 0 .bool [] (t i) (t' i):=by
 subst h'
 show eO 0 0 0 0 .bool [] (t i) (match Nat.beq i k with | true=>.ae e [] | false=>t i)
 cases hb:Nat.beq i k with
 |true=>rw[jN hb,h];exact .via (.nil e)
 |false=>exact .refl _
theorem mR.acc{body:Tm→Hp→(Ex→Tm→Hp→Prop)→Prop}{Q:Ex→Tm→Hp→Prop}{t:Tm}(j:Nat)(fr:Hp){acc σ:Hp}{s:Sh}{k:Nat}{v:AV}{cs:List AV}{l:List s.T}(h:Acc s.size k v acc cs)(ht:t j=.via v)(hl:k=l.length)(hc:cs=l.flatMap s.cells)(hp:0<s.size)
  (go:mR body Q (eT t [(j,.ae s l)]) (fr++σ)):mR body Q t (fr++(acc++σ)):=by
 cases h with
 |nil=>
  have iD:l=[]:=iE.1 hl.symm
  subst iD
  exact .nil (ahU s j ht rfl) go
 |af b k cs h=>
  refine .dO (.perm (AY fr [(b,cs)] σ) (.refl _)) ?_
  exact .cJ 0 b 0 k s.size cs s l rfl (by rw[gz,ek (by omega)];exact hc) ⟨hl.symm,rfl,hp⟩ (aiA j ht rfl) go
theorem acs{R:AV→Hp→Prop}(fr:Hp){acc σ:Hp}{s:Sh}{k:Nat}{v x:AV}{cs:List AV}{l:List s.T}(h:Acc s.size k v acc cs)(hl:k=l.length)(hc:cs=l.flatMap s.cells)(hp:0<s.size)(go:Fin R (.tup [.ae s l,x]) (fr++σ)):Fin R (.tup [v,x]) (fr++(acc++σ)):=by
 subst hl
 have hlen:=h.length
 refine .perm (AY fr acc σ) ?_
 generalize hk:l.length=k at h
 cases h with
 |nil=>
  obtain rfl:=iE.1 hk
  exact .nil (cd (.nil _) (.refl _)) go
 |af b k cs h=>
  subst hk
  exact .cJ 0 b 0 l.length s.size cs s l rfl (by rw[gz,ek (by omega)];exact hc) ⟨rfl,rfl,hp⟩ (cd .here (.refl _)) go
theorem Zo{R:AV→Hp→Prop}{r:AV}(a:Hp){σ:Hp}(h:Fin R r σ):Fin R r (a++σ):=.drop 0 a.length (by rw[List.take_zero,dR,List.drop_left];exact h)
set_option maxHeartbeats 4000000
theorem YL{P:Program}{f:FuncId}{a b:List AV}{v:AV}{σ:Hp}{R:AV→Hp→Prop}(hl:v.leaf=true)(h:ACalls P f (a++.via v::b) σ R):ACalls P f (a++v::b) σ R:=by
 refine⟨h.1,fun F w vs bR aF=>h.2 F w vs ⟨by rw[← bR.1];simp,fun i x hx=>?_⟩ aF⟩
 rcases Nat.lt_trichotomy i a.length with hi | hi | hi
 ·rw[ky hi]at hx
  exact bR.2 i x (by rw[ky hi];exact hx)
 ·subst hi
  rw[jb (a8 _),qd]at hx
  cases hx
  exact .via v _ hl (bR.2 a.length v (by rw[jb (a8 _),qd];rfl))
 ·obtain⟨j,rfl⟩:∃j,i=a.length+(j+1):=⟨i-a.length-1,by omega⟩
  rw[jb (by omega),show a.length+(j+1)-a.length=j+1 by omega]at hx
  exact bR.2 _ x (by rw[jb (by omega),show a.length+(j+1)-a.length=j+1 by omega];exact hx)
theorem Acc.leaf{e k:Nat}{v:AV}{acc:Hp}{cs:List AV}(h:Acc e k v acc cs):v.leaf=true:=by cases h <;> rfl
structure yB(n:Nat)(met:List Bool)(out:List Int):Prop where
 nS:sP n met out
 nd:out.Nodup
 rg:∀x∈out,0≤x∧x<(n:Int)
theorem VO(n:Nat)(l:List bK)(a:Int)(met:List Bool)(out:List Int)(bm:Nat)(vo:AV)(vV σ:Hp)(hl:l.length≤100000)(hn:n≤1000)(ha:0≤a∧a<n)(h:yB n met out)(hO:Acc 1 out.length vo vV (ao out)):
  ACalls Tryz.prog 311 [.ae (.slice (.int .i64)) (ca n l),.af bm 0 n 1,.int .i64 a,vo] ((bm,bN met)::(vV++σ))
   (fun r σ'=>∃rW lv rZ rR,lv=out++ia (au n l) (n+1) a out∧yB n rW lv∧Acc 1 lv.length rZ rR (ao lv)∧r=.via rZ∧σ'=(bm,bN rW)::(rR++σ)):=
 ZE (R:=fun r σ'=>∃rW lv rZ rR,lv=out++ia (au n l) (n+1) a out∧yB n rW lv∧Acc 1 lv.length rZ rR (ao lv)∧r=rZ∧σ'=(bm,bN rW)::(rR++σ)) (YL (a:=[_,_,_]) (b:=[]) hO.leaf ((af1 n l a met out bm vo vV σ hl hn ha h.nS h.nd h.rg hO).mono fun _ _ ⟨rW,lv,rZ,rR,h1,h2,h3,h4,h5,h6,h7⟩=>⟨rW,lv,rZ,rR,h1,⟨h2,h3,h4⟩,h5,h6,h7⟩)) fun r σ' ⟨rW,lv,rZ,rR,h1,h2,h3,h4,h5⟩=>⟨h4▸h3.leaf,rW,lv,rZ,rR,h1,h2,h3,by rw[h4],h5⟩
theorem ahH(bn:Nat)(n:Nat)(x:Int)(σ:Hp):ACalls Tryz.prog 337 [.int .i64 x,.ptr bn 0] ((bn,[.int .i64 n])::σ) (ay (.bool (decide (x<0∨(n:Int)≤x))) ((bn,[.int .i64 n])::σ)):=by
 refine ar Tryz.func337 ?_
 refine ak (fun c1=>?_) (fun c1=>?_)
 ·have c1:x<0:=c1
  exact .done ⟨congrArg AV.bool (aT (by omega)).symm,rfl⟩
 ·have c1:¬(x<0):=c1
  refine aa 0 ?_
  refine ak (fun c2=>?_) (fun c2=>?_)
  ·have c2:(↑n:Int)≤x:=c2
   exact .done ⟨congrArg AV.bool (aT (by omega)).symm,rfl⟩
  ·have c2:¬((↑n:Int)≤x):=c2
   exact .done ⟨congrArg AV.bool (bS (by omega)).symm,rfl⟩
theorem afu(bn n:Nat)(L:List Int)(σ:Hp)(hl:L.length≤1000000)(hL:∀x∈L,0≤x∧x<(n:Int)):ACalls Tryz.prog 345 [.ae (.int .i64) L,.fn (.func 337) [] [.ptr bn 0]] ((bn,[.int .i64 n])::σ) (ay (.int .i64 (-1)) ((bn,[.int .i64 n])::σ)):=by
 refine ar Tryz.func345 ?_
 refine bQ (S:=Nat) (fun k=>[(0,.ae (.int .i64) L),(1,.fn (.func 337) [] [.ptr bn 0]),(7,.int .i64 L.length),(8,.int .i64 k)]) (fun _=>(bn,[.int .i64 n])::σ) (fun k=>k≤L.length) (fun k=>L.length-k) 0 ⟨bA _,⟨rfl,rfl,rfl,rfl,trivial⟩,rfl⟩ ?_
 intro k g aK
 have hk:k≤L.length:=aK
 refine ak (p:=(k:Int)<L.length) (fun ab=>?_) (fun aq=>?_)
 ·have ab:k<L.length:=by omega
  have hx:=hL _ (bP ab)
  refine aG.mk rfl (bE.mk L[k] (by omega) (get_some ab) ?_)
  refine dC [] (ahH bn n L[k] σ) (fun c=>?_) (fun _=>?_)
  ·have c:=fk c;omega
  ·exact aY (k+1) (by show L.length-(k+1)<L.length-k;omega) ab ⟨rfl,rfl,rfl,aS (by omega),trivial⟩ (.refl _)
 ·exact .done ⟨rfl,rfl⟩
theorem afv(bn n:Nat)(L:List Int)(σ:Hp)(hl:L.length≤1000000)(hL:∀x∈L,0≤x∧x<(n:Int)):ACalls Tryz.prog 336 [.ae (.int .i64) L,.fn (.func 337) [] [.ptr bn 0]] ((bn,[.int .i64 n])::σ) (ay (.bool false) ((bn,[.int .i64 n])::σ)):=by
 refine ar Tryz.func336 ?_
 refine aw [] (afu bn n L σ hl hL) ?_
 exact .done ⟨rfl,rfl⟩
theorem adn(n:Nat)(l:List bK)(fr:List Int)(σ:Hp)(hl:l.length≤100000)(hf:fr.length≤100000)(dY:fF n l=true)(n5:∀x∈fr,0≤x∧x<(n:Int)):ACalls Tryz.prog 310 [.int .i64 n,.ae dB l,.ae (.int .i64) fr] σ (ay (.int .i64 0) σ):=by
 refine ar Tryz.func310 ?_
 intro aB
 refine aa 0 ?_
 refine dC [] (D1 n l _ (by omega)) (fun _=>?_) (fun c=>absurd c (by rw[dY];decide))
 refine aw [] (afv aB n fr σ (by omega) n5) ?_
 exact .drop 0 1 (.done ⟨rfl,rfl⟩)
def qB(n:Nat)(l:List bK)(fr:List Int):List Int:=sD n (au n l) (fr++(List.range n).map fun a:Nat=>(a:Int))
theorem Q2(n:Nat)(nx:Int→List Int)(L:List Int)(a:Int):sD n nx (L++[a])=sD n nx L++ia nx (n+1) a (sD n nx L):=by unfold sD;rw[uJ];rfl
theorem ahC(n:Nat)(l:List bK)(fr:List Int)(σ:Hp)(hl:l.length≤100000)(hf:fr.length≤100000)(dY:fF n l=true)(n5:∀x∈fr,0≤x∧x<(n:Int)):ACalls Tryz.prog 288 [.int .i64 n,.ae dB l,.ae (.int .i64) fr] σ (fun r σ'=>r=.tup [.ae (.int .i64) (qB n l fr),.int .i64 0]∧σ'=σ∧(∃met,yB n met (qB n l fr))):=by
 have hn:1≤n∧n≤256:=by
  unfold fF at dY
  simp only[bO,decide_eq_true_eq]at dY
  omega
 have ga:∀k,(cH ((List.range k).map fun a:Nat=>au n l a)).length=k:=fun k=>by rw[uT,cg,kS]
 refine ar Tryz.func288 ?_
 refine aw [] (adn n l fr _ hl hf dY n5) ?_
 refine .wrap 9 .ai rfl rfl ?_
 refine bQ (S:=Nat×AV×Hp) (fun x=>[(0,.int .i64 n),(1,.ae dB l),(2,.ae (.int .i64) fr),(9,.via x.2.1),(23,.int .i64 n),(24,.int .i64 x.1)]) (fun x=>x.2.2++σ) (fun x=>x.1≤n∧Acc 1 x.1 x.2.1 x.2.2 (cH ((List.range x.1).map fun a:Nat=>au n l a))) (fun x=>n-x.1) (0,.ai,[]) ⟨⟨bA _,.nil⟩,⟨rfl,rfl,rfl,rfl,rfl,rfl,trivial⟩,rfl⟩ ?_
 rintro⟨k,v,acc⟩ g ⟨hk,bY⟩
 have hk:k≤n:=hk
 have bY:Acc 1 k v acc (cH ((List.range k).map fun a:Nat=>au n l a)):=bY
 refine ak (p:=(k:Int)<n) (fun ab=>?_) (fun aq=>?_)
 ·have ab:k<n:=by omega
  refine aw [] (BB n l k _ hl) ?_
  intro bs
  refine jP [_] bY (.af 0 bs 0 1 _ rfl (cI rfl)) rfl (by omega) (by decide) (by decide) (fun v' bD h'=>?_)
  refine aY (k+1,v',bD) (by show n-(k+1)<n-k;omega) ⟨ab,?_⟩ ⟨rfl,rfl,rfl,rfl,rfl,aS (by omega),trivial⟩ (.drop 0 1 (.refl _))
  show Acc 1 (k+1) v' bD (cH ((List.range (k+1)).map fun a:Nat=>au n l a))
  rw[tk,cW,show cH (List.map (fun a:Nat=>au n l a) (List.range k)++List.map (fun a:Nat=>au n l a) [k])=cH (List.map (fun a:Nat=>au n l a) (List.range k))++[.ae (.int .i64) (au n l k)] from cW]
  exact h'
 ·have aq:n=k:=by omega
  subst aq
  have hlx:∀(c:Nat) (L:List Int) (x:Int),(∀x∈L,0≤x∧x<(n:Int))→L[c]?=some x→0≤x∧x<(n:Int):=fun c L x h hx=>h x (cx hx)
  have hnT:((n:Nat):Int).toNat=n:=bC n
  refine bc ?_
  intro bm
  refine .wrap 12 .ai rfl rfl ?_
  refine mR.acc 9 [_] (s:=.slice (.int .i64)) bY rfl ((ga n).symm.trans (uT _)) (xl _) (by decide) ?_
  refine bQ (S:=Nat×(List Bool×List Int)×(AV×Hp)) (fun x=>[(0,.int .i64 n),(9,.ae (.slice (.int .i64)) (ca n l)),(11,.af bm 0 n 1),(12,.via x.2.2.1),(37,.ae (.int .i64) fr),(38,.int .i64 fr.length),(39,.int .i64 x.1)]) (fun x=>(bm,bN x.2.1.1)::(x.2.2.2++σ)) (fun x=>x.1≤fr.length∧yB n x.2.1.1 x.2.1.2∧x.2.1.2=sD n (au n l) (fr.take x.1)∧Acc 1 x.2.1.2.length x.2.2.1 x.2.2.2 (ao x.2.1.2)) (fun x=>fr.length-x.1) (0,(List.replicate n false,[]),(.ai,[])) ⟨⟨Nat.zero_le _,⟨⟨by simp,fun u hu=>by rw[List.getD_eq_getElem?_getD,List.getElem?_replicate,if_pos hu];rfl⟩,List.nodup_nil,fun x hx=>absurd hx (by simp)⟩,rfl,.nil⟩,⟨rfl,rfl,rfl,rfl,rfl,rfl,rfl,trivial⟩,by rw[show bN (List.replicate n false)=cD [.bool false] n from (DA n).symm];rfl⟩ ?_
  rintro⟨j,⟨met,out⟩,⟨vo,ac⟩⟩ g ⟨hj,hP,ho,hO⟩
  have hj:j≤fr.length:=hj
  have hP:yB n met out:=hP
  have ho:out=sD n (au n l) (fr.take j):=ho
  have hO:Acc 1 out.length vo ac (ao out):=hO
  refine ak (p:=(j:Int)<fr.length) (fun ab=>?_) (fun aq=>?_)
  ·have ab:j<fr.length:=by omega
   have hz:=n5 _ (bP ab)
   refine aG.mk rfl (bE.mk fr[j] (by omega) (get_some ab) ?_)
   refine .mk [] _ (VO n l fr[j] met out bm vo ac σ hl (by omega) hz hP hO) ?_
   rintro _ _ ⟨met2,EB,qN,nk,h1,h2,h3,rfl,rfl⟩
   refine aY (j+1,(met2,EB),(qN,nk)) (by show fr.length-(j+1)<fr.length-j;omega) ⟨ab,h2,?_,h3⟩ ⟨rfl,rfl,rfl,rfl,rfl,rfl,aS (by omega),trivial⟩ (.refl _)
   show EB=sD n (au n l) (fr.take (j+1))
   rw[ff ab,Q2,← ho];exact h1
  ·have aq:¬(j:Int)<fr.length:=aq
   rw[ek (by omega)]at ho
   refine bQ (S:=Nat×(List Bool×List Int)×(AV×Hp)) (fun x=>[(9,.ae (.slice (.int .i64)) (ca n l)),(11,.af bm 0 n 1),(12,.via x.2.2.1),(49,.int .i64 n),(50,.int .i64 x.1)]) (fun x=>(bm,bN x.2.1.1)::(x.2.2.2++σ)) (fun x=>x.1≤n∧yB n x.2.1.1 x.2.1.2∧x.2.1.2=sD n (au n l) (fr++(List.range x.1).map fun a:Nat=>(a:Int))∧Acc 1 x.2.1.2.length x.2.2.1 x.2.2.2 (ao x.2.1.2)) (fun x=>n-x.1) (0,(met,out),(vo,ac)) ⟨⟨Nat.zero_le _,hP,by rw[ho];simp,hO⟩,⟨rfl,rfl,rfl,rfl,rfl,trivial⟩,rfl⟩ ?_
   clear hP ho hO hj aq
   rintro⟨j,⟨met,out⟩,⟨vo,ac⟩⟩ g ⟨hj,hP,ho,hO⟩
   have hj:j≤n:=hj
   have hP:yB n met out:=hP
   have ho:out=sD n (au n l) (fr++(List.range j).map fun a:Nat=>(a:Int)):=ho
   have hO:Acc 1 out.length vo ac (ao out):=hO
   refine ak (p:=(j:Int)<n) (fun ab=>?_) (fun aq=>?_)
   ·have ab:j<n:=by omega
    refine .mk [] _ (VO n l j met out bm vo ac σ hl (by omega) ⟨by omega,by omega⟩ hP hO) ?_
    rintro _ _ ⟨met2,EB,qN,nk,h1,h2,h3,rfl,rfl⟩
    refine aY (j+1,(met2,EB),(qN,nk)) (by show n-(j+1)<n-j;omega) ⟨ab,h2,?_,h3⟩ ⟨rfl,rfl,rfl,rfl,aS (by omega),trivial⟩ (.refl _)
    show EB=sD n (au n l) (fr++(List.range (j+1)).map fun a:Nat=>(a:Int))
    rw[tk,cW,← dU,show List.map (fun a:Nat=>(a:Int)) [j]=[(j:Int)] from rfl,Q2,← ho];exact h1
   ·have aq:n=j:=by omega
    subst aq
    have ho:out=qB n l fr:=ho
    rw[← ho]
    exact acs [_] (s:=.int .i64) hO rfl (uY _) (by decide) (.drop 0 1 (.done ⟨rfl,rfl,met,hP⟩))
inductive yA(n:Int)(l:List bK)(fr:List Int):Int→Prop where
 |root {a:Int} (h:a∈fr) (h1:0≤a∧a<n):yA n l fr a
 |step {a b:Int} (h:yA n l fr a) (hb:b∈au n l a):yA n l fr b
theorem yA.node{n:Int}{l:List bK}{fr:List Int}{a:Int}(h:yA n l fr a):0≤a∧a<n:=by
 cases h with
 |root h h1=>exact h1
 |step h hb=>exact (lL.1 hb).1
theorem C5:∀(n:Nat) (l:List Int),l.Nodup→(∀z∈l,0≤z∧z<n)→l.length≤n
 | 0,[],_,_=>a8 _
 | 0,z::l,_,h=>by have:=h z (cj ..);omega
 |n+1,l,hd,h=>by
  have h1:=C5 n (l.filter fun z=>decide (z≠n)) (hd.filter _) fun z hz=>by
   obtain⟨q1,q2⟩:=oe.1 hz
   have:=h z q1
   have q2:=fk q2
   omega
  have h2:l.length≤(l.filter fun z=>decide (z≠(n:Int))).length+1:=by
   clear h h1
   induction l with
   |nil=>simp
   |cons z l ih=>
    have kx:=mE.1 hd
    by_cases hz:z=n
    ·subst hz
     have e:(((n:Int)::l).filter fun z=>decide (z≠(n:Int)))=l:=by
      rw[List.filter_cons_of_neg (by simp)]
      exact gv9.2 fun y hy=>aT fun e=>kx.1 (e▸hy)
     rw[e];simp
    ·have:=ih kx.2
     rw[List.filter_cons_of_pos (by simp[hz])]
     simp only[ik];omega
  omega
theorem aah{b:List Bool}{k:Nat}{a:Int}:a∈Nj b k↔(0≤a∧a<k)∧b.getD a.toNat false=true:=by
 unfold Nj
 rw[dT]
 constructor
 ·rintro⟨i,hi,rfl⟩
  obtain⟨h1,h2⟩:=oe.1 hi
  exact⟨by have:=gy.1 h1;omega,h2⟩
 ·rintro⟨h1,h2⟩
  exact⟨a.toNat,oe.2 ⟨gy.2 (by omega),h2⟩,by omega⟩
theorem G6(b:List Bool)(i j:Nat):(b.set i true).getD j false=true↔(i=j∧i<b.length)∨b.getD j false=true:=by
 rw[aZ,fj,aZ]
 by_cases h:i=j
 ·subst h
  rw[ah rfl]
  by_cases h2:i<b.length
  ·rw[if_pos h2];simp[h2]
  ·rw[if_neg h2];simp[h2]
 ·rw[if_neg h];simp[h]
theorem aaj{n:Int}{b:List Bool}{a:Int}(hb:(b.length:Int)=n)(j:Nat):(xM n b a).getD j false=true↔(0≤a∧a<n∧(j:Int)=a)∨b.getD j false=true:=by
 unfold xM
 by_cases h:0≤a∧a<n
 ·rw[ah h,G6]
  constructor
  ·rintro (⟨e,_⟩ | e)
   ·exact .inl ⟨h.1,h.2,by omega⟩
   ·exact .inr e
  ·rintro (⟨_,_,e⟩ | e)
   ·exact .inl ⟨by omega,by omega⟩
   ·exact .inr e
 ·rw[ag h]
  exact⟨.inr,fun h2=>by rcases h2 with h2 | h2;exact absurd ⟨h2.1,h2.2.1⟩ h;exact h2⟩
theorem Lz{n:Int}:∀(fr:List Int) {b:List Bool},(b.length:Int)=n→∀j:Nat,(fr.foldl (xM n) b).getD j false=true↔((j:Int)∈fr∧(j:Int)<n)∨b.getD j false=true
 | [],b,_,j=>by simp
 |a::fr,b,hb,j=>by
  rw[Kj,Lz fr (by rw[Qj];exact hb) j,aaj hb j,eB]
  constructor
  ·rintro (⟨h1,h2⟩ | ⟨h1,h2,h3⟩ | h)
   ·exact .inl ⟨.inr h1,h2⟩
   ·exact .inl ⟨.inl h3,by omega⟩
   ·exact .inr h
  ·rintro (⟨h1 | h1,h2⟩ | h)
   ·exact .inr (.inl ⟨by omega,by omega,h1⟩)
   ·exact .inl ⟨h1,h2⟩
   ·exact .inr (.inr h)
theorem K3(n:Int):∀(fr:List Int) (b:List Bool),(fr.foldl (xM n) b).length=b.length
 | [],_=>rfl
 |a::fr,b=>by rw[Kj,K3 n fr,Qj]
def okB(n:Int)(l:List bK)(fr:List Int)(b:List Bool):Prop:=(b.length:Int)=n∧∀j:Nat,b.getD j false=true→yA n l fr j
theorem aga{n:Int}{l:List bK}{fr:List Int}{b:List Bool}{e:bK}(he:e∈l)(h:okB n l fr b):okB n l fr (si n b e):=by
 unfold si
 by_cases c:(0≤e.1∧e.1<n)∧(0≤e.2.1∧e.2.1<n)∧b.getD e.1.toNat false=true
 ·rw[ah c]
  refine⟨by rw[cR];exact h.1,fun j hj=>?_⟩
  rcases (G6 _ _ _).1 hj with ⟨e1,_⟩ | hj
  ·have:=h.2 _ c.2.2
   refine .step this (lL.2 ⟨by omega,by omega,e,he,by omega,by omega⟩)
  ·exact h.2 j hj
 ·rw[ag c];exact h
theorem SS{n:Int}{l:List bK}{fr:List Int}:∀(L:List bK) {b:List Bool},(∀e∈L,e∈l)→okB n l fr b→okB n l fr (L.foldl (si n) b)
 | [],_,_,h=>h
 |e::L,_,hL,h=>SS L (fun x hx=>hL x (dp _ hx)) (aga (hL e (cj ..)) h)
theorem VA{n:Int}{b:List Bool}{e:bK}{j:Nat}(h:b.getD j false=true):(si n b e).getD j false=true:=by
 unfold si
 split
 ·exact (G6 _ _ _).2 (.inr h)
 ·exact h
theorem Di{n:Int}:∀(L:List bK) {b:List Bool} {j:Nat},b.getD j false=true→(L.foldl (si n) b).getD j false=true
 | [],_,_,h=>h
 |_::L,_,_,h=>Di L (VA h)
theorem SU{n:Int}:∀(L:List bK) {b:List Bool} {e:bK},(b.length:Int)=n→e∈L→(0≤e.1∧e.1<n)→(0≤e.2.1∧e.2.1<n)→b.getD e.1.toNat false=true→(L.foldl (si n) b).getD e.2.1.toNat false=true
 |x::L,b,e,hb,he,h1,h2,h3=>by
  rcases eB.1 he with rfl | he
  ·refine Di L ?_
   unfold si
   rw[ah ⟨h1,h2,h3⟩]
   exact (G6 _ _ _).2 (.inl ⟨rfl,by omega⟩)
  ·exact SU L (by rw[Rb];exact hb) he h1 h2 (VA h3)
def vS(b:List Bool):Nat:=b.countP id
theorem L7:∀{b c:List Bool},b.length=c.length→(∀j:Nat,b.getD j false=true→c.getD j false=true)→vS b≤vS c∧(vS b=vS c→b=c)
 | [],[],_,_=>⟨a8 _,fun _=>rfl⟩
 |x::b,y::c,hl,h=>by
  obtain⟨h1,h2⟩:=L7 (b:=b) (c:=c) (by simpa using hl) fun j hj=>h (j+1) hj
  have h0:=h 0
  unfold vS at h1 h2 ⊢
  simp only[Ko]
  cases x <;> cases y <;> simp at h0 ⊢
  ·exact⟨h1,h2⟩
  ·omega
  ·exact⟨h1,h2⟩
theorem K1(n:Int):∀(L:List bK) (b:List Bool),(L.foldl (si n) b).length=b.length
 | [],_=>rfl
 |e::L,b=>by rw[Kj,K1 n L,Rb]
theorem QY{n:Int}{l:List bK}{b:List Bool}(h:pF n l b=b):∀k,u0 n l k b=b
 | 0=>rfl
 |k+1=>by rw[rounds_succ,h];exact QY h k
theorem Qu{n:Int}{l:List bK}:∀(k:Nat) {b:List Bool},(b.length:Int)=n→b.length≤vS b+k→pF n l (u0 n l k b)=u0 n l k b
 | 0,b,hb,hc=>by
  have hl:(pF n l b).length=b.length:=K1 n l b
  have hu:=L7 (b:=b) (c:=pF n l b) hl.symm fun j hj=>Di l hj
  have h2:vS (pF n l b)≤(pF n l b).length:=List.countP_le_length
  show pF n l b=b
  exact (hu.2 (by omega)).symm
 |k+1,b,hb,hc=>by
  have hl:(pF n l b).length=b.length:=K1 n l b
  have hu:=L7 (b:=b) (c:=pF n l b) hl.symm fun j hj=>Di l hj
  by_cases h:pF n l b=b
  ·rw[QY h];exact h
  ·rw[rounds_succ]
   refine Qu k (by rw[hl];exact hb) ?_
   have:vS b≠vS (pF n l b):=fun e=>h (hu.2 e).symm
   omega
theorem QX{n:Int}{l:List bK}{fr:List Int}:∀(k:Nat) {b:List Bool},okB n l fr b→okB n l fr (u0 n l k b)
 | 0,_,h=>h
 |k+1,_,h=>by rw[rounds_succ];exact QX k (SS l (fun _ h=>h) h)
theorem RI{n:Int}{l:List bK}:∀(k:Nat) {b:List Bool} {j:Nat},b.getD j false=true→(u0 n l k b).getD j false=true
 | 0,_,_,h=>h
 |k+1,_,_,h=>by rw[rounds_succ];exact RI k (Di l h)
theorem Zc{n:Nat}{l:List bK}{fr:List Int}(a:Int):a∈MQ n l fr↔yA n l fr a:=by
 have iD:(((List.replicate n false).length:Nat):Int)=n:=by rw[gl]
 have an:okB n l fr (fr.foldl (xM n) (List.replicate n false)):=by
  refine⟨by rw[K3];exact iD,fun j hj=>?_⟩
  rcases (Lz fr iD j).1 hj with ⟨h1,h2⟩ | h
  ·exact .root h1 ⟨by omega,h2⟩
  ·rw[aZ,wV]at h
   split at h <;> cases h
 have cb:okB n l fr (DX n l fr):=QX _ an
 have EP:pF n l (DX n l fr)=DX n l fr:=by
  refine Qu _ an.1 ?_
  rw[K3,gl,bC];omega
 unfold MQ
 rw[bC,aah]
 constructor
 ·rintro⟨h1,h2⟩
  have:=cb.2 _ h2
  rwa [ma h1.1]at this
 ·intro h
  refine⟨h.node,?_⟩
  induction h with
  | @root x hf hn=>
   refine RI _ ((Lz fr iD _).2 (.inl ⟨?_,?_⟩))
   ·rw[ma hn.1];exact hf
   ·omega
  | @step x y hx hy ih=>
   obtain⟨ur,sa,e,he,e1,e2⟩:=lL.1 hy
   rw[← EP]
   have:=SU l (b:=DX n l fr) cb.1 he (by omega) (by omega) (by rw[e1];exact ih)
   rw[e2]at this
   exact this
theorem xf{a:Int}:∀{P:List (List Int)},P.flatten.Nodup→∀{i j:Nat} {p q:List Int},P[i]?=some p→P[j]?=some q→a∈p→a∈q→i=j
 | [],_,i,_,_,_,h,_,_,_=>by simp at h
 |r::P,hd,i,j,p,q,hi,hj,hp,hq=>by
  rw[go2]at hd
  obtain⟨_,h2,h3⟩:=pt.1 hd
  cases i with
  |zero=>
   cases j with
   |zero=>rfl
   |succ j=>
    obtain rfl:r=p:=by simpa using hi
    have hj:P[j]?=some q:=by simpa using hj
    exact absurd rfl (h3 a hp a (pr.2 ⟨q,cx hj,hq⟩))
  |succ i=>
   have hi:P[i]?=some p:=by simpa using hi
   cases j with
   |zero=>
    obtain rfl:r=q:=by simpa using hj
    exact absurd rfl (h3 a hq a (pr.2 ⟨p,cx hi,hp⟩))
   |succ j=>
    have hj:P[j]?=some q:=by simpa using hj
    exact congrArg (· + 1) (xf h2 hi hj hp hq)
theorem rj.le{n:Nat}{nx:Int→List Int}{P:List (List Int)}(h:rj n nx P){x y:Int}(hr:Rx nx x y){i:Nat}{p:List Int}(hi:P[i]?=some p)(hx:x∈p):∃(j:Nat) (q:List Int),j≤i∧P[j]?=some q∧y∈q:=by
 induction hr with
 |refl=>exact⟨i,p,a8 _,hi,hx⟩
 |step _ hc ih=>
  obtain⟨j,q,h1,h2,h3⟩:=ih
  obtain⟨k,r,k1,k2,k3⟩:=h.KT j q h2 _ h3 _ hc
  exact⟨k,r,eH k1 h1,k2,k3⟩
theorem afN{n:Int}{l:List bK}{a b:Int}:yA n l [a] b↔(0≤a∧a<n)∧Rx (au n l) a b:=by
 constructor
 ·intro h
  induction h with
  |root hm h1=>rw[bB.1 hm]at h1 ⊢;exact⟨h1,.refl _⟩
  |step _ hb ih=>exact⟨ih.1,.step ih.2 hb⟩
 ·rintro⟨ha,h⟩
  induction h with
  |refl=>exact .root (bB.2 rfl) ha
  |step _ hc ih=>exact .step ih hc
theorem Hy{n:Nat}{l:List bK}{a b:Int}:BU n l a b=true↔(0≤a∧a<n)∧Rx (au n l) a b:=by
 unfold BU
 rw[DK,Zc,afN]
theorem aa2(n:Nat)(l:List bK)(a:Int):(rO n l a).Pairwise (· < ·):=by
 unfold rO MR
 rw[Ct]
 refine List.Pairwise.filter _ ?_
 exact List.pairwise_lt_range.imp fun h=>by omega
theorem Mt{n:Nat}{l:List bK}{P:List (List Int)}(h:rj n (au n l) P){p:List Int}{a:Int}(hp:p∈P)(ha:a∈p):rO n l a=p:=by
 obtain⟨i,hi⟩:=Ga hp
 have tc:=h.node p hp a ha
 refine MC (aa2 ..) (h.BV p hp) fun z=>?_
 rw[aag]
 constructor
 ·rintro⟨k,hk,hb,rfl⟩
  rw[bO,Hy,Hy]at hb
  obtain⟨j,q,j1,j2,j3⟩:=h.le hb.1.2 hi ha
  obtain⟨k2,r,k3,k4,k5⟩:=h.le hb.2.2 j2 j3
  have:=xf h.nd hi k4 ha k5
  have:i=j:=by omega
  subst this
  rw[hi]at j2
  rw[Option.some.inj j2];exact j3
 ·intro hz
  have ij:=h.node p hp z hz
  refine⟨z.toNat,by omega,?_,by omega⟩
  rw[ma ij.1,bO,Hy,Hy]
  exact⟨⟨tc,h.PN p hp a ha z hz⟩,ij,h.PN p hp z hz a ha⟩
def lC(i:Int)(p:List Int)(w:List Int):List Int:=p.foldl (fun w a=>w.set a.toNat i) w
def mV(P:List (List Int)):Nat→List Int→List Int
 | 0,w=>w
 |k+1,w=>lC k (P.getD k []) (mV P k w)
def bF(n:Nat)(P:List (List Int)):List Int:=mV P P.length (List.replicate n 0)
theorem GC(i:Int):∀(p w:List Int),(lC i p w).length=w.length
 | [],_=>rfl
 |a::p,w=>by
  show (lC i p (w.set a.toNat i)).length=_
  rw[GC i p,cR]
theorem CM(P:List (List Int)):∀(k:Nat) (w:List Int),(mV P k w).length=w.length
 | 0,_=>rfl
 |k+1,w=>by
  show (lC k (P.getD k []) (mV P k w)).length=_
  rw[GC,CM P k]
theorem QL(n:Nat)(P:List (List Int)):(bF n P).length=n:=by unfold bF;rw[CM,gl]
theorem Ue(i:Int){a:Int}(ha:0≤a):∀(p w:List Int),(∀z∈p,0≤z)→a.toNat<w.length→(lC i p w).getD a.toNat 0=if a∈p then i else w.getD a.toNat 0
 | [],w,_,_=>by simp[lC]
 |z::p,w,hp,hw=>by
  show (lC i p (w.set z.toNat i)).getD a.toNat 0=_
  have hz:=hp z (cj ..)
  rw[Ue i ha p _ (fun y hy=>hp y (dp _ hy)) (by rw[cR];exact hw),mK]
  by_cases h1:a∈p
  ·rw[ah h1,ah (dp _ h1)]
  ·rw[ag h1]
   by_cases h2:a=z
   ·rw[ah ⟨by omega,hw⟩,ah (by rw[h2];exact cj ..)]
   ·rw[ag (by omega),ag (by rw[eB];exact fun h=>h.elim h2 h1)]
theorem vm{P:List (List Int)}{i:Nat}{p:List Int}(h:P[i]?=some p):P.getD i []=p:=by rw[aZ,h];rfl
theorem Ud{n:Nat}{nx:Int→List Int}{P:List (List Int)}(h:rj n nx P){i:Nat}{p:List Int}(hi:P[i]?=some p){a:Int}(ha:a∈p):∀k,k≤P.length→i<k→(mV P k (List.replicate n 0)).getD a.toNat 0=i
 | 0,_,hk=>absurd hk (og _)
 |k+1,s8,hk=>by
  have tc:=h.node p (cx hi) a ha
  obtain⟨q,hq⟩:∃q,P[k]?=some q:=⟨P[k],bh (by omega)⟩
  show (lC k (P.getD k []) _).getD a.toNat 0=_
  rw[vm hq,Ue k tc.1 _ _ (fun z hz=>(h.node q (cx hq) z hz).1) (by rw[CM,gl];omega)]
  by_cases hm:a∈q
  ·rw[ah hm,xf h.nd hi hq ha hm]
  ·rw[ag hm]
   have:i≠k:=fun e=>by subst e;rw[hi]at hq;exact hm (Option.some.inj hq▸ha)
   exact Ud h hi ha k (by omega) (by omega)
theorem adx{n:Nat}{nx:Int→List Int}{P:List (List Int)}(h:rj n nx P){i:Nat}{p:List Int}(hi:P[i]?=some p){a:Int}(ha:a∈p):(bF n P).getD a.toNat 0=i:=
 Ud h hi ha P.length (a8 _) (ck.1 hi).1
def nD(l:List bK)(W:List Int)(T:List Bool)(i:Int):Bool:= !T.getD i.toNat false&&!l.any fun x=>decide (W.getD x.2.1.toNat 0=i)&&decide (W.getD x.1.toNat 0≠i)&&!T.getD (W.getD x.1.toNat 0).toNat false
def iK(P:List (List Int))(i:Nat):Int:=(P.getD i []).headD 0
def fB(P:List (List Int))(l:List bK)(W:List Int)(T:List Bool):Nat→Int
 | 0=> -1
 |k+1=>if nD l W T k=true∧(fB P l W T k<0∨iK P k<iK P (fB P l W T k).toNat) then k else fB P l W T k
theorem GN(P:List (List Int))(l:List bK)(W:List Int)(T:List Bool):∀k:Nat,(fB P l W T k = -1∧∀i:Nat,i<k→nD l W T i=false)∨∃b:Nat,fB P l W T k=b∧b<k∧nD l W T b=true∧∀i:Nat,i<k→nD l W T i=true→iK P b≤iK P i
 | 0=>.inl ⟨rfl,fun _ h=>absurd h (og _)⟩
 |k+1=>by
  have ih:=GN P l W T k
  by_cases c:nD l W T k=true∧(fB P l W T k<0∨iK P k<iK P (fB P l W T k).toNat)
  ·have e:fB P l W T (k+1)=k:=ah c
   rw[e]
   refine .inr ⟨k,rfl,by omega,c.1,fun i hi hf=>?_⟩
   by_cases Fw:i=k
   ·subst Fw;exact jL _
   ·rcases ih with ⟨h1,h2⟩ | ⟨b,h1,h2,h3,h4⟩
    ·rw[h2 i (by omega)]at hf;cases hf
    ·have:=h4 i (by omega) hf
     rw[h1,bC]at c
     rcases c.2 with c | c
     ·omega
     ·omega
  ·have e:fB P l W T (k+1)=fB P l W T k:=ag c
   rw[e]
   rcases ih with ⟨h1,h2⟩ | ⟨b,h1,h2,h3,h4⟩
   ·refine .inl ⟨h1,fun i hi=>?_⟩
    by_cases Fw:i=k
    ·subst Fw
     exact F7.2 fun hf=>c ⟨hf,.inl (by omega)⟩
    ·exact h2 i (by omega)
   ·refine .inr ⟨b,h1,by omega,h3,fun i hi hf=>?_⟩
    by_cases Fw:i=k
    ·subst Fw
     rw[h1,bC]at c
     exact Cn.1 fun ab=>c ⟨hf,.inr ab⟩
    ·exact h4 i (by omega) hf
def dH(P:List (List Int))(l:List bK)(W:List Int):Nat→List Bool×List (List Int)
 | 0=>(List.replicate P.length false,[])
 |k+1=>((dH P l W k).1.set (fB P l W (dH P l W k).1 P.length).toNat true,(dH P l W k).2++[P.getD (fB P l W (dH P l W k).1 P.length).toNat []])
def IK(n:Nat)(l:List bK)(told:List Int)(a:Nat):Bool:=decide ((rO n l a).headD 0=(a:Int))&&!sX told a&&Nv l (rO n l a) told
def EA(n:Nat)(l:List bK):Nat→List (List Int)×List Int→List (List Int)×List Int
 | 0,s=>s
 |f+1,s=>if s.2.length<n then (match (List.range n).find? (IK n l s.2) with | none=>s | some a=>EA n l f (s.1++[rO n l a],s.2++rO n l a)) else s
def kq(n:Nat)(l:List bK):List (List Int):=(EA n l (n+1) ([],[])).1
theorem Zn{p:Nat→Bool}{n a:Nat}(ha:a<n)(hp:p a=true)(h:∀b,b<a→p b=false):(List.range n).find? p=some a:=by
 rw[List.find?_range_eq_some]
 exact⟨hp,gy.2 ha,fun b hb=>by rw[h b hb];rfl⟩
structure oZ(n:Nat)(l:List bK)(P:List (List Int)):Prop where
 ok:rj n (au n l) P
 all:∀x:Int,0≤x→x<n→∃p∈P,x∈p
theorem oZ.idx{n:Nat}{l:List bK}{P:List (List Int)}(h:oZ n l P){x:Int}(hx:0≤x∧x<n):∃(i:Nat) (p:List Int),P[i]?=some p∧x∈p∧(bF n P).getD x.toNat 0=i:=by
 obtain⟨p,hp,r9⟩:=h.all x hx.1 hx.2
 obtain⟨i,hi⟩:=Ga hp
 exact⟨i,p,hi,r9,adx h.ok hi r9⟩
theorem yP{P:List (List Int)}{i:Nat}{p:List Int}(h:P[i]?=some p):i<P.length:=(ck.1 h).1
structure OI(P:List (List Int))(k:Nat)(T:List Bool)(out:List (List Int)):Prop where
 tl:T.length=P.length
 ol:out.length=k
 aH:T.countP id=k
 mem:∀q,q∈out↔∃i:Nat,T.getD i false=true∧P[i]?=some q
 nd:out.flatten.Nodup
theorem Sa{n:Nat}{l:List bK}{P:List (List Int)}(h:oZ n l P)(hr:∀e∈l,(0≤e.1∧e.1<(n:Int))∧0≤e.2.1∧e.2.1<(n:Int)){k:Nat}{T:List Bool}{out:List (List Int)}(hO:OI P k T out){i:Nat}{p:List Int}(hi:P[i]?=some p):nD l (bF n P) T i=true↔T.getD i false=false∧Nv l p out.flatten=true:=by
 unfold nD Nv
 rw[bC,bO,lH,lH,Cs,fK]
 refine and_congr_right fun _=>?_
 refine forall_congr' fun e=>?_
 refine forall_congr' fun he=>?_
 obtain⟨q1,q2⟩:=hr e he
 obtain⟨a,pa,ha,Fq,wa⟩:=h.idx q1
 obtain⟨b,pb,hb,qX,wb⟩:=h.idx q2
 rw[wa,wb,bC]
 have ej:∀{j:Nat} {r:List Int} {x:Int},P[j]?=some r→x∈r→(sX p x=true↔j=i):=fun {j r x} hj hx=>by
  rw[DK]
  exact⟨fun hm=>xf h.ok.nd hj hi hx hm,fun e=>by subst e;rw[hi]at hj;rw[Option.some.inj hj];exact hx⟩
 have ah7:sX out.flatten e.1=true↔T.getD a false=true:=by
  rw[DK,pr]
  constructor
  ·rintro⟨q,hq,hm⟩
   obtain⟨j,hj,qZ⟩:=(hO.mem q).1 hq
   rw[xf h.ok.nd ha qZ Fq hm];exact hj
  ·intro ht
   exact⟨pa,(hO.mem pa).2 ⟨a,ht,ha⟩,Fq⟩
 have h1:=ej ha Fq
 have h2:=ej hb qX
 rw[bO,bO,decide_eq_true_eq,decide_eq_true_eq,lH,lH,Bool.and_eq_false_iff,Bool.and_eq_false_iff,Ks,Ks]
 have h3:sX p e.2.1=false↔b≠i:=by rw[← Bool.not_eq_true,h2]
 rw[ah7,h1,h3,← Bool.not_eq_true]
 constructor
 ·intro hn
  by_cases c1:b=i
  ·by_cases c2:a=i
   ·exact .inl (.inr c2)
   ·exact .inr (by
     by_cases c3:T.getD a false=true
     ·exact c3
     ·exact absurd ⟨⟨by omega,by omega⟩,c3⟩ hn)
  ·exact .inl (.inl c1)
 ·rintro ((c | c) | c) ⟨⟨d1,d2⟩,d3⟩
  ·exact c (by omega)
  ·exact d2 (by omega)
  ·exact d3 c
theorem count_set{T:List Bool}{i:Nat}(hi:i<T.length)(h:T.getD i false=false):(T.set i true).countP id=T.countP id+1:=by
 induction T generalizing i with
 |nil=>simp at hi
 |cons t T ih=>
  cases i with
  |zero=>
   have:t=false:=h
   subst this
   simp
  |succ i=>
   have:=ih (i:=i) (by simpa using hi) h
   rw[List.set_cons_succ,Ko,Ko,this];omega
theorem Zv:∀{T:List Bool},T.countP id<T.length→∃i,i<T.length∧T.getD i false=false∧∀j,i<j→j<T.length→T.getD j false=true:=by
 intro T
 induction T with
 |nil=>intro h;simp at h
 |cons t T ih=>
  intro h
  rw[Ko,ik]at h
  by_cases c:T.countP id<T.length
  ·obtain⟨i,h1,h2,h3⟩:=ih c
   refine⟨i+1,by rw[ik];omega,h2,fun j hj hl=>?_⟩
   cases j with
   |zero=>omega
   |succ j=>exact h3 j (by omega) (by rw[ik]at hl;omega)
  ·have ht:t=false:=by
    cases t with
    |false=>rfl
    |true=>simp at h;omega
   subst ht
   have cQ:T.countP id=T.length:=by have:=List.countP_le_length (p:=id) (l:=T);omega
   refine⟨0,by simp,rfl,fun j hj hl=>?_⟩
   cases j with
   |zero=>omega
   |succ j=>
    have hl:j<T.length:=by rw[ik]at hl;omega
    have:=List.countP_eq_length.1 cQ _ (bP hl)
    show T.getD j false=true
    rw[aZ,bh hl];exact this
theorem C3{n:Nat}{nx:Int→List Int}{P:List (List Int)}(h:rj n nx P):P.length≤n∧P.flatten.length≤n:=by
 have h1:P.flatten.length≤n:=C5 n _ h.nd fun z hz=>by
  obtain⟨p,hp,hz⟩:=pr.1 hz
  exact h.node p hp z hz
 refine⟨eH ?_ h1,h1⟩
 have:=h.ne
 clear h h1
 induction P with
 |nil=>exact a8 _
 |cons p P ih=>
  have h1:=mG.2 (this p (cj ..))
  have h2:=ih fun q hq=>this q (dp _ hq)
  rw[go2,bZ,ik];omega
theorem LX{n:Nat}{l:List bK}{P:List (List Int)}(h:oZ n l P)(hr:∀e∈l,(0≤e.1∧e.1<(n:Int))∧0≤e.2.1∧e.2.1<(n:Int)){k:Nat}(hk:k<P.length){T:List Bool}{out:List (List Int)}(hO:OI P k T out):
  ∃(b:Nat) (p:List Int),fB P l (bF n P) T P.length=b∧P[b]?=some p∧OI P (k+1) (T.set b true) (out++[p])∧out.flatten.length<n∧∃a:Nat,(List.range n).find? (IK n l out.flatten)=some a∧rO n l a=p:=by
 obtain⟨i,Cc,qY,hi3⟩:=Zv (T:=T) (by rw[hO.aH,hO.tl];exact hk)
 rw[hO.tl]at Cc hi3
 obtain⟨pi,hpi⟩:∃p,P[i]?=some p:=⟨P[i],bh Cc⟩
 have Ws:nD l (bF n P) T i=true:=by
  unfold nD
  rw[bC,qY,bO]
  refine⟨rfl,?_⟩
  rw[lH]
  refine Cs.2 fun e he=>?_
  obtain⟨q1,q2⟩:=hr e he
  obtain⟨a,pa,ha,Fq,wa⟩:=h.idx q1
  obtain⟨b,pb,hb,qX,wb⟩:=h.idx q2
  rw[wa,wb,bC,bO,bO,decide_eq_true_eq,decide_eq_true_eq,lH]
  rintro⟨⟨d1,d2⟩,d3⟩
  obtain⟨j,q,j1,j2,j3⟩:=h.ok.KT a pa ha e.1 Fq e.2.1 (lL.2 ⟨q2,q1,e,he,rfl,rfl⟩)
  have:=xf h.ok.nd hb j2 qX j3
  rw[hi3 a (by omega) (yP ha)]at d3
  cases d3
 rcases GN P l (bF n P) T P.length with ⟨_,ku⟩ | ⟨b,hb,nh,hbf,ta⟩
 ·rw[ku i Cc]at Ws;cases Ws
 obtain⟨p,hp⟩:∃p,P[b]?=some p:=⟨P[b],bh nh⟩
 have gv:=cx hp
 obtain⟨wJ,hbF⟩:=(Sa h hr hO hp).1 hbf
 have Fp:p ∉ out:=fun hm=>by
  obtain⟨j,hj,qZ⟩:=(hO.mem p).1 hm
  obtain⟨z,hz⟩:=List.exists_mem_of_ne_nil _ (h.ok.ne p gv)
  rw[xf h.ok.nd hp qZ hz hz,hj]at wJ;cases wJ
 have Xi:∀z∈p,z ∉ out.flatten:=fun z hz hm=>by
  obtain⟨q,hq,Oy⟩:=pr.1 hm
  obtain⟨j,hj,qZ⟩:=(hO.mem q).1 hq
  rw[xf h.ok.nd hp qZ hz Oy,hj]at wJ;cases wJ
 have cf:(out.flatten++p).Nodup:=pt.2 ⟨hO.nd,(h.ok.BV p gv).imp fun h=>by omega,fun x hx y hy e=>Xi y hy (e▸hx)⟩
 have qD:∀z∈out.flatten++p,0≤z∧z<(n:Int):=fun z hz=>by
  rcases bV.1 hz with hz | hz
  ·obtain⟨q,hq,Oy⟩:=pr.1 hz
   obtain⟨j,_,qZ⟩:=(hO.mem q).1 hq
   exact h.ok.node q (cx qZ) z Oy
  ·exact h.ok.node p gv z hz
 have hlen:=C5 n _ cf qD
 rw[bZ]at hlen
 have uv:=mG.2 (h.ok.ne p gv)
 refine⟨b,p,hb,hp,⟨by rw[List.length_set];exact hO.tl,by rw[List.length_append,hO.ol];rfl,by rw[count_set (by rw[hO.tl];exact nh) wJ,hO.aH],fun q=>?_,by rw[List.flatten_append];simpa using cf⟩,by omega,?_⟩
 ·rw[bV,bB,hO.mem]
  constructor
  ·rintro (⟨j,hj,qZ⟩ | rfl)
   ·exact⟨j,by rw[Li];split;rfl;exact hj,qZ⟩
   ·exact⟨b,by rw[Li,ah ⟨rfl,by rw[hO.tl];exact nh⟩],hp⟩
  ·rintro⟨j,hj,qZ⟩
   rw[Li]at hj
   by_cases e:b=j
   ·subst e;rw[hp]at qZ;exact .inr (Option.some.inj qZ).symm
   ·rw[ag (fun h=>e h.1)]at hj
    exact .inl ⟨j,hj,qZ⟩
 have Wr:∀{j:Nat} {q:List Int},P[j]?=some q→iK P j∈q∧iK P j=q.headD 0∧∀z∈q,iK P j≤z:=fun {j q} hj=>by
  have aX:=h.ok.ne q (cx hj)
  have hs:=h.ok.BV q (cx hj)
  unfold iK
  rw[vm hj]
  cases q with
  |nil=>exact absurd rfl aX
  |cons z q=>
   refine⟨cj ..,rfl,fun y hy=>?_⟩
   rcases eB.1 hy with rfl | hy
   ·exact jL _
   ·have:=(Cw.1 hs).1 y hy
    show z≤y
    omega
 obtain⟨m1,m2,_⟩:=Wr hp
 have hhn:=h.ok.node p gv _ m1
 refine⟨(iK P b).toNat,Zn (by omega) ?_ fun a' J4=>F7.2 fun hc=>?_,?_⟩
 ·unfold IK
  rw[ma hhn.1,Mt h.ok gv m1,hbF,Ka,bO,decide_eq_true_eq,lH]
  exact⟨m2.symm,F7.2 fun hm=>Xi _ m1 (DK.1 hm)⟩
 ·unfold IK at hc
  rw[bO,bO,decide_eq_true_eq,lH]at hc
  obtain⟨⟨c1,c2⟩,c3⟩:=hc
  obtain⟨j,q,hj,hq,_⟩:=h.idx (x:=(a':Int)) (by omega)
  rw[Mt h.ok (cx hj) hq]at c1 c3
  obtain⟨_,m4,_⟩:=Wr hj
  have hjT:T.getD j false=false:=F7.2 fun ht=>by
   have:sX out.flatten a'=true:=DK.2 (pr.2 ⟨q,(hO.mem q).2 ⟨j,ht,hj⟩,hq⟩)
   rw[this]at c2;cases c2
  have:=ta j (yP hj) ((Sa h hr hO hj).2 ⟨hjT,c3⟩)
  rw[m4,c1]at this
  omega
 ·rw[ma hhn.1];exact Mt h.ok gv m1
theorem HF{n:Nat}{l:List bK}{P:List (List Int)}(h:oZ n l P)(hr:∀e∈l,(0≤e.1∧e.1<(n:Int))∧0≤e.2.1∧e.2.1<(n:Int)):∀k,k≤P.length→OI P k (dH P l (bF n P) k).1 (dH P l (bF n P) k).2∧(k<P.length→∃b:Nat,fB P l (bF n P) (dH P l (bF n P) k).1 P.length=b∧b<P.length)∧∀f,EA n l (k+f) ([],[])=EA n l f ((dH P l (bF n P) k).2,(dH P l (bF n P) k).2.flatten):=by
 intro k
 induction k with
 |zero=>
  intro _
  have ku:∀i,¬((List.replicate P.length false).getD i false=true):=fun i h1=>by
   rw[aZ,wV]at h1
   split at h1 <;> cases h1
  have h0:OI P 0 (List.replicate P.length false) []:=⟨List.length_replicate,rfl,(by rw[List.countP_eq_zero];intro x hx;rw[List.eq_of_mem_replicate hx];simp),fun q=>⟨fun h=>absurd h (by simp),fun ⟨i,h1,_⟩=>absurd h1 (ku i)⟩,List.nodup_nil⟩
  refine⟨h0,fun hk=>?_,fun f=>by rw[dR];rfl⟩
  obtain⟨b,p,hb,hp,_⟩:=LX h hr hk h0
  exact⟨b,hb,yP hp⟩
 |succ k ih=>
  intro hk
  obtain⟨hO,_,hf⟩:=ih (by omega)
  obtain⟨b,p,hb,hp,yp,ab,a,ha,wK⟩:=LX h hr (by omega) hO
  have e1:(dH P l (bF n P) (k+1)).1=(dH P l (bF n P) k).1.set b true:=by
   show (dH P l (bF n P) k).1.set (fB P l (bF n P) (dH P l (bF n P) k).1 P.length).toNat true=_
   rw[hb,bC]
  have e2:(dH P l (bF n P) (k+1)).2=(dH P l (bF n P) k).2++[p]:=by
   show (dH P l (bF n P) k).2++[P.getD (fB P l (bF n P) (dH P l (bF n P) k).1 P.length).toNat []]=_
   rw[hb,bC,vm hp]
  rw[e1,e2]
  refine⟨yp,fun ei=>?_,fun f=>?_⟩
  ·obtain⟨b2,p2,sf,dF,_⟩:=LX h hr ei yp
   exact⟨b2,sf,yP dF⟩
  ·rw[show k+1+f=k+(f+1) by omega,hf]
   show (if _ then _ else _)=_
   rw[ah ab,ha]
   show EA n l f (_++[rO n l a],_++rO n l a)=_
   rw[wK,List.flatten_append];simp
theorem MS{n:Nat}{l:List bK}{P:List (List Int)}(h:oZ n l P)(hr:∀e∈l,(0≤e.1∧e.1<(n:Int))∧0≤e.2.1∧e.2.1<(n:Int)):(dH P l (bF n P) P.length).2=kq n l:=by
 obtain⟨hO,_,hf⟩:=HF h hr P.length (a8 _)
 have hl:=(C3 h.ok).1
 have hf:=hf (n+1-P.length)
 rw[show P.length+(n+1-P.length)=n+1 by omega]at hf
 unfold kq
 rw[hf]
 obtain⟨f,hfe⟩:∃f,n+1-P.length=f+1:=⟨n-P.length,by omega⟩
 rw[hfe]
 show _=(if _ then _ else _:List (List Int)×List Int).1
 have cQ:∀i,i<P.length→(dH P l (bF n P) P.length).1.getD i false=true:=fun i hi=>by
  have hc:(dH P l (bF n P) P.length).1.countP id=(dH P l (bF n P) P.length).1.length:=by rw[hO.aH,hO.tl]
  have:=List.countP_eq_length.1 hc _ (bP (n:=i) (by rw[hO.tl];exact hi))
  rw[aZ,bh (by rw[hO.tl];exact hi)];exact this
 have mn:∀x∈(List.range n).map (fun i:Nat=>(i:Int)),x∈(dH P l (bF n P) P.length).2.flatten:=fun x hx=>by
  obtain⟨i,hi,rfl⟩:=dT.1 hx
  have hi:=gy.1 hi
  obtain⟨j,p,hj,hp,_⟩:=h.idx (x:=(i:Int)) (by omega)
  exact pr.2 ⟨p,(hO.mem p).2 ⟨j,cQ j (yP hj),hj⟩,hp⟩
 have aq:=LN (l:=(List.range n).map (fun i:Nat=>(i:Int))) (by rw[List.nodup_iff_pairwise_ne,Ct];exact List.pairwise_lt_range.imp fun h=>by omega) mn
 rw[cg,kS]at aq
 rw[ag (by show ¬((dH P l (bF n P) P.length).2.flatten.length<n);omega)]
end Go.Proofs.YtnikdflhefijbaaGreat
