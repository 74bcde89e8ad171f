import Derived.Test.YtnikdflhefijbaaGreatBn32
import Derived.Test.YtnikdflhefijbaaGreatBn34
namespace Go.Proofs.YtnikdflhefijbaaGreat
open Go.RowKit
set_option maxRecDepth 100000
def lY(nx:Int→List Int)(seen:List Int):Nat→Nat
 | 0=>0
 |n+1=>lY nx seen n+if (n:Int)∈seen then 0 else (nx n).length+2
theorem Fl{nx:Int→List Int}{seen:List Int}{b:Nat}(hb:(b:Int) ∉ seen):∀n,lY nx (seen++[(b:Int)]) n+(if b<n then (nx b).length+2 else 0)=lY nx seen n
 | 0=>rfl
 |n+1=>by
  have ih:=Fl (nx:=nx) hb n
  unfold lY
  by_cases h:b=n
  ·subst h
   rw[ah (IN _)]at ih
   rw[if_pos (by simp),if_neg hb,if_pos (Nat.lt_succ_self _)]
   omega
  ·have h1:((n:Int)∈seen++[(b:Int)])↔(n:Int)∈seen:=by
    rw[bO,bh]
    exact⟨fun h'=>h'.elim id fun e=>absurd (Int.ofNat.inj e).symm h,.inl⟩
   by_cases h2:(n:Int)∈seen
   ·rw[ai (h1.2 h2),ai h2]
    by_cases h3:b<n
    ·rw[ai h3]at ih;rw[ai (by omega)];omega
    ·rw[ah h3]at ih;rw[ah (by omega)];omega
   ·rw[ah (fun h'=>h2 (h1.1 h')),ah h2]
    by_cases h3:b<n
    ·rw[ai h3]at ih;rw[ai (by omega)];omega
    ·rw[ah h3]at ih;rw[ah (by omega)];omega
def dZ(nx:Int→List Int):List (Int×Nat)→Nat
 | []=>0
 |t::w=>dZ nx w+((nx t.1).length-t.2)+1
def sb(n:Nat)(met:List Bool)(seen:List Int):Prop:=met.length=n∧∀u:Nat,u<n→met.getD u false=decide ((u:Int)∈seen)
theorem sb.at_{n:Nat}{met:List Bool}{seen:List Int}(h:sb n met seen){a:Int}(ha:0≤a∧a<n):met.getD a.toNat false=decide (a∈seen):=by
 have:=h.2 a.toNat (by omega)
 rw[lP ha.1]at this
 exact this
theorem sb.set{n:Nat}{met:List Bool}{seen:List Int}(h:sb n met seen){a:Int}(ha:0≤a∧a<n):sb n (met.set a.toNat true) (seen++[a]):=by
 refine⟨by rw[cM];exact h.1,fun u hu=>?_⟩
 rw[aW,eR]
 by_cases e:a.toNat=u
 ·subst e
  rw[ai rfl,ai (by rw[h.1];omega),lP ha.1]
  simp
 ·rw[ah e,← aW,h.2 u hu]
  have e2:¬(u:Int)=a:=fun e'=>e (by omega)
  simp[e2]
structure jS(n:Nat)(nx:Int→List Int)(F:List Int)(met:List Bool)(seen out:List Int)(gN:List (Int×Nat)):Prop where
 nq:sb n met seen
 nd:seen.Nodup
 rg:∀x∈seen,0≤x∧x<(n:Int)
 len:out.length+gN.length=seen.length
 wy:∀t∈gN,(0≤t.1∧t.1<(n:Int))∧t.2≤(nx t.1).length
 tell:F=out++lA n nx gN seen
 mem:∀x,x∈seen↔x∈out++gN.map Prod.fst
 od:(out++gN.map Prod.fst).Nodup
theorem FD:∀(n:Nat) (l:List Int),l.Nodup→(∀z∈l,0≤z∧z<(n:Int))→l.length≤n
 | 0,l,_,h=>by
  cases l with
  |nil=>exact aU _
  |cons z l=>have:=h z (cm ..);omega
 |n+1,l,hn,h=>by
  have h1:=FD n (l.erase (n:Int)) (hn.erase _) (fun z hz=>by
   rw[hn.mem_erase_iff]at hz
   have:=h z hz.2
   have:=hz.1
   omega)
  have h2:=List.length_erase (a:=(n:Int)) (l:=l)
  split at h2 <;> omega
theorem jS.small{n:Nat}{nx:Int→List Int}{F:List Int}{met:List Bool}{seen out:List Int}{gN:List (Int×Nat)}(h:jS n nx F met seen out gN):out.length+gN.length≤n:=by
 rw[h.len];exact FD n seen h.nd h.rg
theorem jS.skip{n:Nat}{nx:Int→List Int}{F:List Int}{met:List Bool}{seen out:List Int}{v:Int}{k:Nat}{w:List (Int×Nat)}(h:jS n nx F met seen out ((v,k)::w))(hk:k<(nx v).length)(hb:(nx v)[k]∈seen):jS n nx F met seen out ((v,k+1)::w):=
 ⟨h.nq,h.nd,h.rg,h.len,fun t ht=>by
  rcases eG.1 ht with rfl | ht
  ·exact⟨(h.wy (v,k) (cm ..)).1,hk⟩
  ·exact h.wy t (cY _ ht),by rw[h.tell,Z7 hk hb],h.mem,h.od⟩
theorem jS.push{n:Nat}{nx:Int→List Int}(cU:∀x,∀y∈nx x,0≤y∧y<(n:Int)){F:List Int}{met:List Bool}{seen out:List Int}{v:Int}{k:Nat}{w:List (Int×Nat)}(h:jS n nx F met seen out ((v,k)::w))(hk:k<(nx v).length)(hb:(nx v)[k] ∉ seen):jS n nx F (met.set (nx v)[k].toNat true) (seen++[(nx v)[k]]) out (((nx v)[k],0)::(v,k+1)::w):=by
 have hr:=cU v _ (bX hk)
 refine⟨h.nq.set hr,List.nodup_append.2 ⟨h.nd,by simp,fun a ha b xp e=>?_⟩,fun x hx=>?_,?_,fun t ht=>?_,by rw[h.tell,Z8 cU hk hb],fun x=>?_,?_⟩
 ·rw[bh.1 xp]at e
  exact hb (e▸ha)
 ·rcases bO.1 hx with hx | hx
  ·exact h.rg x hx
  ·rw[bh.1 hx];exact hr
 ·have:=h.len
  rw[bQ]
  show out.length+(w.length+1+1)=seen.length+1
  have this:out.length+(w.length+1)=seen.length:=this
  omega
 ·rcases eG.1 ht with rfl | ht
  ·exact⟨hr,bA _⟩
  ·rcases eG.1 ht with rfl | ht
   ·exact⟨(h.wy (v,k) (cm ..)).1,hk⟩
   ·exact h.wy t (cY _ ht)
 ·rw[bO,h.mem,bO,bO,bh]
  show _↔_∨x∈(nx v)[k]::v::w.map Prod.fst
  rw[eG (a:=x)]
  exact⟨fun h'=>h'.elim (fun h'=>h'.elim .inl fun h'=>.inr (.inr h')) fun h'=>.inr (.inl h'),fun h'=>h'.elim (fun h'=>.inl (.inl h')) fun h'=>h'.elim .inr fun h'=>.inl (.inr h')⟩
 ·have hp:(out++(nx v)[k]::v::w.map Prod.fst).Perm ((nx v)[k]::(out++v::w.map Prod.fst)):=nF
  exact hp.nodup_iff.2 (mc.2 ⟨fun hm=>hb ((h.mem _).2 hm),h.od⟩)
theorem jS.pop{n:Nat}{nx:Int→List Int}{F:List Int}{met:List Bool}{seen out:List Int}{v:Int}{k:Nat}{w:List (Int×Nat)}(h:jS n nx F met seen out ((v,k)::w))(hk:(nx v).length≤k):jS n nx F met seen (out++[v]) w:=by
 refine⟨h.nq,h.nd,h.rg,?_,fun t ht=>h.wy t (cY _ ht),by rw[h.tell,abQ hk,dM];rfl,fun x=>by rw[h.mem,dM];rfl,by rw[dM];exact h.od⟩
 have:=h.len
 rw[bQ]
 have this:out.length+(w.length+1)=seen.length:=this
 show out.length+1+w.length=_
 omega
theorem jS.top{n:Nat}{nx:Int→List Int}{met:List Bool}{out:List Int}(hm:sb n met out)(hn:out.Nodup)(hr:∀x∈out,0≤x∧x<(n:Int)){a:Int}(ha:0≤a∧a<(n:Int))(h:a ∉ out):jS n nx (out++gL nx (n+1) a out) (met.set a.toNat true) (out++[a]) out [(a,0)]:=by
 refine⟨hm.set ha,List.nodup_append.2 ⟨hn,by simp,fun x hx b xp e=>?_⟩,fun x hx=>?_,by rw[List.length_append];rfl,fun t ht=>by rw[List.mem_singleton.1 ht];exact⟨ha,Nat.zero_le _⟩,by rw[abP h],fun _=>Iff.rfl,?_⟩
 ·rw[bh.1 xp]at e
  exact h (e▸hx)
 ·rcases bO.1 hx with hx | hx
  ·exact hr x hx
  ·rw[bh.1 hx];exact ha
 ·refine List.nodup_append.2 ⟨hn,by simp,fun x hx b xp e=>?_⟩
  rw[bh.1 (show b∈[a] from xp)]at e
  exact h (e▸hx)
theorem jS.done{n:Nat}{nx:Int→List Int}{F:List Int}{met:List Bool}{seen out:List Int}(h:jS n nx F met seen out []):F=out∧sb n met F∧F.Nodup∧∀x∈F,0≤x∧x<(n:Int):=by
 have e:F=out:=by rw[h.tell];unfold lA;exact mL _
 have hm:∀x,x∈seen↔x∈out:=fun x=>by have:=h.mem x;rwa [show out++List.map Prod.fst []=out from mL _]at this
 have ho:=h.od
 rw[show out++List.map Prod.fst []=out from mL _]at ho
 subst e
 exact⟨rfl,⟨h.nq.1,fun u hu=>(h.nq.2 u hu).trans (by rw[decide_eq_decide];exact hm _)⟩,ho,fun x hx=>h.rg x ((hm x).2 hx)⟩
set_option maxHeartbeats 8000000
theorem Wl{P:Program}{TT:TypeId→Option TI}{fn:Go.Func}{a c:Go.Code}{xs:List AV}{σ:Hp}{R:AV→Hp→Prop}{S:Type}(hb:fn.body=some (.seq a (.scope c)))(fQ:S→Nat)(L:S→List (Nat×AV))(H:S→Hp)(p:S→Prop)(μ:S→Nat)
  (hr:CP (mu P TT 998) c fQ L H p μ (uK TT fn.results.toList R))
  (h:CP (mu P TT 998) c fQ L H p μ (uK TT fn.results.toList R)→codeF P TT (mu P TT 999) (.seq a (.scope c)) (t0 xs) σ (uK TT fn.results.toList R)):uL P TT fn xs σ R:=by
 have h1:mu P TT 1000 (.seq a (.scope c)) (t0 xs) σ (uK TT fn.results.toList R):=h hr
 unfold uL
 rw[hb]
 exact h1
abbrev OQ:=(Bool×Int×List Bool×List Int)×(List (Int×Nat)×Int×Nat)×(Nat×List AV)×(AV×Hp×List Int)
def VsP(n:Nat)(nx:Int→List Int)(F:List Int)(x:OQ):Prop:=match x.1.1 with
 |true=>jS n nx F (x.1.2.2.1.set x.1.2.1.toNat true) (x.1.2.2.2++[x.1.2.1]) x.2.2.2.2.2 ((x.1.2.1,0)::(x.2.1.2.1,x.2.1.2.2)::x.2.1.1.reverse)∧x.1.2.2.1.length=n∧0≤x.1.2.1∧x.1.2.1<n
 |false=>jS n nx F x.1.2.2.1 x.1.2.2.2 x.2.2.2.2.2 ((x.2.1.2.1,x.2.1.2.2)::x.2.1.1.reverse)
def VsM(n:Nat)(nx:Int→List Int)(x:OQ):Nat:=match x.1.1 with
 |true=>dZ nx ((x.1.2.1,0)::(x.2.1.2.1,x.2.1.2.2)::x.2.1.1.reverse)+lY nx (x.1.2.2.2++[x.1.2.1]) n+1
 |false=>dZ nx ((x.2.1.2.1,x.2.1.2.2)::x.2.1.1.reverse)+lY nx x.1.2.2.2 n
theorem acQ(n:Nat)(l:List bC)(a:Int)(met:List Bool)(out:List Int)(bm:Nat)(vo:AV)(uY σ:Hp)(_hl:l.length≤100000)(hn:n≤1000)(ha:0≤a∧a<n)(hm:sb n met out)(bZ:out.Nodup)(No:∀x∈out,0≤x∧x<(n:Int))(hO:Acc 1 out.length vo uY (ao out)):
  ACalls Tryz.prog 311 [.af (.slice (.int .i64)) (bS n l),.ae bm 0 n 1,.int .i64 a,.via vo] ((bm,bK met)::(uY++σ))
   (fun r σ'=>∃ra kS rf qW,kS=out++gL (au n l) (n+1) a out∧sb n ra kS∧kS.Nodup∧(∀x∈kS,0≤x∧x<(n:Int))∧Acc 1 kS.length rf qW (ao kS)∧r=rf∧σ'=(bm,bK ra)::(qW++σ)):=by
 have cU:∀x,∀y∈au n l x,0≤y∧y<(n:Int):=fun x y hy=>(lU.1 hy).1
 obtain⟨F,hF⟩:∃F,out++gL (au n l) (n+1) a out=F:=⟨_,rfl⟩
 refine ay Tryz.func311 ?_
 refine Wl (S:=OQ) rfl (fun x=>match x.1.1 with | true=>0 | false=>1)
  (fun x=>[(0,.af (.slice (.int .i64)) (bS n l)),(1,.ae bm 0 n 1),(2,.int .i64 x.1.2.1),(3,.via x.2.2.2.1),(9,.ae x.2.2.1.1 0 (x.2.1.1.length+1) 2)])
  (fun x=>(bm,bK x.1.2.2.1)::(x.2.2.1.1,bF (x.2.1.1++[(x.2.1.2.1,x.2.1.2.2)])++x.2.2.1.2)::(x.2.2.2.2.1++σ))
  (fun x=>VsP n (au n l) F x∧Acc 1 x.2.2.2.2.2.length x.2.2.2.1 x.2.2.2.2.1 (ao x.2.2.2.2.2))
  (fun x=>VsM n (au n l) x) ?_ ?_
 ·rintro⟨⟨f,b,ni,iB⟩,⟨wy,v,k⟩,⟨bw,J⟩,⟨DM,E0,kR⟩⟩ g ⟨hP,xw⟩
  have xw:Acc 1 kR.length DM E0 (ao kR):=xw
  cases f with
  |true=>
   obtain⟨hV,MB,mb,rz⟩:=hP
   have hV:jS n (au n l) F (ni.set b.toNat true) (iB++[b]) kR ((b,0)::(v,k)::wy.reverse):=hV
   have MB:ni.length=n:=MB
   have mb:0≤b:=mb
   have rz:b<n:=rz
   have vv:(bF (wy++[(v,k)])).length=(wy.length+1)*2:=by rw[mi,bQ];rfl
   have afE:=hV.small
   rw[ie,ie,sE]at afE
   refine ag.mk ⟨rfl,by omega,by omega⟩ ?_
   refine cX 0 rfl (xX rfl true mb (by omega)) ?_
   intro aD
   refine xO (k:=wy.length+1) (n:=1) [_,_] (.ae bw (wy.length+1) (bF (wy++[(v,k)])) J vv) (.ae 0 aD 0 1 _ rfl (cH rfl)) rfl (by omega) (by decide) (by decide) (fun v' bu h'=>?_)
   obtain⟨oQ,J2,rfl,rfl,_⟩:=h'.pos (by omega)
   have Hj:(wy++[(v,k)]).reverse=(v,k)::wy.reverse:=by rw[List.reverse_append];rfl
   have qo:bF (wy++[(v,k)])++[AV.int .i64 b,.int .i64 ((0:Nat):Int)]++J2=bF ((wy++[(v,k)])++[(b,0)])++J2:=by rw[oU (wy++[(v,k)]) [(b,0)]];rfl
   have s5:(wy++[(v,k)]).length=wy.length+1:=by rw[bQ];rfl
   rw[← Hj]at hV
   have wX:=hV.wy (b,0) (cm ..)
   have dm:0≤b∧b<(n:Int):=wX.1
   have AY:0≤(au n l b).length:=wX.2
   have l7:=xQ n l b
   have oz:=hV.small
   rw[ie,sE,s5]at oz
   have xl:((ni.set b.toNat true)).length=n:=hV.nq.1
   have nm:IntKind.i64.wrap ((((wy.length+1)+1:Nat):Int)-1)=(((wy.length+1):Nat):Int):=by rw[ca (by omega)];omega
   have hX:0+(IntKind.i64.wrap ((((wy.length+1)+1:Nat):Int)-1)).toNat*2=((wy++[(v,k)])).length*2:=by rw[nm,s5];omega
   have mE:eu ⟨.int .i64,1,8,[.int .i64 0]⟩ (bF (wy++[(v,k)])++[AV.int .i64 b,.int .i64 ((0:Nat):Int)]++J2) (0+(IntKind.i64.wrap ((((wy.length+1)+1:Nat):Int)-1)).toNat*2+0)=some (.int .i64 b):=by rw[qo];exact je rfl (by rw[hX];exact rJ rfl)
   have lK:eu ⟨.int .i64,1,8,[.int .i64 0]⟩ (bF (wy++[(v,k)])++[AV.int .i64 b,.int .i64 ((0:Nat):Int)]++J2) (0+(IntKind.i64.wrap ((((wy.length+1)+1:Nat):Int)-1)).toNat*2+1)=some (.int .i64 ((0:Nat):Int)):=by rw[qo];exact je rfl (by rw[hX];exact BK rfl)
   have ej:(bF ((wy++[(v,k)])++[(b,0)])++J2).length=((wy++[(v,k)])).length*2+2+(J2:List AV).length:=by rw[bQ,mi,bQ];show (_+1)*2+_=_;omega
   have l8:IntKind.i64.wrap (((0:Nat):Int)+1)=((0+1:Nat):Int):=by rw[ca (by omega)];omega
   have vw:kJ ⟨.int .i64,1,8,[.int .i64 0]⟩ (bF (wy++[(v,k)])++[AV.int .i64 b,.int .i64 ((0:Nat):Int)]++J2) (0+(IntKind.i64.wrap ((((wy.length+1)+1:Nat):Int)-1)).toNat*2+1) (.int .i64 (IntKind.i64.wrap (((0:Nat):Int)+1)))=some (bF ((wy++[(v,k)])++[(b,0+1)])++J2):=by
    rw[qo,uv rfl rfl (by rw[hX,ej];omega),hX,l8,B2 rfl]
   have uI:2=2∧0≤IntKind.i64.wrap ((((wy.length+1)+1:Nat):Int)-1)∧IntKind.i64.wrap ((((wy.length+1)+1:Nat):Int)-1)<(((wy.length+1)+1:Nat):Int):=⟨rfl,by omega,by omega⟩
   refine ag.mk uI ?_
   refine .quiet (by kernel_rfl) ?_
   refine aT 2 rfl lK ?_
   refine aT 2 rfl mE ?_
   refine ag.mk rfl ?_
   refine bG.mk (au n l b) (by omega) (o6 dm) ?_
   refine an (p:=((0:Nat):Int)<(au n l b).length) (fun ab=>?_) (fun ar=>?_)
   ·have ab:0<(au n l b).length:=by omega
    obtain⟨z,hz⟩:∃z,(au n l b)[0]=z:=⟨_,rfl⟩
    have D1:z∈au n l b:=hz▸bX ab
    have gP:=(lU.1 D1).1
    refine .quiet (by kernel_rfl) ?_
    refine aT 2 rfl mE ?_
    refine ag.mk rfl ?_
    refine bG.mk (au n l b) (by omega) (o6 dm) ?_
    refine aT 2 rfl lK ?_
    refine ag.mk rfl ?_
    refine bG.mk z (by omega) ((get_some ab).trans (congrArg some hz)) ?_
    refine aT 2 rfl lK ?_
    refine cX 2 rfl vw ?_
    refine ag.mk ⟨rfl,by omega,by omega⟩ ?_
    refine fu.kv 1 _ _ rfl (sQ rfl gP.1 (by rw[xl];omega)) (fun c2=>?_) (fun c2=>?_)
    ·have jm:z∈(iB++[b]):=by rw[hV.nq.at_ gP]at c2;exact fm c2
     have hS:=hV.skip ab (by rw[hz];exact jm)
     have kC:dZ (au n l) ((b,0+1)::((wy++[(v,k)])).reverse)+1=dZ (au n l) ((b,0)::((wy++[(v,k)])).reverse):=by show dZ (au n l) ((wy++[(v,k)])).reverse+((au n l b).length-(0+1))+1+1=dZ (au n l) ((wy++[(v,k)])).reverse+((au n l b).length-0)+1;omega
     exact .mk ((false,z,(ni.set b.toNat true),(iB++[b])),((wy++[(v,k)]),b,0+1),(oQ,J2),(DM,E0,kR)) rfl (by show dZ (au n l) ((b,0+1)::((wy++[(v,k)])).reverse)+lY (au n l) ((iB++[b])) n<_;(show _<dZ (au n l) ((b,0)::(v,k)::wy.reverse)+lY (au n l) (iB++[b]) n+1);rw[← Hj];omega) ⟨hS,xw⟩ ⟨rfl,rfl,rfl,rfl,by rw[s5];rfl,trivial⟩ (.drop 0 1 (.refl _))
    ·have jm:z ∉ (iB++[b]):=by rw[hV.nq.at_ gP]at c2;exact pH c2
     have hS:=hV.push cU ab (by rw[hz];exact jm)
     rw[hz]at hS
     have kC:dZ (au n l) ((z,0)::(b,0+1)::((wy++[(v,k)])).reverse)=dZ (au n l) ((b,0)::((wy++[(v,k)])).reverse)+(au n l z).length:=by show dZ (au n l) ((wy++[(v,k)])).reverse+((au n l b).length-(0+1))+1+((au n l z).length-0)+1=dZ (au n l) ((wy++[(v,k)])).reverse+((au n l b).length-0)+1+(au n l z).length;omega
     have oH:=Fl (nx:=au n l) (seen:=(iB++[b])) (b:=z.toNat) (by rw[lP gP.1];exact jm) n
     rw[ai (by omega),lP gP.1]at oH
     exact .mk ((true,z,(ni.set b.toNat true),(iB++[b])),((wy++[(v,k)]),b,0+1),(oQ,J2),(DM,E0,kR)) rfl (by show dZ (au n l) ((z,0)::(b,0+1)::((wy++[(v,k)])).reverse)+lY (au n l) (((iB++[b]))++[z]) n+1<_;(show _<dZ (au n l) ((b,0)::(v,k)::wy.reverse)+lY (au n l) (iB++[b]) n+1);rw[← Hj];omega) ⟨⟨hS,xl,gP.1,gP.2⟩,xw⟩ ⟨rfl,rfl,rfl,rfl,by rw[s5];rfl,trivial⟩ (.drop 0 1 (.refl _))
   ·have ar:(au n l b).length≤0:=by omega
    have hS:=hV.pop ar
    refine aT 2 rfl mE ?_
    intro bs
    refine jU (k:=(kR).length) (n:=1) [_,_,_,_] xw (.ae 0 bs 0 1 _ rfl (cH rfl)) rfl (by omega) (by decide) (by decide) (fun qi mN xv=>?_)
    have xt:Acc 1 ((kR)++[b]).length qi mN (ao ((kR)++[b])):=by
     rw[List.length_append,show ao ((kR)++[b])=ao (kR)++[.int .i64 b] by simp[ao]];exact xv
    have p9:(IntKind.i64.wrap ((((wy.length+1)+1:Nat):Int)-1)).toNat-Int.toNat 0=(wy.length+1):=by rw[nm];omega
    have de:0≤(0:Int)∧(0:Int)≤IntKind.i64.wrap ((((wy.length+1)+1:Nat):Int)-1)∧IntKind.i64.wrap ((((wy.length+1)+1:Nat):Int)-1)≤(((wy.length+1)+1:Nat):Int)∧2=2:=⟨by omega,by omega,by omega,rfl⟩
    refine ag.mk de ?_
    have iT:(IntKind.i64.wrap ((((wy.length+1)+1:Nat):Int)-1)).toNat-Int.toNat 0=(wy).length+1:=p9.trans (rfl)
    have iE:AV.ae oQ (0+Int.toNat 0*2) ((IntKind.i64.wrap ((((wy.length+1)+1:Nat):Int)-1)).toNat-Int.toNat 0) 2=.ae oQ 0 ((wy).length+1) 2:=by rw[iT];rfl
    have n9:bF (wy++[(v,k)])++[AV.int .i64 b,.int .i64 ((0:Nat):Int)]++J2=bF (wy++[(v,k)])++([.int .i64 b,.int .i64 ((0:Nat):Int)]++J2):=by rw[qo,oU,dM];rfl
    rw[Hj]at hS
    refine an (p:=(0:Int)<(((IntKind.i64.wrap ((((wy.length+1)+1:Nat):Int)-1)).toNat-Int.toNat 0:Nat):Int)) (fun c3=>?_) (fun c3=>?_)
    rotate_left
    ·rw[iT]at c3;omega
    have kC:dZ (au n l) ((v,k)::(wy).reverse)+1≤dZ (au n l) ((b,0)::(v,k)::(wy).reverse):=by show _≤dZ (au n l) ((v,k)::(wy).reverse)+((au n l b).length-0)+1;omega
    have hE:(bm,bK (ni.set b.toNat true))::(oQ,bF (wy++[(v,k)])++[AV.int .i64 b,.int .i64 ((0:Nat):Int)]++J2)::(mN++σ)=(bm,bK (ni.set b.toNat true))::(oQ,bF (wy++[(v,k)])++([.int .i64 b,.int .i64 ((0:Nat):Int)]++J2))::(mN++σ):=by rw[n9]
    exact .mk ((false,b,(ni.set b.toNat true),(iB++[b])),(wy,v,k),(oQ,[AV.int .i64 b,.int .i64 ((0:Nat):Int)]++J2),(qi,mN,(kR)++[b])) rfl (by show dZ (au n l) ((v,k)::(wy).reverse)+lY (au n l) ((iB++[b])) n<_;(show _<dZ (au n l) ((b,0)::(v,k)::wy.reverse)+lY (au n l) (iB++[b]) n+1);omega) ⟨hS,xt⟩ ⟨rfl,rfl,rfl,rfl,iE,trivial⟩ (.drop 0 2 (aJ hE))
  |false=>
   have hV:jS n (au n l) F ni iB kR ((v,k)::wy.reverse):=hP
   have s5:wy.length=wy.length:=rfl
   have qo:bF (wy++[(v,k)])++J=bF (wy++[(v,k)])++J:=rfl
   have wX:=hV.wy (v,k) (cm ..)
   have dm:0≤v∧v<(n:Int):=wX.1
   have AY:k≤(au n l v).length:=wX.2
   have l7:=xQ n l v
   have oz:=hV.small
   rw[ie,sE,s5]at oz
   have xl:(ni).length=n:=hV.nq.1
   have nm:IntKind.i64.wrap (((wy.length+1:Nat):Int)-1)=((wy.length:Nat):Int):=by rw[ca (by omega)];omega
   have hX:0+(IntKind.i64.wrap (((wy.length+1:Nat):Int)-1)).toNat*2=(wy).length*2:=by rw[nm,s5];omega
   have mE:eu ⟨.int .i64,1,8,[.int .i64 0]⟩ (bF (wy++[(v,k)])++J) (0+(IntKind.i64.wrap (((wy.length+1:Nat):Int)-1)).toNat*2+0)=some (.int .i64 v):=by rw[qo];exact je rfl (by rw[hX];exact rJ rfl)
   have lK:eu ⟨.int .i64,1,8,[.int .i64 0]⟩ (bF (wy++[(v,k)])++J) (0+(IntKind.i64.wrap (((wy.length+1:Nat):Int)-1)).toNat*2+1)=some (.int .i64 ((k:Nat):Int)):=by rw[qo];exact je rfl (by rw[hX];exact BK rfl)
   have ej:(bF (wy++[(v,k)])++J).length=(wy).length*2+2+(J:List AV).length:=by rw[bQ,mi,bQ];show (_+1)*2+_=_;omega
   have l8:IntKind.i64.wrap (((k:Nat):Int)+1)=((k+1:Nat):Int):=by rw[ca (by omega)];omega
   have vw:kJ ⟨.int .i64,1,8,[.int .i64 0]⟩ (bF (wy++[(v,k)])++J) (0+(IntKind.i64.wrap (((wy.length+1:Nat):Int)-1)).toNat*2+1) (.int .i64 (IntKind.i64.wrap (((k:Nat):Int)+1)))=some (bF (wy++[(v,k+1)])++J):=by
    rw[qo,uv rfl rfl (by rw[hX,ej];omega),hX,l8,B2 rfl]
   have uI:2=2∧0≤IntKind.i64.wrap (((wy.length+1:Nat):Int)-1)∧IntKind.i64.wrap (((wy.length+1:Nat):Int)-1)<((wy.length+1:Nat):Int):=⟨rfl,by omega,by omega⟩
   refine ag.mk uI ?_
   refine .quiet (by kernel_rfl) ?_
   refine aT 1 rfl lK ?_
   refine aT 1 rfl mE ?_
   refine ag.mk rfl ?_
   refine bG.mk (au n l v) (by omega) (o6 dm) ?_
   refine an (p:=((k:Nat):Int)<(au n l v).length) (fun ab=>?_) (fun ar=>?_)
   ·have ab:k<(au n l v).length:=by omega
    obtain⟨z,hz⟩:∃z,(au n l v)[k]=z:=⟨_,rfl⟩
    have D1:z∈au n l v:=hz▸bX ab
    have gP:=(lU.1 D1).1
    refine .quiet (by kernel_rfl) ?_
    refine aT 1 rfl mE ?_
    refine ag.mk rfl ?_
    refine bG.mk (au n l v) (by omega) (o6 dm) ?_
    refine aT 1 rfl lK ?_
    refine ag.mk rfl ?_
    refine bG.mk z (by omega) ((get_some ab).trans (congrArg some hz)) ?_
    refine aT 1 rfl lK ?_
    refine cX 1 rfl vw ?_
    refine ag.mk ⟨rfl,by omega,by omega⟩ ?_
    refine fu.kv 0 _ _ rfl (sQ rfl gP.1 (by rw[xl];omega)) (fun c2=>?_) (fun c2=>?_)
    ·have jm:z∈iB:=by rw[hV.nq.at_ gP]at c2;exact fm c2
     have hS:=hV.skip ab (by rw[hz];exact jm)
     have kC:dZ (au n l) ((v,k+1)::(wy).reverse)+1=dZ (au n l) ((v,k)::(wy).reverse):=by show dZ (au n l) (wy).reverse+((au n l v).length-(k+1))+1+1=dZ (au n l) (wy).reverse+((au n l v).length-k)+1;omega
     exact .mk ((false,z,ni,iB),(wy,v,k+1),(bw,J),(DM,E0,kR)) rfl (by show dZ (au n l) ((v,k+1)::(wy).reverse)+lY (au n l) (iB) n<_;(show _<dZ (au n l) ((v,k)::wy.reverse)+lY (au n l) iB n);omega) ⟨hS,xw⟩ ⟨rfl,rfl,rfl,rfl,rfl,trivial⟩ (.refl _)
    ·have jm:z ∉ iB:=by rw[hV.nq.at_ gP]at c2;exact pH c2
     have hS:=hV.push cU ab (by rw[hz];exact jm)
     rw[hz]at hS
     have kC:dZ (au n l) ((z,0)::(v,k+1)::(wy).reverse)=dZ (au n l) ((v,k)::(wy).reverse)+(au n l z).length:=by show dZ (au n l) (wy).reverse+((au n l v).length-(k+1))+1+((au n l z).length-0)+1=dZ (au n l) (wy).reverse+((au n l v).length-k)+1+(au n l z).length;omega
     have oH:=Fl (nx:=au n l) (seen:=iB) (b:=z.toNat) (by rw[lP gP.1];exact jm) n
     rw[ai (by omega),lP gP.1]at oH
     exact .mk ((true,z,ni,iB),(wy,v,k+1),(bw,J),(DM,E0,kR)) rfl (by show dZ (au n l) ((z,0)::(v,k+1)::(wy).reverse)+lY (au n l) ((iB)++[z]) n+1<_;(show _<dZ (au n l) ((v,k)::wy.reverse)+lY (au n l) iB n);omega) ⟨⟨hS,xl,gP.1,gP.2⟩,xw⟩ ⟨rfl,rfl,rfl,rfl,rfl,trivial⟩ (.refl _)
   ·have ar:(au n l v).length≤k:=by omega
    have hS:=hV.pop ar
    refine aT 1 rfl mE ?_
    intro bs
    refine jU (k:=(kR).length) (n:=1) [_,_,_] xw (.ae 0 bs 0 1 _ rfl (cH rfl)) rfl (by omega) (by decide) (by decide) (fun qi mN xv=>?_)
    have xt:Acc 1 ((kR)++[v]).length qi mN (ao ((kR)++[v])):=by
     rw[List.length_append,show ao ((kR)++[v])=ao (kR)++[.int .i64 v] by simp[ao]];exact xv
    have p9:(IntKind.i64.wrap (((wy.length+1:Nat):Int)-1)).toNat-Int.toNat 0=wy.length:=by rw[nm];omega
    have de:0≤(0:Int)∧(0:Int)≤IntKind.i64.wrap (((wy.length+1:Nat):Int)-1)∧IntKind.i64.wrap (((wy.length+1:Nat):Int)-1)≤((wy.length+1:Nat):Int)∧2=2:=⟨by omega,by omega,by omega,rfl⟩
    refine ag.mk de ?_
    rcases EK wy with xh | ⟨w',⟨u,i⟩,xh⟩
    ·rw[show wy.reverse=[] by rw[xh];rfl]at hS
     refine an (p:=(0:Int)<(((IntKind.i64.wrap (((wy.length+1:Nat):Int)-1)).toNat-Int.toNat 0:Nat):Int)) (fun c3=>?_) (fun c3=>?_)
     ·rw[p9]at c3;exact absurd c3 (by rw[xh];decide)
     ·obtain⟨e1,e2,e3,e4⟩:=jS.done hS
      rw[← e1]at xt
      exact .drop 0 1 (.drop 1 1 (.done ⟨ni,F,qi,mN,hF.symm,e2,e3,e4,xt,rfl,rfl⟩))
    ·have xh:wy=w'++[(u,i)]:=by simpa using xh
     have Vp:(wy).reverse=(u,i)::w'.reverse:=by rw[xh,List.reverse_append];rfl
     have iT:(IntKind.i64.wrap (((wy.length+1:Nat):Int)-1)).toNat-Int.toNat 0=(w').length+1:=p9.trans (by rw[xh,bQ];rfl)
     have iE:AV.ae bw (0+Int.toNat 0*2) ((IntKind.i64.wrap (((wy.length+1:Nat):Int)-1)).toNat-Int.toNat 0) 2=.ae bw 0 ((w').length+1) 2:=by rw[iT];rfl
     have n9:bF (wy++[(v,k)])++J=bF (w'++[(u,i)])++([.int .i64 v,.int .i64 ((k:Nat):Int)]++J):=by rw[qo,xh,oU,dM];rfl
     rw[Vp]at hS
     refine an (p:=(0:Int)<(((IntKind.i64.wrap (((wy.length+1:Nat):Int)-1)).toNat-Int.toNat 0:Nat):Int)) (fun c3=>?_) (fun c3=>?_)
     rotate_left
     ·rw[iT]at c3;omega
     have kC:dZ (au n l) ((u,i)::(w').reverse)+1≤dZ (au n l) ((v,k)::(wy).reverse):=by rw[← Vp];show _≤dZ (au n l) (wy).reverse+((au n l v).length-k)+1;omega
     have hE:(bm,bK ni)::(bw,bF (wy++[(v,k)])++J)::(mN++σ)=(bm,bK ni)::(bw,bF (w'++[(u,i)])++([.int .i64 v,.int .i64 ((k:Nat):Int)]++J))::(mN++σ):=by rw[n9]
     exact .mk ((false,b,ni,iB),(w',u,i),(bw,[AV.int .i64 v,.int .i64 ((k:Nat):Int)]++J),(qi,mN,(kR)++[v])) rfl (by show dZ (au n l) ((u,i)::(w').reverse)+lY (au n l) (iB) n<_;(show _<dZ (au n l) ((v,k)::wy.reverse)+lY (au n l) iB n);omega) ⟨hS,xt⟩ ⟨rfl,rfl,rfl,rfl,iE,trivial⟩ (.drop 0 1 (aJ hE))
 ·intro hr
  have MB:=hm.1
  refine ag.mk ⟨rfl,by omega,by omega⟩ ?_
  refine fu.kv 0 _ _ rfl (sQ rfl ha.1 (by omega)) (fun c1=>?_) (fun c1=>?_)
  ·have dW:a∈out:=by rw[hm.at_ ha]at c1;exact fm c1
   have rp:gL (au n l) (n+1) a out=[]:=by unfold gL;rw[ai dW]
   rw[rp,mL]at hF
   exact .done ⟨met,out,vo,uY,by rw[rp,mL],hm,bZ,No,hO,rfl,rfl⟩
  ·have dW:a ∉ out:=by rw[hm.at_ ha]at c1;exact pH c1
   have hV:=jS.top (nx:=au n l) hm bZ No ha dW
   rw[hF]at hV
   refine ag.mk ⟨rfl,by omega,by omega⟩ ?_
   refine cX 0 rfl (xX rfl true ha.1 (by omega)) ?_
   intro aD
   refine xO (k:=0) (n:=1) [_,_] (acc:=[]) .nil (.ae 0 aD 0 1 _ rfl (cH rfl)) rfl (by omega) (by decide) (by decide) (fun v' bu h'=>?_)
   obtain⟨bw,J,rfl,rfl,_⟩:=h'.pos (by omega)
   have qo:[]++[AV.int .i64 a,.int .i64 ((0:Nat):Int)]++J=bF (([]:List (Int×Nat))++[(a,0)])++J:=rfl
   have s5:([]:List (Int×Nat)).length=0:=rfl
   have hV:jS n (au n l) F (met.set a.toNat true) (out++[a]) out ((a,0)::([]:List (Int×Nat)).reverse):=hV
   have wX:=hV.wy (a,0) (cm ..)
   have dm:0≤a∧a<(n:Int):=wX.1
   have AY:0≤(au n l a).length:=wX.2
   have l7:=xQ n l a
   have oz:=hV.small
   rw[ie,sE,s5]at oz
   have xl:((met.set a.toNat true)).length=n:=hV.nq.1
   have nm:IntKind.i64.wrap (((0+1:Nat):Int)-1)=((0:Nat):Int):=by rw[ca (by omega)];omega
   have hX:0+(IntKind.i64.wrap (((0+1:Nat):Int)-1)).toNat*2=(([]:List (Int×Nat))).length*2:=by rw[nm,s5];omega
   have mE:eu ⟨.int .i64,1,8,[.int .i64 0]⟩ ([]++[AV.int .i64 a,.int .i64 ((0:Nat):Int)]++J) (0+(IntKind.i64.wrap (((0+1:Nat):Int)-1)).toNat*2+0)=some (.int .i64 a):=by rw[qo];exact je rfl (by rw[hX];exact rJ rfl)
   have lK:eu ⟨.int .i64,1,8,[.int .i64 0]⟩ ([]++[AV.int .i64 a,.int .i64 ((0:Nat):Int)]++J) (0+(IntKind.i64.wrap (((0+1:Nat):Int)-1)).toNat*2+1)=some (.int .i64 ((0:Nat):Int)):=by rw[qo];exact je rfl (by rw[hX];exact BK rfl)
   have ej:(bF (([]:List (Int×Nat))++[(a,0)])++J).length=(([]:List (Int×Nat))).length*2+2+(J:List AV).length:=by rw[bQ,mi,bQ];show (_+1)*2+_=_;omega
   have l8:IntKind.i64.wrap (((0:Nat):Int)+1)=((0+1:Nat):Int):=by rw[ca (by omega)];omega
   have vw:kJ ⟨.int .i64,1,8,[.int .i64 0]⟩ ([]++[AV.int .i64 a,.int .i64 ((0:Nat):Int)]++J) (0+(IntKind.i64.wrap (((0+1:Nat):Int)-1)).toNat*2+1) (.int .i64 (IntKind.i64.wrap (((0:Nat):Int)+1)))=some (bF (([]:List (Int×Nat))++[(a,0+1)])++J):=by
    rw[qo,uv rfl rfl (by rw[hX,ej];omega),hX,l8,B2 rfl]
   have uI:2=2∧0≤IntKind.i64.wrap (((0+1:Nat):Int)-1)∧IntKind.i64.wrap (((0+1:Nat):Int)-1)<((0+1:Nat):Int):=⟨rfl,by omega,by omega⟩
   refine ag.mk uI ?_
   refine .quiet (by kernel_rfl) ?_
   refine aT 2 rfl lK ?_
   refine aT 2 rfl mE ?_
   refine ag.mk rfl ?_
   refine bG.mk (au n l a) (by omega) (o6 dm) ?_
   refine an (p:=((0:Nat):Int)<(au n l a).length) (fun ab=>?_) (fun ar=>?_)
   ·have ab:0<(au n l a).length:=by omega
    obtain⟨z,hz⟩:∃z,(au n l a)[0]=z:=⟨_,rfl⟩
    have D1:z∈au n l a:=hz▸bX ab
    have gP:=(lU.1 D1).1
    refine .quiet (by kernel_rfl) ?_
    refine aT 2 rfl mE ?_
    refine ag.mk rfl ?_
    refine bG.mk (au n l a) (by omega) (o6 dm) ?_
    refine aT 2 rfl lK ?_
    refine ag.mk rfl ?_
    refine bG.mk z (by omega) ((get_some ab).trans (congrArg some hz)) ?_
    refine aT 2 rfl lK ?_
    refine cX 2 rfl vw ?_
    refine ag.mk ⟨rfl,by omega,by omega⟩ ?_
    refine fu.kv 1 _ _ rfl (sQ rfl gP.1 (by rw[xl];omega)) (fun c2=>?_) (fun c2=>?_)
    ·have jm:z∈(out++[a]):=by rw[hV.nq.at_ gP]at c2;exact fm c2
     have hS:=hV.skip ab (by rw[hz];exact jm)
     have kC:dZ (au n l) ((a,0+1)::(([]:List (Int×Nat))).reverse)+1=dZ (au n l) ((a,0)::(([]:List (Int×Nat))).reverse):=by show dZ (au n l) (([]:List (Int×Nat))).reverse+((au n l a).length-(0+1))+1+1=dZ (au n l) (([]:List (Int×Nat))).reverse+((au n l a).length-0)+1;omega
     exact vY hr ((false,z,(met.set a.toNat true),(out++[a])),(([]:List (Int×Nat)),a,0+1),(bw,J),(vo,uY,out)) ⟨rfl,⟨hS,hO⟩,⟨rfl,rfl,rfl,rfl,rfl,trivial⟩,(.drop 0 1 (.refl _))⟩
    ·have jm:z ∉ (out++[a]):=by rw[hV.nq.at_ gP]at c2;exact pH c2
     have hS:=hV.push cU ab (by rw[hz];exact jm)
     rw[hz]at hS
     have kC:dZ (au n l) ((z,0)::(a,0+1)::(([]:List (Int×Nat))).reverse)=dZ (au n l) ((a,0)::(([]:List (Int×Nat))).reverse)+(au n l z).length:=by show dZ (au n l) (([]:List (Int×Nat))).reverse+((au n l a).length-(0+1))+1+((au n l z).length-0)+1=dZ (au n l) (([]:List (Int×Nat))).reverse+((au n l a).length-0)+1+(au n l z).length;omega
     have oH:=Fl (nx:=au n l) (seen:=(out++[a])) (b:=z.toNat) (by rw[lP gP.1];exact jm) n
     rw[ai (by omega),lP gP.1]at oH
     exact vY hr ((true,z,(met.set a.toNat true),(out++[a])),(([]:List (Int×Nat)),a,0+1),(bw,J),(vo,uY,out)) ⟨rfl,⟨⟨hS,xl,gP.1,gP.2⟩,hO⟩,⟨rfl,rfl,rfl,rfl,rfl,trivial⟩,(.drop 0 1 (.refl _))⟩
   ·have ar:(au n l a).length≤0:=by omega
    have hS:=hV.pop ar
    refine aT 2 rfl mE ?_
    intro bs
    refine jU (k:=(out).length) (n:=1) [_,_,_,_] hO (.ae 0 bs 0 1 _ rfl (cH rfl)) rfl (by omega) (by decide) (by decide) (fun qi mN xv=>?_)
    have xt:Acc 1 ((out)++[a]).length qi mN (ao ((out)++[a])):=by
     rw[List.length_append,show ao ((out)++[a])=ao (out)++[.int .i64 a] by simp[ao]];exact xv
    have p9:(IntKind.i64.wrap (((0+1:Nat):Int)-1)).toNat-Int.toNat 0=0:=by rw[nm];omega
    have de:0≤(0:Int)∧(0:Int)≤IntKind.i64.wrap (((0+1:Nat):Int)-1)∧IntKind.i64.wrap (((0+1:Nat):Int)-1)≤((0+1:Nat):Int)∧2=2:=⟨by omega,by omega,by omega,rfl⟩
    refine ag.mk de ?_
    obtain⟨e1,e2,e3,e4⟩:=jS.done hS
    rw[← e1]at xt
    exact .drop 0 2 (.drop 1 1 (.done ⟨(met.set a.toNat true),F,qi,mN,hF.symm,e2,e3,e4,xt,rfl,rfl⟩))
end Go.Proofs.YtnikdflhefijbaaGreat
