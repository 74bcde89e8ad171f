import Derived.Test.YtnikdflhefijbaaGreatBn12
import Derived.Test.YtnikdflhefijbaaGreatBn13
import Derived.Test.YtnikdflhefijbaaGreatBn5
import Derived.Test.YtnikdflhefijbaaGreatBn8
import Derived.Test.YtnikdflhefijbaaGreatBn9
namespace Go.Proofs.YtnikdflhefijbaaGreat
open Go.RowKit
set_option maxRecDepth 100000
def mi(nx:Int→List Int)(seen:List Int):Nat→Nat
 | 0=>0
 |n+1=>mi nx seen n+if (n:Int)∈seen then 0 else (nx n).length+2
theorem Gr{nx:Int→List Int}{seen:List Int}{b:Nat}(hb:(b:Int) ∉ seen):∀n,mi nx (seen++[(b:Int)]) n+(if b<n then (nx b).length+2 else 0)=mi nx seen n
 | 0=>rfl
 |n+1=>by
  have ih:=Gr (nx:=nx) hb n
  unfold mi
  by_cases h:b=n
  ·subst h
   rw[ag (JJ _)]at ih
   rw[if_pos (by simp),if_neg hb,if_pos (Nat.lt_succ_self _)]
   omega
  ·have h1:((n:Int)∈seen++[(b:Int)])↔(n:Int)∈seen:=by
    rw[bR,bh]
    exact⟨fun h'=>h'.elim id fun e=>absurd (Int.ofNat.inj e).symm h,.inl⟩
   by_cases h2:(n:Int)∈seen
   ·rw[ah (h1.2 h2),ah h2]
    by_cases h3:b<n
    ·rw[ah h3]at ih;rw[ah (by omega)];omega
    ·rw[ag h3]at ih;rw[ag (by omega)];omega
   ·rw[ag (fun h'=>h2 (h1.1 h')),ag h2]
    by_cases h3:b<n
    ·rw[ah h3]at ih;rw[ah (by omega)];omega
    ·rw[ag h3]at ih;rw[ag (by omega)];omega
def ek(nx:Int→List Int):List (Int×Nat)→Nat
 | []=>0
 |t::w=>ek nx w+((nx t.1).length-t.2)+1
def sK(n:Nat)(met:List Bool)(seen:List Int):Prop:=met.length=n∧∀u:Nat,u<n→met.getD u false=decide ((u:Int)∈seen)
theorem sK.at_{n:Nat}{met:List Bool}{seen:List Int}(h:sK n met seen){a:Int}(ha:0≤a∧a<n):met.getD a.toNat false=decide (a∈seen):=by
 have:=h.2 a.toNat (by omega)
 rw[lB ha.1]at this
 exact this
theorem sK.set{n:Nat}{met:List Bool}{seen:List Int}(h:sK n met seen){a:Int}(ha:0≤a∧a<n):sK n (met.set a.toNat true) (seen++[a]):=by
 refine⟨by rw[cM];exact h.1,fun u hu=>?_⟩
 rw[aW,e9]
 by_cases e:a.toNat=u
 ·subst e
  rw[ah rfl,ah (by rw[h.1];omega),lB ha.1]
  simp
 ·rw[ag e,← aW,h.2 u hu]
  have e2:¬(u:Int)=a:=fun e'=>e (by omega)
  simp[e2]
structure jU(n:Nat)(nx:Int→List Int)(F:List Int)(met:List Bool)(seen out:List Int)(gT:List (Int×Nat)):Prop where
 nI:sK n met seen
 nd:seen.Nodup
 rg:∀x∈seen,0≤x∧x<(n:Int)
 len:out.length+gT.length=seen.length
 wy:∀t∈gT,(0≤t.1∧t.1<(n:Int))∧t.2≤(nx t.1).length
 tell:F=out++lJ n nx gT seen
 mem:∀x,x∈seen↔x∈out++gT.map Prod.fst
 od:(out++gT.map Prod.fst).Nodup
theorem GB:∀(n:Nat) (l:List Int),l.Nodup→(∀z∈l,0≤z∧z<(n:Int))→l.length≤n
 | 0,l,_,h=>by
  cases l with
  |nil=>exact aR _
  |cons z l=>have:=h z (bU ..);omega
 |n+1,l,hn,h=>by
  have h1:=GB n (l.erase (n:Int)) (hn.erase _) (fun z hz=>by
   rw[hn.mem_erase_iff]at hz
   have:=h z hz.2
   have:=hz.1
   omega)
  have h2:=List.length_erase (a:=(n:Int)) (l:=l)
  split at h2 <;> omega
theorem jU.small{n:Nat}{nx:Int→List Int}{F:List Int}{met:List Bool}{seen out:List Int}{gT:List (Int×Nat)}(h:jU n nx F met seen out gT):out.length+gT.length≤n:=by
 rw[h.len];exact GB n seen h.nd h.rg
theorem jU.skip{n:Nat}{nx:Int→List Int}{F:List Int}{met:List Bool}{seen out:List Int}{v:Int}{k:Nat}{w:List (Int×Nat)}(h:jU n nx F met seen out ((v,k)::w))(hk:k<(nx v).length)(hb:(nx v)[k]∈seen):jU n nx F met seen out ((v,k+1)::w):=
 ⟨h.nI,h.nd,h.rg,h.len,fun t ht=>by
  rcases dA.1 ht with rfl | ht
  ·exact⟨(h.wy (v,k) (bU ..)).1,hk⟩
  ·exact h.wy t (cQ _ ht),by rw[h.tell,abB hk hb],h.mem,h.od⟩
theorem jU.push{n:Nat}{nx:Int→List Int}(dc:∀x,∀y∈nx x,0≤y∧y<(n:Int)){F:List Int}{met:List Bool}{seen out:List Int}{v:Int}{k:Nat}{w:List (Int×Nat)}(h:jU n nx F met seen out ((v,k)::w))(hk:k<(nx v).length)(hb:(nx v)[k] ∉ seen):jU n nx F (met.set (nx v)[k].toNat true) (seen++[(nx v)[k]]) out (((nx v)[k],0)::(v,k+1)::w):=by
 have hr:=dc v _ (bX hk)
 refine⟨h.nI.set hr,List.nodup_append.2 ⟨h.nd,by simp,fun a ha b x5 e=>?_⟩,fun x hx=>?_,?_,fun t ht=>?_,by rw[h.tell,abC dc hk hb],fun x=>?_,?_⟩
 ·rw[bh.1 x5]at e
  exact hb (e▸ha)
 ·rcases bR.1 hx with hx | hx
  ·exact h.rg x hx
  ·rw[bh.1 hx];exact hr
 ·have:=h.len
  rw[bV]
  show out.length+(w.length+1+1)=seen.length+1
  have this:out.length+(w.length+1)=seen.length:=this
  omega
 ·rcases dA.1 ht with rfl | ht
  ·exact⟨hr,bE _⟩
  ·rcases dA.1 ht with rfl | ht
   ·exact⟨(h.wy (v,k) (bU ..)).1,hk⟩
   ·exact h.wy t (cQ _ ht)
 ·rw[bR,h.mem,bR,bR,bh]
  show _↔_∨x∈(nx v)[k]::v::w.map Prod.fst
  rw[dA (a:=x)]
  exact⟨fun h'=>h'.elim (fun h'=>h'.elim .inl fun h'=>.inr (.inr h')) fun h'=>.inr (.inl h'),fun h'=>h'.elim (fun h'=>.inl (.inl h')) fun h'=>h'.elim .inr fun h'=>.inl (.inr h')⟩
 ·have hp:(out++(nx v)[k]::v::w.map Prod.fst).Perm ((nx v)[k]::(out++v::w.map Prod.fst)):=nX
  exact hp.nodup_iff.2 (lY.2 ⟨fun hm=>hb ((h.mem _).2 hm),h.od⟩)
theorem jU.pop{n:Nat}{nx:Int→List Int}{F:List Int}{met:List Bool}{seen out:List Int}{v:Int}{k:Nat}{w:List (Int×Nat)}(h:jU n nx F met seen out ((v,k)::w))(hk:(nx v).length≤k):jU n nx F met seen (out++[v]) w:=by
 refine⟨h.nI,h.nd,h.rg,?_,fun t ht=>h.wy t (cQ _ ht),by rw[h.tell,adQ hk,dQ];rfl,fun x=>by rw[h.mem,dQ];rfl,by rw[dQ];exact h.od⟩
 have:=h.len
 rw[bV]
 have this:out.length+(w.length+1)=seen.length:=this
 show out.length+1+w.length=_
 omega
theorem jU.top{n:Nat}{nx:Int→List Int}{met:List Bool}{out:List Int}(hm:sK n met out)(hn:out.Nodup)(hr:∀x∈out,0≤x∧x<(n:Int)){a:Int}(ha:0≤a∧a<(n:Int))(h:a ∉ out):jU n nx (out++gQ nx (n+1) a out) (met.set a.toNat true) (out++[a]) out [(a,0)]:=by
 refine⟨hm.set ha,List.nodup_append.2 ⟨hn,by simp,fun x hx b x5 e=>?_⟩,fun x hx=>?_,by rw[List.length_append];rfl,fun t ht=>by rw[List.mem_singleton.1 ht];exact⟨ha,Nat.zero_le _⟩,by rw[adP h],fun _=>Iff.rfl,?_⟩
 ·rw[bh.1 x5]at e
  exact h (e▸hx)
 ·rcases bR.1 hx with hx | hx
  ·exact hr x hx
  ·rw[bh.1 hx];exact ha
 ·refine List.nodup_append.2 ⟨hn,by simp,fun x hx b x5 e=>?_⟩
  rw[bh.1 (show b∈[a] from x5)]at e
  exact h (e▸hx)
theorem jU.done{n:Nat}{nx:Int→List Int}{F:List Int}{met:List Bool}{seen out:List Int}(h:jU n nx F met seen out []):F=out∧sK n met F∧F.Nodup∧∀x∈F,0≤x∧x<(n:Int):=by
 have e:F=out:=by rw[h.tell];unfold lJ;exact mZ _
 have hm:∀x,x∈seen↔x∈out:=fun x=>by have:=h.mem x;rwa [show out++List.map Prod.fst []=out from mZ _]at this
 have ho:=h.od
 rw[show out++List.map Prod.fst []=out from mZ _]at ho
 subst e
 exact⟨rfl,⟨h.nI.1,fun u hu=>(h.nI.2 u hu).trans (by rw[decide_eq_decide];exact hm _)⟩,ho,fun x hx=>h.rg x ((hm x).2 hx)⟩
set_option maxHeartbeats 8000000
theorem XU{P:Program}{TT:TypeId→Option TI}{fn:Go.Func}{a c:Go.Code}{xs:List AV}{σ:Hp}{R:AV→Hp→Prop}{S:Type}(hb:fn.body=some (.seq a (.scope c)))(fZ:S→Nat)(L:S→List (Nat×AV))(H:S→Hp)(p:S→Prop)(μ:S→Nat)
  (hr:DO (mL P TT 998) c fZ L H p μ (vu TT fn.results.toList R))
  (h:DO (mL P TT 998) c fZ L H p μ (vu TT fn.results.toList R)→codeF P TT (mL P TT 999) (.seq a (.scope c)) (t0 xs) σ (vu TT fn.results.toList R)):tS P TT fn xs σ R:=by
 have h1:mL P TT 1000 (.seq a (.scope c)) (t0 xs) σ (vu TT fn.results.toList R):=h hr
 unfold tS
 rw[hb]
 exact h1
abbrev PS:=(Bool×Int×List Bool×List Int)×(List (Int×Nat)×Int×Nat)×(Nat×List AV)×(AV×Hp×List Int)
def VsP(n:Nat)(nx:Int→List Int)(F:List Int)(x:PS):Prop:=match x.1.1 with
 |true=>jU n nx F (x.1.2.2.1.set x.1.2.1.toNat true) (x.1.2.2.2++[x.1.2.1]) x.2.2.2.2.2 ((x.1.2.1,0)::(x.2.1.2.1,x.2.1.2.2)::x.2.1.1.reverse)∧x.1.2.2.1.length=n∧0≤x.1.2.1∧x.1.2.1<n
 |false=>jU n nx F x.1.2.2.1 x.1.2.2.2 x.2.2.2.2.2 ((x.2.1.2.1,x.2.1.2.2)::x.2.1.1.reverse)
def VsM(n:Nat)(nx:Int→List Int)(x:PS):Nat:=match x.1.1 with
 |true=>ek nx ((x.1.2.1,0)::(x.2.1.2.1,x.2.1.2.2)::x.2.1.1.reverse)+mi nx (x.1.2.2.2++[x.1.2.1]) n+1
 |false=>ek nx ((x.2.1.2.1,x.2.1.2.2)::x.2.1.1.reverse)+mi nx x.1.2.2.2 n
theorem aeT(n:Nat)(l:List bA)(a:Int)(met:List Bool)(out:List Int)(bm:Nat)(vo:AV)(vM σ:Hp)(_hl:l.length≤100000)(hn:n≤1000)(ha:0≤a∧a<n)(hm:sK n met out)(cf:out.Nodup)(Ow:∀x∈out,0≤x∧x<(n:Int))(hO:Acc 1 out.length vo vM (ao out)):
  ACalls Tryz.prog 311 [.ae (.slice (.int .i64)) (ca n l),.af bm 0 n 1,.int .i64 a,.via vo] ((bm,bJ met)::(vM++σ))
   (fun r σ'=>∃rQ kZ rU rL,kZ=out++gQ (ar n l) (n+1) a out∧sK n rQ kZ∧kZ.Nodup∧(∀x∈kZ,0≤x∧x<(n:Int))∧Acc 1 kZ.length rU rL (ao kZ)∧r=rU∧σ'=(bm,bJ rQ)::(rL++σ)):=by
 have dc:∀x,∀y∈ar n l x,0≤y∧y<(n:Int):=fun x y hy=>(mb.1 hy).1
 obtain⟨F,hF⟩:∃F,out++gQ (ar n l) (n+1) a out=F:=⟨_,rfl⟩
 refine au Tryz.func311 ?_
 refine XU (S:=PS) rfl (fun x=>match x.1.1 with | true=>0 | false=>1)
  (fun x=>[(0,.ae (.slice (.int .i64)) (ca n l)),(1,.af bm 0 n 1),(2,.int .i64 x.1.2.1),(3,.via x.2.2.2.1),(9,.af x.2.2.1.1 0 (x.2.1.1.length+1) 2)])
  (fun x=>(bm,bJ x.1.2.2.1)::(x.2.2.1.1,bF (x.2.1.1++[(x.2.1.2.1,x.2.1.2.2)])++x.2.2.1.2)::(x.2.2.2.2.1++σ))
  (fun x=>VsP n (ar n l) F x∧Acc 1 x.2.2.2.2.2.length x.2.2.2.1 x.2.2.2.2.1 (ao x.2.2.2.2.2))
  (fun x=>VsM n (ar n l) x) ?_ ?_
 ·rintro⟨⟨f,b,nB,iF⟩,⟨wy,v,k⟩,⟨bw,J⟩,⟨EM,F6,kY⟩⟩ g ⟨hP,x9⟩
  have x9:Acc 1 kY.length EM F6 (ao kY):=x9
  cases f with
  |true=>
   obtain⟨hV,NL,lu,oY⟩:=hP
   have hV:jU n (ar n l) F (nB.set b.toNat true) (iF++[b]) kY ((b,0)::(v,k)::wy.reverse):=hV
   have NL:nB.length=n:=NL
   have lu:0≤b:=lu
   have oY:b<n:=oY
   have v7:(bF (wy++[(v,k)])).length=(wy.length+1)*2:=by rw[mD,bV];rfl
   have ahR:=hV.small
   rw[gq,gq,tb]at ahR
   refine aK ?_
   refine da 0 rfl (yH rfl true lu (by omega)) ?_
   intro aD
   refine yy (k:=wy.length+1) (n:=1) [_,_] (.af bw (wy.length+1) (bF (wy++[(v,k)])) J v7) (.af 0 aD 0 1 _ rfl (cR rfl)) rfl (by omega) (by decide) (by decide) (fun v' bQ h'=>?_)
   obtain⟨o8,J2,rfl,rfl,_⟩:=h'.pos (by omega)
   have H9:(wy++[(v,k)]).reverse=(v,k)::wy.reverse:=by rw[List.reverse_append];rfl
   have qQ:bF (wy++[(v,k)])++[AV.int .i64 b,.int .i64 ((0:Nat):Int)]++J2=bF ((wy++[(v,k)])++[(b,0)])++J2:=by rw[pg (wy++[(v,k)]) [(b,0)]];rfl
   have tQ:(wy++[(v,k)]).length=wy.length+1:=by rw[bV];rfl
   rw[← H9]at hV
   have xG:=hV.wy (b,0) (bU ..)
   have dy:0≤b∧b<(n:Int):=xG.1
   have BT:0≤(ar n l b).length:=xG.2
   have mz:=yA n l b
   have qR:=hV.small
   rw[gq,tb,tQ]at qR
   have xY:((nB.set b.toNat true)).length=n:=hV.nI.1
   have nF:IntKind.i64.wrap ((((wy.length+1)+1:Nat):Int)-1)=(((wy.length+1):Nat):Int):=by rw[dx (by omega)];omega
   have hX:0+(IntKind.i64.wrap ((((wy.length+1)+1:Nat):Int)-1)).toNat*2=((wy++[(v,k)])).length*2:=by rw[nF,tQ];omega
   have mW:eg ⟨.int .i64,1,8,[.int .i64 0]⟩ (bF (wy++[(v,k)])++[AV.int .i64 b,.int .i64 ((0:Nat):Int)]++J2) (0+(IntKind.i64.wrap ((((wy.length+1)+1:Nat):Int)-1)).toNat*2+0)=some (.int .i64 b):=by rw[qQ];exact iV rfl (by rw[hX];exact sk rfl)
   have lS:eg ⟨.int .i64,1,8,[.int .i64 0]⟩ (bF (wy++[(v,k)])++[AV.int .i64 b,.int .i64 ((0:Nat):Int)]++J2) (0+(IntKind.i64.wrap ((((wy.length+1)+1:Nat):Int)-1)).toNat*2+1)=some (.int .i64 ((0:Nat):Int)):=by rw[qQ];exact iV rfl (by rw[hX];exact CO rfl)
   have ef:(bF ((wy++[(v,k)])++[(b,0)])++J2).length=((wy++[(v,k)])).length*2+2+(J2:List AV).length:=by rw[bV,mD,bV];show (_+1)*2+_=_;omega
   have lV:IntKind.i64.wrap (((0:Nat):Int)+1)=((0+1:Nat):Int):=by rw[dx (by omega)];omega
   have v8:kP ⟨.int .i64,1,8,[.int .i64 0]⟩ (bF (wy++[(v,k)])++[AV.int .i64 b,.int .i64 ((0:Nat):Int)]++J2) (0+(IntKind.i64.wrap ((((wy.length+1)+1:Nat):Int)-1)).toNat*2+1) (.int .i64 (IntKind.i64.wrap (((0:Nat):Int)+1)))=some (bF ((wy++[(v,k)])++[(b,0+1)])++J2):=by
    rw[qQ,rC rfl rfl (by rw[hX,ef];omega),hX,lV,C2 rfl]
   have vr:2=2∧0≤IntKind.i64.wrap ((((wy.length+1)+1:Nat):Int)-1)∧IntKind.i64.wrap ((((wy.length+1)+1:Nat):Int)-1)<(((wy.length+1)+1:Nat):Int):=⟨rfl,by omega,by omega⟩
   refine aG.mk vr ?_
   refine .quiet (by kernel_rfl) ?_
   refine aZ 2 rfl lS ?_
   refine aZ 2 rfl mW ?_
   refine aG.mk rfl ?_
   refine bM.mk (ar n l b) (by omega) (px dy) ?_
   refine ak (p:=((0:Nat):Int)<(ar n l b).length) (fun ab=>?_) (fun aq=>?_)
   ·have ab:0<(ar n l b).length:=by omega
    obtain⟨z,hz⟩:∃z,(ar n l b)[0]=z:=⟨_,rfl⟩
    have E0:z∈ar n l b:=hz▸bX ab
    have gV:=(mb.1 E0).1
    refine .quiet (by kernel_rfl) ?_
    refine aZ 2 rfl mW ?_
    refine aG.mk rfl ?_
    refine bM.mk (ar n l b) (by omega) (px dy) ?_
    refine aZ 2 rfl lS ?_
    refine aG.mk rfl ?_
    refine bM.mk z (by omega) ((get_some ab).trans (congrArg some hz)) ?_
    refine aZ 2 rfl lS ?_
    refine da 2 rfl v8 ?_
    refine aK ?_
    refine eU.kC 1 _ _ rfl (tA rfl gV.1 (by rw[xY];omega)) (fun c2=>?_) (fun c2=>?_)
    ·have jy:z∈(iF++[b]):=by rw[hV.nI.at_ gV]at c2;exact fv c2
     have hS:=hV.skip ab (by rw[hz];exact jy)
     have kK:ek (ar n l) ((b,0+1)::((wy++[(v,k)])).reverse)+1=ek (ar n l) ((b,0)::((wy++[(v,k)])).reverse):=by show ek (ar n l) ((wy++[(v,k)])).reverse+((ar n l b).length-(0+1))+1+1=ek (ar n l) ((wy++[(v,k)])).reverse+((ar n l b).length-0)+1;omega
     exact .mk ((false,z,(nB.set b.toNat true),(iF++[b])),((wy++[(v,k)]),b,0+1),(o8,J2),(EM,F6,kY)) rfl (by show ek (ar n l) ((b,0+1)::((wy++[(v,k)])).reverse)+mi (ar n l) ((iF++[b])) n<_;(show _<ek (ar n l) ((b,0)::(v,k)::wy.reverse)+mi (ar n l) (iF++[b]) n+1);rw[← H9];omega) ⟨hS,x9⟩ ⟨rfl,rfl,rfl,rfl,by rw[tQ];rfl,trivial⟩ (.drop 0 1 (.refl _))
    ·have jy:z ∉ (iF++[b]):=by rw[hV.nI.at_ gV]at c2;exact qd c2
     have hS:=hV.push dc ab (by rw[hz];exact jy)
     rw[hz]at hS
     have kK:ek (ar n l) ((z,0)::(b,0+1)::((wy++[(v,k)])).reverse)=ek (ar n l) ((b,0)::((wy++[(v,k)])).reverse)+(ar n l z).length:=by show ek (ar n l) ((wy++[(v,k)])).reverse+((ar n l b).length-(0+1))+1+((ar n l z).length-0)+1=ek (ar n l) ((wy++[(v,k)])).reverse+((ar n l b).length-0)+1+(ar n l z).length;omega
     have oW:=Gr (nx:=ar n l) (seen:=(iF++[b])) (b:=z.toNat) (by rw[lB gV.1];exact jy) n
     rw[ah (by omega),lB gV.1]at oW
     exact .mk ((true,z,(nB.set b.toNat true),(iF++[b])),((wy++[(v,k)]),b,0+1),(o8,J2),(EM,F6,kY)) rfl (by show ek (ar n l) ((z,0)::(b,0+1)::((wy++[(v,k)])).reverse)+mi (ar n l) (((iF++[b]))++[z]) n+1<_;(show _<ek (ar n l) ((b,0)::(v,k)::wy.reverse)+mi (ar n l) (iF++[b]) n+1);rw[← H9];omega) ⟨⟨hS,xY,gV.1,gV.2⟩,x9⟩ ⟨rfl,rfl,rfl,rfl,by rw[tQ];rfl,trivial⟩ (.drop 0 1 (.refl _))
   ·have aq:(ar n l b).length≤0:=by omega
    have hS:=hV.pop aq
    refine aZ 2 rfl mW ?_
    intro bs
    refine l8 (k:=(kY).length) (n:=1) [_,_,_,_] x9 (.af 0 bs 0 1 _ rfl (cR rfl)) rfl (by omega) (by decide) (by decide) (fun qJ nh uv=>?_)
    have x8:Acc 1 ((kY)++[b]).length qJ nh (ao ((kY)++[b])):=by
     rw[List.length_append,show ao ((kY)++[b])=ao (kY)++[.int .i64 b] by simp[ao]];exact uv
    have qy:(IntKind.i64.wrap ((((wy.length+1)+1:Nat):Int)-1)).toNat-Int.toNat 0=(wy.length+1):=by rw[nF];omega
    have cY:0≤(0:Int)∧(0:Int)≤IntKind.i64.wrap ((((wy.length+1)+1:Nat):Int)-1)∧IntKind.i64.wrap ((((wy.length+1)+1:Nat):Int)-1)≤(((wy.length+1)+1:Nat):Int)∧2=2:=⟨by omega,by omega,by omega,rfl⟩
    refine aG.mk cY ?_
    have jd:(IntKind.i64.wrap ((((wy.length+1)+1:Nat):Int)-1)).toNat-Int.toNat 0=(wy).length+1:=qy.trans (rfl)
    have kx:AV.af o8 (0+Int.toNat 0*2) ((IntKind.i64.wrap ((((wy.length+1)+1:Nat):Int)-1)).toNat-Int.toNat 0) 2=.af o8 0 ((wy).length+1) 2:=by rw[jd];rfl
    have oF:bF (wy++[(v,k)])++[AV.int .i64 b,.int .i64 ((0:Nat):Int)]++J2=bF (wy++[(v,k)])++([.int .i64 b,.int .i64 ((0:Nat):Int)]++J2):=by rw[qQ,pg,dQ];rfl
    rw[H9]at hS
    refine ak (p:=(0:Int)<(((IntKind.i64.wrap ((((wy.length+1)+1:Nat):Int)-1)).toNat-Int.toNat 0:Nat):Int)) (fun c3=>?_) (fun c3=>?_)
    rotate_left
    ·rw[jd]at c3;omega
    have kK:ek (ar n l) ((v,k)::(wy).reverse)+1≤ek (ar n l) ((b,0)::(v,k)::(wy).reverse):=by show _≤ek (ar n l) ((v,k)::(wy).reverse)+((ar n l b).length-0)+1;omega
    have hE:(bm,bJ (nB.set b.toNat true))::(o8,bF (wy++[(v,k)])++[AV.int .i64 b,.int .i64 ((0:Nat):Int)]++J2)::(nh++σ)=(bm,bJ (nB.set b.toNat true))::(o8,bF (wy++[(v,k)])++([.int .i64 b,.int .i64 ((0:Nat):Int)]++J2))::(nh++σ):=by rw[oF]
    exact .mk ((false,b,(nB.set b.toNat true),(iF++[b])),(wy,v,k),(o8,[AV.int .i64 b,.int .i64 ((0:Nat):Int)]++J2),(qJ,nh,(kY)++[b])) rfl (by show ek (ar n l) ((v,k)::(wy).reverse)+mi (ar n l) ((iF++[b])) n<_;(show _<ek (ar n l) ((b,0)::(v,k)::wy.reverse)+mi (ar n l) (iF++[b]) n+1);omega) ⟨hS,x8⟩ ⟨rfl,rfl,rfl,rfl,kx,trivial⟩ (.drop 0 2 (aN hE))
  |false=>
   have hV:jU n (ar n l) F nB iF kY ((v,k)::wy.reverse):=hP
   have tQ:wy.length=wy.length:=rfl
   have qQ:bF (wy++[(v,k)])++J=bF (wy++[(v,k)])++J:=rfl
   have xG:=hV.wy (v,k) (bU ..)
   have dy:0≤v∧v<(n:Int):=xG.1
   have BT:k≤(ar n l v).length:=xG.2
   have mz:=yA n l v
   have qR:=hV.small
   rw[gq,tb,tQ]at qR
   have xY:(nB).length=n:=hV.nI.1
   have nF:IntKind.i64.wrap (((wy.length+1:Nat):Int)-1)=((wy.length:Nat):Int):=by rw[dx (by omega)];omega
   have hX:0+(IntKind.i64.wrap (((wy.length+1:Nat):Int)-1)).toNat*2=(wy).length*2:=by rw[nF,tQ];omega
   have mW:eg ⟨.int .i64,1,8,[.int .i64 0]⟩ (bF (wy++[(v,k)])++J) (0+(IntKind.i64.wrap (((wy.length+1:Nat):Int)-1)).toNat*2+0)=some (.int .i64 v):=by rw[qQ];exact iV rfl (by rw[hX];exact sk rfl)
   have lS:eg ⟨.int .i64,1,8,[.int .i64 0]⟩ (bF (wy++[(v,k)])++J) (0+(IntKind.i64.wrap (((wy.length+1:Nat):Int)-1)).toNat*2+1)=some (.int .i64 ((k:Nat):Int)):=by rw[qQ];exact iV rfl (by rw[hX];exact CO rfl)
   have ef:(bF (wy++[(v,k)])++J).length=(wy).length*2+2+(J:List AV).length:=by rw[bV,mD,bV];show (_+1)*2+_=_;omega
   have lV:IntKind.i64.wrap (((k:Nat):Int)+1)=((k+1:Nat):Int):=by rw[dx (by omega)];omega
   have v8:kP ⟨.int .i64,1,8,[.int .i64 0]⟩ (bF (wy++[(v,k)])++J) (0+(IntKind.i64.wrap (((wy.length+1:Nat):Int)-1)).toNat*2+1) (.int .i64 (IntKind.i64.wrap (((k:Nat):Int)+1)))=some (bF (wy++[(v,k+1)])++J):=by
    rw[qQ,rC rfl rfl (by rw[hX,ef];omega),hX,lV,C2 rfl]
   have vr:2=2∧0≤IntKind.i64.wrap (((wy.length+1:Nat):Int)-1)∧IntKind.i64.wrap (((wy.length+1:Nat):Int)-1)<((wy.length+1:Nat):Int):=⟨rfl,by omega,by omega⟩
   refine aG.mk vr ?_
   refine .quiet (by kernel_rfl) ?_
   refine aZ 1 rfl lS ?_
   refine aZ 1 rfl mW ?_
   refine aG.mk rfl ?_
   refine bM.mk (ar n l v) (by omega) (px dy) ?_
   refine ak (p:=((k:Nat):Int)<(ar n l v).length) (fun ab=>?_) (fun aq=>?_)
   ·have ab:k<(ar n l v).length:=by omega
    obtain⟨z,hz⟩:∃z,(ar n l v)[k]=z:=⟨_,rfl⟩
    have E0:z∈ar n l v:=hz▸bX ab
    have gV:=(mb.1 E0).1
    refine .quiet (by kernel_rfl) ?_
    refine aZ 1 rfl mW ?_
    refine aG.mk rfl ?_
    refine bM.mk (ar n l v) (by omega) (px dy) ?_
    refine aZ 1 rfl lS ?_
    refine aG.mk rfl ?_
    refine bM.mk z (by omega) ((get_some ab).trans (congrArg some hz)) ?_
    refine aZ 1 rfl lS ?_
    refine da 1 rfl v8 ?_
    refine aK ?_
    refine eU.kC 0 _ _ rfl (tA rfl gV.1 (by rw[xY];omega)) (fun c2=>?_) (fun c2=>?_)
    ·have jy:z∈iF:=by rw[hV.nI.at_ gV]at c2;exact fv c2
     have hS:=hV.skip ab (by rw[hz];exact jy)
     have kK:ek (ar n l) ((v,k+1)::(wy).reverse)+1=ek (ar n l) ((v,k)::(wy).reverse):=by show ek (ar n l) (wy).reverse+((ar n l v).length-(k+1))+1+1=ek (ar n l) (wy).reverse+((ar n l v).length-k)+1;omega
     exact .mk ((false,z,nB,iF),(wy,v,k+1),(bw,J),(EM,F6,kY)) rfl (by show ek (ar n l) ((v,k+1)::(wy).reverse)+mi (ar n l) (iF) n<_;(show _<ek (ar n l) ((v,k)::wy.reverse)+mi (ar n l) iF n);omega) ⟨hS,x9⟩ ⟨rfl,rfl,rfl,rfl,rfl,trivial⟩ (.refl _)
    ·have jy:z ∉ iF:=by rw[hV.nI.at_ gV]at c2;exact qd c2
     have hS:=hV.push dc ab (by rw[hz];exact jy)
     rw[hz]at hS
     have kK:ek (ar n l) ((z,0)::(v,k+1)::(wy).reverse)=ek (ar n l) ((v,k)::(wy).reverse)+(ar n l z).length:=by show ek (ar n l) (wy).reverse+((ar n l v).length-(k+1))+1+((ar n l z).length-0)+1=ek (ar n l) (wy).reverse+((ar n l v).length-k)+1+(ar n l z).length;omega
     have oW:=Gr (nx:=ar n l) (seen:=iF) (b:=z.toNat) (by rw[lB gV.1];exact jy) n
     rw[ah (by omega),lB gV.1]at oW
     exact .mk ((true,z,nB,iF),(wy,v,k+1),(bw,J),(EM,F6,kY)) rfl (by show ek (ar n l) ((z,0)::(v,k+1)::(wy).reverse)+mi (ar n l) ((iF)++[z]) n+1<_;(show _<ek (ar n l) ((v,k)::wy.reverse)+mi (ar n l) iF n);omega) ⟨⟨hS,xY,gV.1,gV.2⟩,x9⟩ ⟨rfl,rfl,rfl,rfl,rfl,trivial⟩ (.refl _)
   ·have aq:(ar n l v).length≤k:=by omega
    have hS:=hV.pop aq
    refine aZ 1 rfl mW ?_
    intro bs
    refine l8 (k:=(kY).length) (n:=1) [_,_,_] x9 (.af 0 bs 0 1 _ rfl (cR rfl)) rfl (by omega) (by decide) (by decide) (fun qJ nh uv=>?_)
    have x8:Acc 1 ((kY)++[v]).length qJ nh (ao ((kY)++[v])):=by
     rw[List.length_append,show ao ((kY)++[v])=ao (kY)++[.int .i64 v] by simp[ao]];exact uv
    have qy:(IntKind.i64.wrap (((wy.length+1:Nat):Int)-1)).toNat-Int.toNat 0=wy.length:=by rw[nF];omega
    have cY:0≤(0:Int)∧(0:Int)≤IntKind.i64.wrap (((wy.length+1:Nat):Int)-1)∧IntKind.i64.wrap (((wy.length+1:Nat):Int)-1)≤((wy.length+1:Nat):Int)∧2=2:=⟨by omega,by omega,by omega,rfl⟩
    refine aG.mk cY ?_
    rcases FR wy with xT | ⟨w',⟨u,i⟩,xT⟩
    ·rw[show wy.reverse=[] by rw[xT];rfl]at hS
     refine ak (p:=(0:Int)<(((IntKind.i64.wrap (((wy.length+1:Nat):Int)-1)).toNat-Int.toNat 0:Nat):Int)) (fun c3=>?_) (fun c3=>?_)
     ·rw[qy]at c3;exact absurd c3 (by rw[xT];decide)
     ·obtain⟨e1,e2,e3,e4⟩:=jU.done hS
      rw[← e1]at x8
      exact .drop 0 1 (.drop 1 1 (.done ⟨nB,F,qJ,nh,hF.symm,e2,e3,e4,x8,rfl,rfl⟩))
    ·have xT:wy=w'++[(u,i)]:=by simpa using xT
     have WM:(wy).reverse=(u,i)::w'.reverse:=by rw[xT,List.reverse_append];rfl
     have jd:(IntKind.i64.wrap (((wy.length+1:Nat):Int)-1)).toNat-Int.toNat 0=(w').length+1:=qy.trans (by rw[xT,bV];rfl)
     have kx:AV.af bw (0+Int.toNat 0*2) ((IntKind.i64.wrap (((wy.length+1:Nat):Int)-1)).toNat-Int.toNat 0) 2=.af bw 0 ((w').length+1) 2:=by rw[jd];rfl
     have oF:bF (wy++[(v,k)])++J=bF (w'++[(u,i)])++([.int .i64 v,.int .i64 ((k:Nat):Int)]++J):=by rw[qQ,xT,pg,dQ];rfl
     rw[WM]at hS
     refine ak (p:=(0:Int)<(((IntKind.i64.wrap (((wy.length+1:Nat):Int)-1)).toNat-Int.toNat 0:Nat):Int)) (fun c3=>?_) (fun c3=>?_)
     rotate_left
     ·rw[jd]at c3;omega
     have kK:ek (ar n l) ((u,i)::(w').reverse)+1≤ek (ar n l) ((v,k)::(wy).reverse):=by rw[← WM];show _≤ek (ar n l) (wy).reverse+((ar n l v).length-k)+1;omega
     have hE:(bm,bJ nB)::(bw,bF (wy++[(v,k)])++J)::(nh++σ)=(bm,bJ nB)::(bw,bF (w'++[(u,i)])++([.int .i64 v,.int .i64 ((k:Nat):Int)]++J))::(nh++σ):=by rw[oF]
     exact .mk ((false,b,nB,iF),(w',u,i),(bw,[AV.int .i64 v,.int .i64 ((k:Nat):Int)]++J),(qJ,nh,(kY)++[v])) rfl (by show ek (ar n l) ((u,i)::(w').reverse)+mi (ar n l) (iF) n<_;(show _<ek (ar n l) ((v,k)::wy.reverse)+mi (ar n l) iF n);omega) ⟨hS,x8⟩ ⟨rfl,rfl,rfl,rfl,kx,trivial⟩ (.drop 0 1 (aN hE))
 ·intro hr
  have NL:=hm.1
  refine aK ?_
  refine eU.kC 0 _ _ rfl (tA rfl ha.1 (by omega)) (fun c1=>?_) (fun c1=>?_)
  ·have ee:a∈out:=by rw[hm.at_ ha]at c1;exact fv c1
   have r8:gQ (ar n l) (n+1) a out=[]:=by unfold gQ;rw[ah ee]
   rw[r8,mZ]at hF
   exact .done ⟨met,out,vo,vM,by rw[r8,mZ],hm,cf,Ow,hO,rfl,rfl⟩
  ·have ee:a ∉ out:=by rw[hm.at_ ha]at c1;exact qd c1
   have hV:=jU.top (nx:=ar n l) hm cf Ow ha ee
   rw[hF]at hV
   refine aK ?_
   refine da 0 rfl (yH rfl true ha.1 (by omega)) ?_
   intro aD
   refine yy (k:=0) (n:=1) [_,_] (acc:=[]) .nil (.af 0 aD 0 1 _ rfl (cR rfl)) rfl (by omega) (by decide) (by decide) (fun v' bQ h'=>?_)
   obtain⟨bw,J,rfl,rfl,_⟩:=h'.pos (by omega)
   have qQ:[]++[AV.int .i64 a,.int .i64 ((0:Nat):Int)]++J=bF (([]:List (Int×Nat))++[(a,0)])++J:=rfl
   have tQ:([]:List (Int×Nat)).length=0:=rfl
   have hV:jU n (ar n l) F (met.set a.toNat true) (out++[a]) out ((a,0)::([]:List (Int×Nat)).reverse):=hV
   have xG:=hV.wy (a,0) (bU ..)
   have dy:0≤a∧a<(n:Int):=xG.1
   have BT:0≤(ar n l a).length:=xG.2
   have mz:=yA n l a
   have qR:=hV.small
   rw[gq,tb,tQ]at qR
   have xY:((met.set a.toNat true)).length=n:=hV.nI.1
   have nF:IntKind.i64.wrap (((0+1:Nat):Int)-1)=((0:Nat):Int):=by rw[dx (by omega)];omega
   have hX:0+(IntKind.i64.wrap (((0+1:Nat):Int)-1)).toNat*2=(([]:List (Int×Nat))).length*2:=by rw[nF,tQ];omega
   have mW:eg ⟨.int .i64,1,8,[.int .i64 0]⟩ ([]++[AV.int .i64 a,.int .i64 ((0:Nat):Int)]++J) (0+(IntKind.i64.wrap (((0+1:Nat):Int)-1)).toNat*2+0)=some (.int .i64 a):=by rw[qQ];exact iV rfl (by rw[hX];exact sk rfl)
   have lS:eg ⟨.int .i64,1,8,[.int .i64 0]⟩ ([]++[AV.int .i64 a,.int .i64 ((0:Nat):Int)]++J) (0+(IntKind.i64.wrap (((0+1:Nat):Int)-1)).toNat*2+1)=some (.int .i64 ((0:Nat):Int)):=by rw[qQ];exact iV rfl (by rw[hX];exact CO rfl)
   have ef:(bF (([]:List (Int×Nat))++[(a,0)])++J).length=(([]:List (Int×Nat))).length*2+2+(J:List AV).length:=by rw[bV,mD,bV];show (_+1)*2+_=_;omega
   have lV:IntKind.i64.wrap (((0:Nat):Int)+1)=((0+1:Nat):Int):=by rw[dx (by omega)];omega
   have v8:kP ⟨.int .i64,1,8,[.int .i64 0]⟩ ([]++[AV.int .i64 a,.int .i64 ((0:Nat):Int)]++J) (0+(IntKind.i64.wrap (((0+1:Nat):Int)-1)).toNat*2+1) (.int .i64 (IntKind.i64.wrap (((0:Nat):Int)+1)))=some (bF (([]:List (Int×Nat))++[(a,0+1)])++J):=by
    rw[qQ,rC rfl rfl (by rw[hX,ef];omega),hX,lV,C2 rfl]
   have vr:2=2∧0≤IntKind.i64.wrap (((0+1:Nat):Int)-1)∧IntKind.i64.wrap (((0+1:Nat):Int)-1)<((0+1:Nat):Int):=⟨rfl,by omega,by omega⟩
   refine aG.mk vr ?_
   refine .quiet (by kernel_rfl) ?_
   refine aZ 2 rfl lS ?_
   refine aZ 2 rfl mW ?_
   refine aG.mk rfl ?_
   refine bM.mk (ar n l a) (by omega) (px dy) ?_
   refine ak (p:=((0:Nat):Int)<(ar n l a).length) (fun ab=>?_) (fun aq=>?_)
   ·have ab:0<(ar n l a).length:=by omega
    obtain⟨z,hz⟩:∃z,(ar n l a)[0]=z:=⟨_,rfl⟩
    have E0:z∈ar n l a:=hz▸bX ab
    have gV:=(mb.1 E0).1
    refine .quiet (by kernel_rfl) ?_
    refine aZ 2 rfl mW ?_
    refine aG.mk rfl ?_
    refine bM.mk (ar n l a) (by omega) (px dy) ?_
    refine aZ 2 rfl lS ?_
    refine aG.mk rfl ?_
    refine bM.mk z (by omega) ((get_some ab).trans (congrArg some hz)) ?_
    refine aZ 2 rfl lS ?_
    refine da 2 rfl v8 ?_
    refine aK ?_
    refine eU.kC 1 _ _ rfl (tA rfl gV.1 (by rw[xY];omega)) (fun c2=>?_) (fun c2=>?_)
    ·have jy:z∈(out++[a]):=by rw[hV.nI.at_ gV]at c2;exact fv c2
     have hS:=hV.skip ab (by rw[hz];exact jy)
     have kK:ek (ar n l) ((a,0+1)::(([]:List (Int×Nat))).reverse)+1=ek (ar n l) ((a,0)::(([]:List (Int×Nat))).reverse):=by show ek (ar n l) (([]:List (Int×Nat))).reverse+((ar n l a).length-(0+1))+1+1=ek (ar n l) (([]:List (Int×Nat))).reverse+((ar n l a).length-0)+1;omega
     exact wX hr ((false,z,(met.set a.toNat true),(out++[a])),(([]:List (Int×Nat)),a,0+1),(bw,J),(vo,vM,out)) ⟨rfl,⟨hS,hO⟩,⟨rfl,rfl,rfl,rfl,rfl,trivial⟩,(.drop 0 1 (.refl _))⟩
    ·have jy:z ∉ (out++[a]):=by rw[hV.nI.at_ gV]at c2;exact qd c2
     have hS:=hV.push dc ab (by rw[hz];exact jy)
     rw[hz]at hS
     have kK:ek (ar n l) ((z,0)::(a,0+1)::(([]:List (Int×Nat))).reverse)=ek (ar n l) ((a,0)::(([]:List (Int×Nat))).reverse)+(ar n l z).length:=by show ek (ar n l) (([]:List (Int×Nat))).reverse+((ar n l a).length-(0+1))+1+((ar n l z).length-0)+1=ek (ar n l) (([]:List (Int×Nat))).reverse+((ar n l a).length-0)+1+(ar n l z).length;omega
     have oW:=Gr (nx:=ar n l) (seen:=(out++[a])) (b:=z.toNat) (by rw[lB gV.1];exact jy) n
     rw[ah (by omega),lB gV.1]at oW
     exact wX hr ((true,z,(met.set a.toNat true),(out++[a])),(([]:List (Int×Nat)),a,0+1),(bw,J),(vo,vM,out)) ⟨rfl,⟨⟨hS,xY,gV.1,gV.2⟩,hO⟩,⟨rfl,rfl,rfl,rfl,rfl,trivial⟩,(.drop 0 1 (.refl _))⟩
   ·have aq:(ar n l a).length≤0:=by omega
    have hS:=hV.pop aq
    refine aZ 2 rfl mW ?_
    intro bs
    refine l8 (k:=(out).length) (n:=1) [_,_,_,_] hO (.af 0 bs 0 1 _ rfl (cR rfl)) rfl (by omega) (by decide) (by decide) (fun qJ nh uv=>?_)
    have x8:Acc 1 ((out)++[a]).length qJ nh (ao ((out)++[a])):=by
     rw[List.length_append,show ao ((out)++[a])=ao (out)++[.int .i64 a] by simp[ao]];exact uv
    have qy:(IntKind.i64.wrap (((0+1:Nat):Int)-1)).toNat-Int.toNat 0=0:=by rw[nF];omega
    have cY:0≤(0:Int)∧(0:Int)≤IntKind.i64.wrap (((0+1:Nat):Int)-1)∧IntKind.i64.wrap (((0+1:Nat):Int)-1)≤((0+1:Nat):Int)∧2=2:=⟨by omega,by omega,by omega,rfl⟩
    refine aG.mk cY ?_
    obtain⟨e1,e2,e3,e4⟩:=jU.done hS
    rw[← e1]at x8
    exact .drop 0 2 (.drop 1 1 (.done ⟨(met.set a.toNat true),F,qJ,nh,hF.symm,e2,e3,e4,x8,rfl,rfl⟩))
theorem aik{t t':Tm}{b off len es:Nat}{e:Sh}{l:List e.T}(k:Nat)(h:t k=.via (.af b off len es))(h':t'=eN t [(k,.ae e l)])(i:Nat):eI b off len es e l (t i) (t' i):=by
 subst h'
 show eI b off len es e l (t i) (match Nat.beq i k with | true=>.ae e l | false=>t i)
 cases hb:Nat.beq i k with
 |true=>rw[jF hb,h];exact .via .here
 |false=>exact .refl _
theorem ahG{t t':Tm}(e:Sh)(k:Nat)(h:t k=.via .ai)(h':t'=eN t [(k,.ae e [])])(i:Nat):eI 0 0 0 0 .bool [] (t i) (t' i):=by
 subst h'
 show eI 0 0 0 0 .bool [] (t i) (match Nat.beq i k with | true=>.ae e [] | false=>t i)
 cases hb:Nat.beq i k with
 |true=>rw[jF hb,h];exact .via (.nil e)
 |false=>exact .refl _
theorem mN.acc{body:Tm→Hp→(Ex→Tm→Hp→Prop)→Prop}{Q:Ex→Tm→Hp→Prop}{t:Tm}(j:Nat)(fr:Hp){acc σ:Hp}{s:Sh}{k:Nat}{v:AV}{cs:List AV}{l:List s.T}(h:Acc s.size k v acc cs)(ht:t j=.via v)(hl:k=l.length)(hc:cs=l.flatMap s.cells)(hp:0<s.size)
  (go:mN body Q (eN t [(j,.ae s l)]) (fr++σ)):mN body Q t (fr++(acc++σ)):=by
 cases h with
 |nil=>
  have ig:l=[]:=iR.1 hl.symm
  subst ig
  exact .nil (ahG s j ht rfl) go
 |af b k cs h=>
  refine .dN (.perm (AE fr [(b,cs)] σ) (.refl _)) ?_
  exact .cX 0 b 0 k s.size cs s l rfl (by rw[iP,fe (by omega)];exact hc) ⟨hl.symm,rfl,hp⟩ (aik j ht rfl) go
theorem acp{R:AV→Hp→Prop}(fr:Hp){acc σ:Hp}{s:Sh}{k:Nat}{v x:AV}{cs:List AV}{l:List s.T}(h:Acc s.size k v acc cs)(hl:k=l.length)(hc:cs=l.flatMap s.cells)(hp:0<s.size)(go:Fin R (.tup [.ae s l,x]) (fr++σ)):Fin R (.tup [v,x]) (fr++(acc++σ)):=by
 subst hl
 have hlen:=h.length
 refine .perm (AE fr acc σ) ?_
 generalize hk:l.length=k at h
 cases h with
 |nil=>
  obtain rfl:=iR.1 hk
  exact .nil (cg (.nil _) (.refl _)) go
 |af b k cs h=>
  subst hk
  exact .cX 0 b 0 l.length s.size cs s l rfl (by rw[iP,fe (by omega)];exact hc) ⟨rfl,rfl,hp⟩ (cg .here (.refl _)) go
theorem Zd{R:AV→Hp→Prop}{r:AV}(a:Hp){σ:Hp}(h:Fin R r σ):Fin R r (a++σ):=.drop 0 a.length (by rw[List.take_zero,dM,List.drop_left];exact h)
set_option maxHeartbeats 4000000
theorem Yz{P:Program}{f:FuncId}{a b:List AV}{v:AV}{σ:Hp}{R:AV→Hp→Prop}(hl:v.leaf=true)(h:ACalls P f (a++.via v::b) σ R):ACalls P f (a++v::b) σ R:=by
 refine⟨h.1,fun F w vs bN aE=>h.2 F w vs ⟨by rw[← bN.1];simp,fun i x hx=>?_⟩ aE⟩
 rcases Nat.lt_trichotomy i a.length with hi | hi | hi
 ·rw[kh hi]at hx
  exact bN.2 i x (by rw[kh hi];exact hx)
 ·subst hi
  rw[iQ (aR _),qY]at hx
  cases hx
  exact .via v _ hl (bN.2 a.length v (by rw[iQ (aR _),qY];rfl))
 ·obtain⟨j,rfl⟩:∃j,i=a.length+(j+1):=⟨i-a.length-1,by omega⟩
  rw[iQ (by omega),show a.length+(j+1)-a.length=j+1 by omega]at hx
  exact bN.2 _ x (by rw[iQ (by omega),show a.length+(j+1)-a.length=j+1 by omega];exact hx)
theorem Acc.leaf{e k:Nat}{v:AV}{acc:Hp}{cs:List AV}(h:Acc e k v acc cs):v.leaf=true:=by cases h <;> rfl
structure yn(n:Nat)(met:List Bool)(out:List Int):Prop where
 nI:sK n met out
 nd:out.Nodup
 rg:∀x∈out,0≤x∧x<(n:Int)
theorem Vz(n:Nat)(l:List bA)(a:Int)(met:List Bool)(out:List Int)(bm:Nat)(vo:AV)(vM σ:Hp)(hl:l.length≤100000)(hn:n≤1000)(ha:0≤a∧a<n)(h:yn n met out)(hO:Acc 1 out.length vo vM (ao out)):
  ACalls Tryz.prog 311 [.ae (.slice (.int .i64)) (ca n l),.af bm 0 n 1,.int .i64 a,vo] ((bm,bJ met)::(vM++σ))
   (fun r σ'=>∃rQ kZ rU rL,kZ=out++gQ (ar n l) (n+1) a out∧yn n rQ kZ∧Acc 1 kZ.length rU rL (ao kZ)∧r=.via rU∧σ'=(bm,bJ rQ)::(rL++σ)):=
 Zt (R:=fun r σ'=>∃rQ kZ rU rL,kZ=out++gQ (ar n l) (n+1) a out∧yn n rQ kZ∧Acc 1 kZ.length rU rL (ao kZ)∧r=rU∧σ'=(bm,bJ rQ)::(rL++σ)) (Yz (a:=[_,_,_]) (b:=[]) hO.leaf ((aeT n l a met out bm vo vM σ hl hn ha h.nI h.nd h.rg hO).mono fun _ _ ⟨rQ,kZ,rU,rL,h1,h2,h3,h4,h5,h6,h7⟩=>⟨rQ,kZ,rU,rL,h1,⟨h2,h3,h4⟩,h5,h6,h7⟩)) fun r σ' ⟨rQ,kZ,rU,rL,h1,h2,h3,h4,h5⟩=>⟨h4▸h3.leaf,rQ,kZ,rU,rL,h1,h2,h3,by rw[h4],h5⟩
theorem ahr(bn:Nat)(n:Nat)(x:Int)(σ:Hp):ACalls Tryz.prog 337 [.int .i64 x,.ptr bn 0] ((bn,[.int .i64 n])::σ) (aB (.bool (decide (x<0∨(n:Int)≤x))) ((bn,[.int .i64 n])::σ)):=by
 refine au Tryz.func337 ?_
 refine ak (fun c1=>?_) (fun c1=>?_)
 ·have c1:x<0:=c1
  exact .done ⟨congrArg AV.bool (aL (by omega)).symm,rfl⟩
 ·have c1:¬(x<0):=c1
  refine aa 0 ?_
  refine ak (fun c2=>?_) (fun c2=>?_)
  ·have c2:(↑n:Int)≤x:=c2
   exact .done ⟨congrArg AV.bool (aL (by omega)).symm,rfl⟩
  ·have c2:¬((↑n:Int)≤x):=c2
   exact .done ⟨congrArg AV.bool (bH (by omega)).symm,rfl⟩
theorem afl(bn n:Nat)(L:List Int)(σ:Hp)(hl:L.length≤1000000)(hL:∀x∈L,0≤x∧x<(n:Int)):ACalls Tryz.prog 345 [.ae (.int .i64) L,.fn (.func 337) [] [.ptr bn 0]] ((bn,[.int .i64 n])::σ) (aB (.int .i64 (-1)) ((bn,[.int .i64 n])::σ)):=by
 refine au Tryz.func345 ?_
 refine cc (S:=Nat) (fun k=>[(0,.ae (.int .i64) L),(1,.fn (.func 337) [] [.ptr bn 0]),(7,.int .i64 L.length),(8,.int .i64 k)]) (fun _=>(bn,[.int .i64 n])::σ) (fun k=>k≤L.length) (fun k=>L.length-k) 0 ⟨bE _,⟨rfl,rfl,rfl,rfl,trivial⟩,rfl⟩ ?_
 intro k g aP
 have hk:k≤L.length:=aP
 refine ak (p:=(k:Int)<L.length) (fun ab=>?_) (fun aq=>?_)
 ·have ab:k<L.length:=by omega
  have hx:=hL _ (bX ab)
  refine aG.mk rfl (bM.mk L[k] (by omega) (get_some ab) ?_)
  refine dm [] (ahr bn n L[k] σ) (fun c=>?_) (fun _=>?_)
  ·have c:=fv c;omega
  ·exact bg (k+1) (by show L.length-(k+1)<L.length-k;omega) ab ⟨rfl,rfl,rfl,a8 (by omega),trivial⟩ (.refl _)
 ·exact .done ⟨rfl,rfl⟩
theorem afm(bn n:Nat)(L:List Int)(σ:Hp)(hl:L.length≤1000000)(hL:∀x∈L,0≤x∧x<(n:Int)):ACalls Tryz.prog 336 [.ae (.int .i64) L,.fn (.func 337) [] [.ptr bn 0]] ((bn,[.int .i64 n])::σ) (aB (.bool false) ((bn,[.int .i64 n])::σ)):=by
 refine au Tryz.func336 ?_
 refine az [] (afl bn n L σ hl hL) ?_
 exact .done ⟨rfl,rfl⟩
theorem adh(n:Nat)(l:List bA)(fr:List Int)(σ:Hp)(hl:l.length≤100000)(hf:fr.length≤100000)(dU:ey n l=true)(nR:∀x∈fr,0≤x∧x<(n:Int)):ACalls Tryz.prog 310 [.int .i64 n,.ae dC l,.ae (.int .i64) fr] σ (aB (.int .i64 0) σ):=by
 refine au Tryz.func310 ?_
 intro aD
 refine aa 0 ?_
 refine dm [] (DN n l _ (by omega)) (fun _=>?_) (fun c=>absurd c (by rw[dU];decide))
 refine az [] (afm aD n fr σ (by omega) nR) ?_
 exact .drop 0 1 (.done ⟨rfl,rfl⟩)
def qv(n:Nat)(l:List bA)(fr:List Int):List Int:=sw n (ar n l) (fr++(List.range n).map fun a:Nat=>(a:Int))
theorem QO(n:Nat)(nx:Int→List Int)(L:List Int)(a:Int):sw n nx (L++[a])=sw n nx L++gQ nx (n+1) a (sw n nx L):=by unfold sw;rw[s9];rfl
theorem ahl(n:Nat)(l:List bA)(fr:List Int)(σ:Hp)(hl:l.length≤100000)(hf:fr.length≤100000)(dU:ey n l=true)(nR:∀x∈fr,0≤x∧x<(n:Int)):ACalls Tryz.prog 288 [.int .i64 n,.ae dC l,.ae (.int .i64) fr] σ (fun r σ'=>r=.tup [.ae (.int .i64) (qv n l fr),.int .i64 0]∧σ'=σ∧(∃met,yn n met (qv n l fr))):=by
 have hn:1≤n∧n≤256:=by
  unfold ey at dU
  simp only[bL,decide_eq_true_eq]at dU
  omega
 have fP:∀k,(cz ((List.range k).map fun a:Nat=>ar n l a)).length=k:=fun k=>by rw[uK,cj,l0]
 refine au Tryz.func288 ?_
 refine az [] (adh n l fr _ hl hf dU nR) ?_
 refine .wrap 9 .ai rfl rfl ?_
 refine cc (S:=Nat×AV×Hp) (fun x=>[(0,.int .i64 n),(1,.ae dC l),(2,.ae (.int .i64) fr),(9,.via x.2.1),(23,.int .i64 n),(24,.int .i64 x.1)]) (fun x=>x.2.2++σ) (fun x=>x.1≤n∧Acc 1 x.1 x.2.1 x.2.2 (cz ((List.range x.1).map fun a:Nat=>ar n l a))) (fun x=>n-x.1) (0,.ai,[]) ⟨⟨bE _,.nil⟩,⟨rfl,rfl,rfl,rfl,rfl,rfl,trivial⟩,rfl⟩ ?_
 rintro⟨k,v,acc⟩ g ⟨hk,cH⟩
 have hk:k≤n:=hk
 have cH:Acc 1 k v acc (cz ((List.range k).map fun a:Nat=>ar n l a)):=cH
 refine ak (p:=(k:Int)<n) (fun ab=>?_) (fun aq=>?_)
 ·have ab:k<n:=by omega
  refine az [] (Bq n l k _ hl) ?_
  intro bs
  refine l8 [_] cH (.af 0 bs 0 1 _ rfl (cR rfl)) rfl (by omega) (by decide) (by decide) (fun v' bQ h'=>?_)
  refine bg (k+1,v',bQ) (by show n-(k+1)<n-k;omega) ⟨ab,?_⟩ ⟨rfl,rfl,rfl,rfl,rfl,a8 (by omega),trivial⟩ (.drop 0 1 (.refl _))
  show Acc 1 (k+1) v' bQ (cz ((List.range (k+1)).map fun a:Nat=>ar n l a))
  rw[wJ,dr,show cz (List.map (fun a:Nat=>ar n l a) (List.range k)++List.map (fun a:Nat=>ar n l a) [k])=cz (List.map (fun a:Nat=>ar n l a) (List.range k))++[.ae (.int .i64) (ar n l k)] from dr]
  exact h'
 ·have aq:n=k:=by omega
  subst aq
  have hlx:∀(c:Nat) (L:List Int) (x:Int),(∀x∈L,0≤x∧x<(n:Int))→L[c]?=some x→0≤x∧x<(n:Int):=fun c L x h hx=>h x (cu hx)
  have hnT:((n:Nat):Int).toNat=n:=bO n
  refine aY ?_
  intro bm
  refine .wrap 12 .ai rfl rfl ?_
  refine mN.acc 9 [_] (s:=.slice (.int .i64)) cH rfl ((fP n).symm.trans (uK _)) (w6 _) (by decide) ?_
  refine cc (S:=Nat×(List Bool×List Int)×(AV×Hp)) (fun x=>[(0,.int .i64 n),(9,.ae (.slice (.int .i64)) (ca n l)),(11,.af bm 0 n 1),(12,.via x.2.2.1),(37,.ae (.int .i64) fr),(38,.int .i64 fr.length),(39,.int .i64 x.1)]) (fun x=>(bm,bJ x.2.1.1)::(x.2.2.2++σ)) (fun x=>x.1≤fr.length∧yn n x.2.1.1 x.2.1.2∧x.2.1.2=sw n (ar n l) (fr.take x.1)∧Acc 1 x.2.1.2.length x.2.2.1 x.2.2.2 (ao x.2.1.2)) (fun x=>fr.length-x.1) (0,(List.replicate n false,[]),(.ai,[])) ⟨⟨Nat.zero_le _,⟨⟨by simp,fun u hu=>by rw[List.getD_eq_getElem?_getD,List.getElem?_replicate,if_pos hu];rfl⟩,List.nodup_nil,fun x hx=>absurd hx (by simp)⟩,rfl,.nil⟩,⟨rfl,rfl,rfl,rfl,rfl,rfl,rfl,trivial⟩,by rw[show bJ (List.replicate n false)=cJ [.bool false] n from (Dn n).symm];rfl⟩ ?_
  rintro⟨j,⟨met,out⟩,⟨vo,ac⟩⟩ g ⟨hj,hP,ho,hO⟩
  have hj:j≤fr.length:=hj
  have hP:yn n met out:=hP
  have ho:out=sw n (ar n l) (fr.take j):=ho
  have hO:Acc 1 out.length vo ac (ao out):=hO
  refine ak (p:=(j:Int)<fr.length) (fun ab=>?_) (fun aq=>?_)
  ·have ab:j<fr.length:=by omega
   have hz:=nR _ (bX ab)
   refine aG.mk rfl (bM.mk fr[j] (by omega) (get_some ab) ?_)
   refine .mk [] _ (Vz n l fr[j] met out bm vo ac σ hl (by omega) hz hP hO) ?_
   rintro _ _ ⟨met2,El,qJ,nh,h1,h2,h3,rfl,rfl⟩
   refine bg (j+1,(met2,El),(qJ,nh)) (by show fr.length-(j+1)<fr.length-j;omega) ⟨ab,h2,?_,h3⟩ ⟨rfl,rfl,rfl,rfl,rfl,rfl,a8 (by omega),trivial⟩ (.refl _)
   show El=sw n (ar n l) (fr.take (j+1))
   rw[fw ab,QO,← ho];exact h1
  ·have aq:¬(j:Int)<fr.length:=aq
   rw[fe (by omega)]at ho
   refine cc (S:=Nat×(List Bool×List Int)×(AV×Hp)) (fun x=>[(9,.ae (.slice (.int .i64)) (ca n l)),(11,.af bm 0 n 1),(12,.via x.2.2.1),(49,.int .i64 n),(50,.int .i64 x.1)]) (fun x=>(bm,bJ x.2.1.1)::(x.2.2.2++σ)) (fun x=>x.1≤n∧yn n x.2.1.1 x.2.1.2∧x.2.1.2=sw n (ar n l) (fr++(List.range x.1).map fun a:Nat=>(a:Int))∧Acc 1 x.2.1.2.length x.2.2.1 x.2.2.2 (ao x.2.1.2)) (fun x=>n-x.1) (0,(met,out),(vo,ac)) ⟨⟨Nat.zero_le _,hP,by rw[ho];simp,hO⟩,⟨rfl,rfl,rfl,rfl,rfl,trivial⟩,rfl⟩ ?_
   clear hP ho hO hj aq
   rintro⟨j,⟨met,out⟩,⟨vo,ac⟩⟩ g ⟨hj,hP,ho,hO⟩
   have hj:j≤n:=hj
   have hP:yn n met out:=hP
   have ho:out=sw n (ar n l) (fr++(List.range j).map fun a:Nat=>(a:Int)):=ho
   have hO:Acc 1 out.length vo ac (ao out):=hO
   refine ak (p:=(j:Int)<n) (fun ab=>?_) (fun aq=>?_)
   ·have ab:j<n:=by omega
    refine .mk [] _ (Vz n l j met out bm vo ac σ hl (by omega) ⟨by omega,by omega⟩ hP hO) ?_
    rintro _ _ ⟨met2,El,qJ,nh,h1,h2,h3,rfl,rfl⟩
    refine bg (j+1,(met2,El),(qJ,nh)) (by show n-(j+1)<n-j;omega) ⟨ab,h2,?_,h3⟩ ⟨rfl,rfl,rfl,rfl,a8 (by omega),trivial⟩ (.refl _)
    show El=sw n (ar n l) (fr++(List.range (j+1)).map fun a:Nat=>(a:Int))
    rw[wJ,dr,← dQ,show List.map (fun a:Nat=>(a:Int)) [j]=[(j:Int)] from rfl,QO,← ho];exact h1
   ·have aq:n=j:=by omega
    subst aq
    have ho:out=qv n l fr:=ho
    rw[← ho]
    exact acp [_] (s:=.int .i64) hO rfl (xa _) (by decide) (.drop 0 1 (.done ⟨rfl,rfl,met,hP⟩))
inductive ym(n:Int)(l:List bA)(fr:List Int):Int→Prop where
 |root {a:Int} (h:a∈fr) (h1:0≤a∧a<n):ym n l fr a
 |step {a b:Int} (h:ym n l fr a) (hb:b∈ar n l a):ym n l fr b
theorem ym.node{n:Int}{l:List bA}{fr:List Int}{a:Int}(h:ym n l fr a):0≤a∧a<n:=by
 cases h with
 |root h h1=>exact h1
 |step h hb=>exact (mb.1 hb).1
theorem CW:∀(n:Nat) (l:List Int),l.Nodup→(∀z∈l,0≤z∧z<n)→l.length≤n
 | 0,[],_,_=>aR _
 | 0,z::l,_,h=>by have:=h z (bU ..);omega
 |n+1,l,hd,h=>by
  have h1:=CW n (l.filter fun z=>decide (z≠n)) (hd.filter _) fun z hz=>by
   obtain⟨q1,q2⟩:=lZ.1 hz
   have:=h z q1
   have q2:=fv q2
   omega
  have h2:l.length≤(l.filter fun z=>decide (z≠(n:Int))).length+1:=by
   clear h h1
   induction l with
   |nil=>simp
   |cons z l ih=>
    have kf:=lY.1 hd
    by_cases hz:z=n
    ·subst hz
     have e:(((n:Int)::l).filter fun z=>decide (z≠(n:Int)))=l:=by
      rw[List.filter_cons_of_neg (by simp)]
      exact gw2.2 fun y hy=>aL fun e=>kf.1 (e▸hy)
     rw[e];simp
    ·have:=ih kf.2
     rw[List.filter_cons_of_pos (by simp[hz])]
     simp only[gq];omega
  omega
theorem aaa{b:List Bool}{k:Nat}{a:Int}:a∈Nb b k↔(0≤a∧a<k)∧b.getD a.toNat false=true:=by
 unfold Nb
 rw[dL]
 constructor
 ·rintro⟨i,hi,rfl⟩
  obtain⟨h1,h2⟩:=lZ.1 hi
  exact⟨by have:=gb.1 h1;omega,h2⟩
 ·rintro⟨h1,h2⟩
  exact⟨a.toNat,lZ.2 ⟨gb.2 (by omega),h2⟩,by omega⟩
theorem GK(b:List Bool)(i j:Nat):(b.set i true).getD j false=true↔(i=j∧i<b.length)∨b.getD j false=true:=by
 rw[aW,e9,aW]
 by_cases h:i=j
 ·subst h
  rw[ah rfl]
  by_cases h2:i<b.length
  ·rw[if_pos h2];simp[h2]
  ·rw[if_neg h2];simp[h2]
 ·rw[if_neg h];simp[h]
theorem aac{n:Int}{b:List Bool}{a:Int}(hb:(b.length:Int)=n)(j:Nat):(xz n b a).getD j false=true↔(0≤a∧a<n∧(j:Int)=a)∨b.getD j false=true:=by
 unfold xz
 by_cases h:0≤a∧a<n
 ·rw[ah h,GK]
  constructor
  ·rintro (⟨e,_⟩ | e)
   ·exact .inl ⟨h.1,h.2,by omega⟩
   ·exact .inr e
  ·rintro (⟨_,_,e⟩ | e)
   ·exact .inl ⟨by omega,by omega⟩
   ·exact .inr e
 ·rw[ag h]
  exact⟨.inr,fun h2=>by rcases h2 with h2 | h2;exact absurd ⟨h2.1,h2.2.1⟩ h;exact h2⟩
theorem Lf{n:Int}:∀(fr:List Int) {b:List Bool},(b.length:Int)=n→∀j:Nat,(fr.foldl (xz n) b).getD j false=true↔((j:Int)∈fr∧(j:Int)<n)∨b.getD j false=true
 | [],b,_,j=>by simp
 |a::fr,b,hb,j=>by
  rw[FG,Lf fr (by rw[P5];exact hb) j,aac hb j,dA]
  constructor
  ·rintro (⟨h1,h2⟩ | ⟨h1,h2,h3⟩ | h)
   ·exact .inl ⟨.inr h1,h2⟩
   ·exact .inl ⟨.inl h3,by omega⟩
   ·exact .inr h
  ·rintro (⟨h1 | h1,h2⟩ | h)
   ·exact .inr (.inl ⟨by omega,by omega,h1⟩)
   ·exact .inl ⟨h1,h2⟩
   ·exact .inr (.inr h)
theorem Kz(n:Int):∀(fr:List Int) (b:List Bool),(fr.foldl (xz n) b).length=b.length
 | [],_=>rfl
 |a::fr,b=>by rw[FG,Kz n fr,P5]
def okB(n:Int)(l:List bA)(fr:List Int)(b:List Bool):Prop:=(b.length:Int)=n∧∀j:Nat,b.getD j false=true→ym n l fr j
theorem afZ{n:Int}{l:List bA}{fr:List Int}{b:List Bool}{e:bA}(he:e∈l)(h:okB n l fr b):okB n l fr (se n b e):=by
 unfold se
 by_cases c:(0≤e.1∧e.1<n)∧(0≤e.2.1∧e.2.1<n)∧b.getD e.1.toNat false=true
 ·rw[ah c]
  refine⟨by rw[cM];exact h.1,fun j hj=>?_⟩
  rcases (GK _ _ _).1 hj with ⟨e1,_⟩ | hj
  ·have:=h.2 _ c.2.2
   refine .step this (mb.2 ⟨by omega,by omega,e,he,by omega,by omega⟩)
  ·exact h.2 j hj
 ·rw[ag c];exact h
theorem SA{n:Int}{l:List bA}{fr:List Int}:∀(L:List bA) {b:List Bool},(∀e∈L,e∈l)→okB n l fr b→okB n l fr (L.foldl (se n) b)
 | [],_,_,h=>h
 |e::L,_,hL,h=>SA L (fun x hx=>hL x (cQ _ hx)) (afZ (hL e (bU ..)) h)
theorem Vl{n:Int}{b:List Bool}{e:bA}{j:Nat}(h:b.getD j false=true):(se n b e).getD j false=true:=by
 unfold se
 split
 ·exact (GK _ _ _).2 (.inr h)
 ·exact h
theorem C4{n:Int}:∀(L:List bA) {b:List Bool} {j:Nat},b.getD j false=true→(L.foldl (se n) b).getD j false=true
 | [],_,_,h=>h
 |_::L,_,_,h=>C4 L (Vl h)
theorem SB{n:Int}:∀(L:List bA) {b:List Bool} {e:bA},(b.length:Int)=n→e∈L→(0≤e.1∧e.1<n)→(0≤e.2.1∧e.2.1<n)→b.getD e.1.toNat false=true→(L.foldl (se n) b).getD e.2.1.toNat false=true
 |x::L,b,e,hb,he,h1,h2,h3=>by
  rcases dA.1 he with rfl | he
  ·refine C4 L ?_
   unfold se
   rw[ah ⟨h1,h2,h3⟩]
   exact (GK _ _ _).2 (.inl ⟨rfl,by omega⟩)
  ·exact SB L (by rw[QX];exact hb) he h1 h2 (Vl h3)
def vI(b:List Bool):Nat:=b.countP id
theorem LU:∀{b c:List Bool},b.length=c.length→(∀j:Nat,b.getD j false=true→c.getD j false=true)→vI b≤vI c∧(vI b=vI c→b=c)
 | [],[],_,_=>⟨aR _,fun _=>rfl⟩
 |x::b,y::c,hl,h=>by
  obtain⟨h1,h2⟩:=LU (b:=b) (c:=c) (by simpa using hl) fun j hj=>h (j+1) hj
  have h0:=h 0
  unfold vI at h1 h2 ⊢
  simp only[JU]
  cases x <;> cases y <;> simp at h0 ⊢
  ·exact⟨h1,h2⟩
  ·omega
  ·exact⟨h1,h2⟩
theorem Ky(n:Int):∀(L:List bA) (b:List Bool),(L.foldl (se n) b).length=b.length
 | [],_=>rfl
 |e::L,b=>by rw[FG,Ky n L,QX]
theorem QL{n:Int}{l:List bA}{b:List Bool}(h:pv n l b=b):∀k,uP n l k b=b
 | 0=>rfl
 |k+1=>by rw[rounds_succ,h];exact QL h k
theorem Qg{n:Int}{l:List bA}:∀(k:Nat) {b:List Bool},(b.length:Int)=n→b.length≤vI b+k→pv n l (uP n l k b)=uP n l k b
 | 0,b,hb,hc=>by
  have hl:(pv n l b).length=b.length:=Ky n l b
  have hu:=LU (b:=b) (c:=pv n l b) hl.symm fun j hj=>C4 l hj
  have h2:vI (pv n l b)≤(pv n l b).length:=List.countP_le_length
  show pv n l b=b
  exact (hu.2 (by omega)).symm
 |k+1,b,hb,hc=>by
  have hl:(pv n l b).length=b.length:=Ky n l b
  have hu:=LU (b:=b) (c:=pv n l b) hl.symm fun j hj=>C4 l hj
  by_cases h:pv n l b=b
  ·rw[QL h];exact h
  ·rw[rounds_succ]
   refine Qg k (by rw[hl];exact hb) ?_
   have:vI b≠vI (pv n l b):=fun e=>h (hu.2 e).symm
   omega
theorem QK{n:Int}{l:List bA}{fr:List Int}:∀(k:Nat) {b:List Bool},okB n l fr b→okB n l fr (uP n l k b)
 | 0,_,h=>h
 |k+1,_,h=>by rw[rounds_succ];exact QK k (SA l (fun _ h=>h) h)
theorem Rq{n:Int}{l:List bA}:∀(k:Nat) {b:List Bool} {j:Nat},b.getD j false=true→(uP n l k b).getD j false=true
 | 0,_,_,h=>h
 |k+1,_,_,h=>by rw[rounds_succ];exact Rq k (C4 l h)
theorem Y1{n:Nat}{l:List bA}{fr:List Int}(a:Int):a∈MG n l fr↔ym n l fr a:=by
 have ig:(((List.replicate n false).length:Nat):Int)=n:=by rw[gG]
 have an:okB n l fr (fr.foldl (xz n) (List.replicate n false)):=by
  refine⟨by rw[Kz];exact ig,fun j hj=>?_⟩
  rcases (Lf fr ig j).1 hj with ⟨h1,h2⟩ | h
  ·exact .root h1 ⟨by omega,h2⟩
  ·rw[aW,wM]at h
   split at h <;> cases h
 have cd:okB n l fr (DL n l fr):=QK _ an
 have Ez:pv n l (DL n l fr)=DL n l fr:=by
  refine Qg _ an.1 ?_
  rw[Kz,gG,bO];omega
 unfold MG
 rw[bO,aaa]
 constructor
 ·rintro⟨h1,h2⟩
  have:=cd.2 _ h2
  rwa [lB h1.1]at this
 ·intro h
  refine⟨h.node,?_⟩
  induction h with
  | @root x hf hn=>
   refine Rq _ ((Lf fr ig _).2 (.inl ⟨?_,?_⟩))
   ·rw[lB hn.1];exact hf
   ·omega
  | @step x y hx hy ih=>
   obtain⟨uh,r7,e,he,e1,e2⟩:=mb.1 hy
   rw[← Ez]
   have:=SB l (b:=DL n l fr) cd.1 he (by omega) (by omega) (by rw[e1];exact ih)
   rw[e2]at this
   exact this
theorem wY{a:Int}:∀{P:List (List Int)},P.flatten.Nodup→∀{i j:Nat} {p q:List Int},P[i]?=some p→P[j]?=some q→a∈p→a∈q→i=j
 | [],_,i,_,_,_,h,_,_,_=>by simp at h
 |r::P,hd,i,j,p,q,hi,hj,hp,hq=>by
  rw[Cg]at hd
  obtain⟨_,h2,h3⟩:=o7.1 hd
  cases i with
  |zero=>
   cases j with
   |zero=>rfl
   |succ j=>
    obtain rfl:r=p:=by simpa using hi
    have hj:P[j]?=some q:=by simpa using hj
    exact absurd rfl (h3 a hp a (nf.2 ⟨q,cu hj,hq⟩))
  |succ i=>
   have hi:P[i]?=some p:=by simpa using hi
   cases j with
   |zero=>
    obtain rfl:r=q:=by simpa using hj
    exact absurd rfl (h3 a hq a (nf.2 ⟨p,cu hi,hp⟩))
   |succ j=>
    have hj:P[j]?=some q:=by simpa using hj
    exact congrArg (· + 1) (wY h2 hi hj hp hq)
theorem rh.le{n:Nat}{nx:Int→List Int}{P:List (List Int)}(h:rh n nx P){x y:Int}(hr:Rx nx x y){i:Nat}{p:List Int}(hi:P[i]?=some p)(hx:x∈p):∃(j:Nat) (q:List Int),j≤i∧P[j]?=some q∧y∈q:=by
 induction hr with
 |refl=>exact⟨i,p,aR _,hi,hx⟩
 |step _ hc ih=>
  obtain⟨j,q,h1,h2,h3⟩:=ih
  obtain⟨k,r,k1,k2,k3⟩:=h.Ks j q h2 _ h3 _ hc
  exact⟨k,r,eu k1 h1,k2,k3⟩
theorem afC{n:Int}{l:List bA}{a b:Int}:ym n l [a] b↔(0≤a∧a<n)∧Rx (ar n l) a b:=by
 constructor
 ·intro h
  induction h with
  |root hm h1=>rw[bh.1 hm]at h1 ⊢;exact⟨h1,.refl _⟩
  |step _ hb ih=>exact⟨ih.1,.step ih.2 hb⟩
 ·rintro⟨ha,h⟩
  induction h with
  |refl=>exact .root (bh.2 rfl) ha
  |step _ hc ih=>exact .step ih hc
theorem Hb{n:Nat}{l:List bA}{a b:Int}:BI n l a b=true↔(0≤a∧a<n)∧Rx (ar n l) a b:=by
 unfold BI
 rw[Dv,Y1,afC]
theorem Z5(n:Nat)(l:List bA)(a:Int):(rI n l a).Pairwise (· < ·):=by
 unfold rI MH
 rw[zV]
 refine List.Pairwise.filter _ ?_
 exact List.pairwise_lt_range.imp fun h=>by omega
theorem Mh{n:Nat}{l:List bA}{P:List (List Int)}(h:rh n (ar n l) P){p:List Int}{a:Int}(hp:p∈P)(ha:a∈p):rI n l a=p:=by
 obtain⟨i,hi⟩:=FQ hp
 have s6:=h.node p hp a ha
 refine Mp (Z5 ..) (h.BJ p hp) fun z=>?_
 rw[aa9]
 constructor
 ·rintro⟨k,hk,hb,rfl⟩
  rw[bL,Hb,Hb]at hb
  obtain⟨j,q,j1,j2,j3⟩:=h.le hb.1.2 hi ha
  obtain⟨k2,r,k3,k4,k5⟩:=h.le hb.2.2 j2 j3
  have:=wY h.nd hi k4 ha k5
  have:i=j:=by omega
  subst this
  rw[hi]at j2
  rw[Option.some.inj j2];exact j3
 ·intro hz
  have gV:=h.node p hp z hz
  refine⟨z.toNat,by omega,?_,by omega⟩
  rw[lB gV.1,bL,Hb,Hb]
  exact⟨⟨s6,h.PA p hp a ha z hz⟩,gV,h.PA p hp z hz a ha⟩
def lh(i:Int)(p:List Int)(w:List Int):List Int:=p.foldl (fun w a=>w.set a.toNat i) w
def mP(P:List (List Int)):Nat→List Int→List Int
 | 0,w=>w
 |k+1,w=>lh k (P.getD k []) (mP P k w)
def bu(n:Nat)(P:List (List Int)):List Int:=mP P P.length (List.replicate n 0)
theorem Gi(i:Int):∀(p w:List Int),(lh i p w).length=w.length
 | [],_=>rfl
 |a::p,w=>by
  show (lh i p (w.set a.toNat i)).length=_
  rw[Gi i p,cM]
theorem CE(P:List (List Int)):∀(k:Nat) (w:List Int),(mP P k w).length=w.length
 | 0,_=>rfl
 |k+1,w=>by
  show (lh k (P.getD k []) (mP P k w)).length=_
  rw[Gi,CE P k]
theorem Qz(n:Nat)(P:List (List Int)):(bu n P).length=n:=by unfold bu;rw[CE,gG]
theorem TM(i:Int){a:Int}(ha:0≤a):∀(p w:List Int),(∀z∈p,0≤z)→a.toNat<w.length→(lh i p w).getD a.toNat 0=if a∈p then i else w.getD a.toNat 0
 | [],w,_,_=>by simp[lh]
 |z::p,w,hp,hw=>by
  show (lh i p (w.set z.toNat i)).getD a.toNat 0=_
  have hz:=hp z (bU ..)
  rw[TM i ha p _ (fun y hy=>hp y (cQ _ hy)) (by rw[cM];exact hw),mE]
  by_cases h1:a∈p
  ·rw[ah h1,ah (cQ _ h1)]
  ·rw[ag h1]
   by_cases h2:a=z
   ·rw[ah ⟨by omega,hw⟩,ah (by rw[h2];exact bU ..)]
   ·rw[ag (by omega),ag (by rw[dA];exact fun h=>h.elim h2 h1)]
theorem uW{P:List (List Int)}{i:Nat}{p:List Int}(h:P[i]?=some p):P.getD i []=p:=by rw[aW,h];rfl
theorem TL{n:Nat}{nx:Int→List Int}{P:List (List Int)}(h:rh n nx P){i:Nat}{p:List Int}(hi:P[i]?=some p){a:Int}(ha:a∈p):∀k,k≤P.length→i<k→(mP P k (List.replicate n 0)).getD a.toNat 0=i
 | 0,_,hk=>absurd hk (nV _)
 |k+1,sX,hk=>by
  have s6:=h.node p (cu hi) a ha
  obtain⟨q,hq⟩:∃q,P[k]?=some q:=⟨P[k],bj (by omega)⟩
  show (lh k (P.getD k []) _).getD a.toNat 0=_
  rw[uW hq,TM k s6.1 _ _ (fun z hz=>(h.node q (cu hq) z hz).1) (by rw[CE,gG];omega)]
  by_cases hm:a∈q
  ·rw[ah hm,wY h.nd hi hq ha hm]
  ·rw[ag hm]
   have:i≠k:=fun e=>by subst e;rw[hi]at hq;exact hm (Option.some.inj hq▸ha)
   exact TL h hi ha k (by omega) (by omega)
theorem adr{n:Nat}{nx:Int→List Int}{P:List (List Int)}(h:rh n nx P){i:Nat}{p:List Int}(hi:P[i]?=some p){a:Int}(ha:a∈p):(bu n P).getD a.toNat 0=i:=
 TL h hi ha P.length (aR _) (ck.1 hi).1
def nu(l:List bA)(W:List Int)(T:List Bool)(i:Int):Bool:= !T.getD i.toNat false&&!l.any fun x=>decide (W.getD x.2.1.toNat 0=i)&&decide (W.getD x.1.toNat 0≠i)&&!T.getD (W.getD x.1.toNat 0).toNat false
def iu(P:List (List Int))(i:Nat):Int:=(P.getD i []).headD 0
def fo(P:List (List Int))(l:List bA)(W:List Int)(T:List Bool):Nat→Int
 | 0=> -1
 |k+1=>if nu l W T k=true∧(fo P l W T k<0∨iu P k<iu P (fo P l W T k).toNat) then k else fo P l W T k
theorem Gs(P:List (List Int))(l:List bA)(W:List Int)(T:List Bool):∀k:Nat,(fo P l W T k = -1∧∀i:Nat,i<k→nu l W T i=false)∨∃b:Nat,fo P l W T k=b∧b<k∧nu l W T b=true∧∀i:Nat,i<k→nu l W T i=true→iu P b≤iu P i
 | 0=>.inl ⟨rfl,fun _ h=>absurd h (nV _)⟩
 |k+1=>by
  have ih:=Gs P l W T k
  by_cases c:nu l W T k=true∧(fo P l W T k<0∨iu P k<iu P (fo P l W T k).toNat)
  ·have e:fo P l W T (k+1)=k:=ah c
   rw[e]
   refine .inr ⟨k,rfl,by omega,c.1,fun i hi hf=>?_⟩
   by_cases Fg:i=k
   ·subst Fg;exact jD _
   ·rcases ih with ⟨h1,h2⟩ | ⟨b,h1,h2,h3,h4⟩
    ·rw[h2 i (by omega)]at hf;cases hf
    ·have:=h4 i (by omega) hf
     rw[h1,bO]at c
     rcases c.2 with c | c
     ·omega
     ·omega
  ·have e:fo P l W T (k+1)=fo P l W T k:=ag c
   rw[e]
   rcases ih with ⟨h1,h2⟩ | ⟨b,h1,h2,h3,h4⟩
   ·refine .inl ⟨h1,fun i hi=>?_⟩
    by_cases Fg:i=k
    ·subst Fg
     exact Ce.2 fun hf=>c ⟨hf,.inl (by omega)⟩
    ·exact h2 i (by omega)
   ·refine .inr ⟨b,h1,by omega,h3,fun i hi hf=>?_⟩
    by_cases Fg:i=k
    ·subst Fg
     rw[h1,bO]at c
     exact B7.1 fun ab=>c ⟨hf,.inr ab⟩
    ·exact h4 i (by omega) hf
def dG(P:List (List Int))(l:List bA)(W:List Int):Nat→List Bool×List (List Int)
 | 0=>(List.replicate P.length false,[])
 |k+1=>((dG P l W k).1.set (fo P l W (dG P l W k).1 P.length).toNat true,(dG P l W k).2++[P.getD (fo P l W (dG P l W k).1 P.length).toNat []])
def Ih(n:Nat)(l:List bA)(told:List Int)(a:Nat):Bool:=decide ((rI n l a).headD 0=(a:Int))&&!sR told a&&No l (rI n l a) told
def Ek(n:Nat)(l:List bA):Nat→List (List Int)×List Int→List (List Int)×List Int
 | 0,s=>s
 |f+1,s=>if s.2.length<n then (match (List.range n).find? (Ih n l s.2) with | none=>s | some a=>Ek n l f (s.1++[rI n l a],s.2++rI n l a)) else s
def kb(n:Nat)(l:List bA):List (List Int):=(Ek n l (n+1) ([],[])).1
theorem Zc{p:Nat→Bool}{n a:Nat}(ha:a<n)(hp:p a=true)(h:∀b,b<a→p b=false):(List.range n).find? p=some a:=by
 rw[List.find?_range_eq_some]
 exact⟨hp,gb.2 ha,fun b hb=>by rw[h b hb];rfl⟩
structure oO(n:Nat)(l:List bA)(P:List (List Int)):Prop where
 ok:rh n (ar n l) P
 all:∀x:Int,0≤x→x<n→∃p∈P,x∈p
theorem oO.idx{n:Nat}{l:List bA}{P:List (List Int)}(h:oO n l P){x:Int}(hx:0≤x∧x<n):∃(i:Nat) (p:List Int),P[i]?=some p∧x∈p∧(bu n P).getD x.toNat 0=i:=by
 obtain⟨p,hp,rZ⟩:=h.all x hx.1 hx.2
 obtain⟨i,hi⟩:=FQ hp
 exact⟨i,p,hi,rZ,adr h.ok hi rZ⟩
theorem yD{P:List (List Int)}{i:Nat}{p:List Int}(h:P[i]?=some p):i<P.length:=(ck.1 h).1
structure OI(P:List (List Int))(k:Nat)(T:List Bool)(out:List (List Int)):Prop where
 tl:T.length=P.length
 ol:out.length=k
 aF:T.countP id=k
 mem:∀q,q∈out↔∃i:Nat,T.getD i false=true∧P[i]?=some q
 nd:out.flatten.Nodup
theorem RP{n:Nat}{l:List bA}{P:List (List Int)}(h:oO n l P)(hr:∀e∈l,(0≤e.1∧e.1<(n:Int))∧0≤e.2.1∧e.2.1<(n:Int)){k:Nat}{T:List Bool}{out:List (List Int)}(hO:OI P k T out){i:Nat}{p:List Int}(hi:P[i]?=some p):nu l (bu n P) T i=true↔T.getD i false=false∧No l p out.flatten=true:=by
 unfold nu No
 rw[bO,bL,jl,jl,Cf,fI]
 refine and_congr_right fun _=>?_
 refine forall_congr' fun e=>?_
 refine forall_congr' fun he=>?_
 obtain⟨q1,q2⟩:=hr e he
 obtain⟨a,pa,ha,Fa,wa⟩:=h.idx q1
 obtain⟨b,pb,hb,qU,wb⟩:=h.idx q2
 rw[wa,wb,bO]
 have ee:∀{j:Nat} {r:List Int} {x:Int},P[j]?=some r→x∈r→(sR p x=true↔j=i):=fun {j r x} hj hx=>by
  rw[Dv]
  exact⟨fun hm=>wY h.ok.nd hj hi hx hm,fun e=>by subst e;rw[hi]at hj;rw[Option.some.inj hj];exact hx⟩
 have agS:sR out.flatten e.1=true↔T.getD a false=true:=by
  rw[Dv,nf]
  constructor
  ·rintro⟨q,hq,hm⟩
   obtain⟨j,hj,qW⟩:=(hO.mem q).1 hq
   rw[wY h.ok.nd ha qW Fa hm];exact hj
  ·intro ht
   exact⟨pa,(hO.mem pa).2 ⟨a,ht,ha⟩,Fa⟩
 have h1:=ee ha Fa
 have h2:=ee hb qU
 rw[bL,bL,decide_eq_true_eq,decide_eq_true_eq,jl,jl,Bool.and_eq_false_iff,Bool.and_eq_false_iff,JZ,JZ]
 have h3:sR p e.2.1=false↔b≠i:=by rw[← Bool.not_eq_true,h2]
 rw[agS,h1,h3,← Bool.not_eq_true]
 constructor
 ·intro hn
  by_cases c1:b=i
  ·by_cases c2:a=i
   ·exact .inl (.inr c2)
   ·exact .inr (by
     by_cases c3:T.getD a false=true
     ·exact c3
     ·exact absurd ⟨⟨by omega,by omega⟩,c3⟩ hn)
  ·exact .inl (.inl c1)
 ·rintro ((c | c) | c) ⟨⟨d1,d2⟩,d3⟩
  ·exact c (by omega)
  ·exact d2 (by omega)
  ·exact d3 c
theorem count_set{T:List Bool}{i:Nat}(hi:i<T.length)(h:T.getD i false=false):(T.set i true).countP id=T.countP id+1:=by
 induction T generalizing i with
 |nil=>simp at hi
 |cons t T ih=>
  cases i with
  |zero=>
   have:t=false:=h
   subst this
   simp
  |succ i=>
   have:=ih (i:=i) (by simpa using hi) h
   rw[List.set_cons_succ,JU,JU,this];omega
theorem Zk:∀{T:List Bool},T.countP id<T.length→∃i,i<T.length∧T.getD i false=false∧∀j,i<j→j<T.length→T.getD j false=true:=by
 intro T
 induction T with
 |nil=>intro h;simp at h
 |cons t T ih=>
  intro h
  rw[JU,gq]at h
  by_cases c:T.countP id<T.length
  ·obtain⟨i,h1,h2,h3⟩:=ih c
   refine⟨i+1,by rw[gq];omega,h2,fun j hj hl=>?_⟩
   cases j with
   |zero=>omega
   |succ j=>exact h3 j (by omega) (by rw[gq]at hl;omega)
  ·have ht:t=false:=by
    cases t with
    |false=>rfl
    |true=>simp at h;omega
   subst ht
   have cD:T.countP id=T.length:=by have:=List.countP_le_length (p:=id) (l:=T);omega
   refine⟨0,by simp,rfl,fun j hj hl=>?_⟩
   cases j with
   |zero=>omega
   |succ j=>
    have hl:j<T.length:=by rw[gq]at hl;omega
    have:=List.countP_eq_length.1 cD _ (bX hl)
    show T.getD j false=true
    rw[aW,bj hl];exact this
theorem CU{n:Nat}{nx:Int→List Int}{P:List (List Int)}(h:rh n nx P):P.length≤n∧P.flatten.length≤n:=by
 have h1:P.flatten.length≤n:=CW n _ h.nd fun z hz=>by
  obtain⟨p,hp,hz⟩:=nf.1 hz
  exact h.node p hp z hz
 refine⟨eu ?_ h1,h1⟩
 have:=h.ne
 clear h h1
 induction P with
 |nil=>exact aR _
 |cons p P ih=>
  have h1:=mB.2 (this p (bU ..))
  have h2:=ih fun q hq=>this q (cQ _ hq)
  rw[Cg,bV,gq];omega
theorem LG{n:Nat}{l:List bA}{P:List (List Int)}(h:oO n l P)(hr:∀e∈l,(0≤e.1∧e.1<(n:Int))∧0≤e.2.1∧e.2.1<(n:Int)){k:Nat}(hk:k<P.length){T:List Bool}{out:List (List Int)}(hO:OI P k T out):
  ∃(b:Nat) (p:List Int),fo P l (bu n P) T P.length=b∧P[b]?=some p∧OI P (k+1) (T.set b true) (out++[p])∧out.flatten.length<n∧∃a:Nat,(List.range n).find? (Ih n l out.flatten)=some a∧rI n l a=p:=by
 obtain⟨i,Fh,qV,hi3⟩:=Zk (T:=T) (by rw[hO.aF,hO.tl];exact hk)
 rw[hO.tl]at Fh hi3
 obtain⟨pi,hpi⟩:∃p,P[i]?=some p:=⟨P[i],bj Fh⟩
 have Wg:nu l (bu n P) T i=true:=by
  unfold nu
  rw[bO,qV,bL]
  refine⟨rfl,?_⟩
  rw[jl]
  refine Cf.2 fun e he=>?_
  obtain⟨q1,q2⟩:=hr e he
  obtain⟨a,pa,ha,Fa,wa⟩:=h.idx q1
  obtain⟨b,pb,hb,qU,wb⟩:=h.idx q2
  rw[wa,wb,bO,bL,bL,decide_eq_true_eq,decide_eq_true_eq,jl]
  rintro⟨⟨d1,d2⟩,d3⟩
  obtain⟨j,q,j1,j2,j3⟩:=h.ok.Ks a pa ha e.1 Fa e.2.1 (mb.2 ⟨q2,q1,e,he,rfl,rfl⟩)
  have:=wY h.ok.nd hb j2 qU j3
  rw[hi3 a (by omega) (yD ha)]at d3
  cases d3
 rcases Gs P l (bu n P) T P.length with ⟨_,kd⟩ | ⟨b,hb,oX,hbf,s4⟩
 ·rw[kd i Fh]at Wg;cases Wg
 obtain⟨p,hp⟩:∃p,P[b]?=some p:=⟨P[b],bj oX⟩
 have gn:=cu hp
 obtain⟨wz,hbF⟩:=(RP h hr hO hp).1 hbf
 have E9:p ∉ out:=fun hm=>by
  obtain⟨j,hj,qW⟩:=(hO.mem p).1 hm
  obtain⟨z,hz⟩:=List.exists_mem_of_ne_nil _ (h.ok.ne p gn)
  rw[wY h.ok.nd hp qW hz hz,hj]at wz;cases wz
 have W5:∀z∈p,z ∉ out.flatten:=fun z hz hm=>by
  obtain⟨q,hq,Oi⟩:=nf.1 hm
  obtain⟨j,hj,qW⟩:=(hO.mem q).1 hq
  rw[wY h.ok.nd hp qW hz Oi,hj]at wz;cases wz
 have cf:(out.flatten++p).Nodup:=o7.2 ⟨hO.nd,(h.ok.BJ p gn).imp fun h=>by omega,fun x hx y hy e=>W5 y hy (e▸hx)⟩
 have qx:∀z∈out.flatten++p,0≤z∧z<(n:Int):=fun z hz=>by
  rcases bR.1 hz with hz | hz
  ·obtain⟨q,hq,Oi⟩:=nf.1 hz
   obtain⟨j,_,qW⟩:=(hO.mem q).1 hq
   exact h.ok.node q (cu qW) z Oi
  ·exact h.ok.node p gn z hz
 have hlen:=CW n _ cf qx
 rw[bV]at hlen
 have uk:=mB.2 (h.ok.ne p gn)
 refine⟨b,p,hb,hp,⟨by rw[List.length_set];exact hO.tl,by rw[List.length_append,hO.ol];rfl,by rw[count_set (by rw[hO.tl];exact oX) wz,hO.aF],fun q=>?_,by rw[List.flatten_append];simpa using cf⟩,by omega,?_⟩
 ·rw[bR,bh,hO.mem]
  constructor
  ·rintro (⟨j,hj,qW⟩ | rfl)
   ·exact⟨j,by rw[KQ];split;rfl;exact hj,qW⟩
   ·exact⟨b,by rw[KQ,ah ⟨rfl,by rw[hO.tl];exact oX⟩],hp⟩
  ·rintro⟨j,hj,qW⟩
   rw[KQ]at hj
   by_cases e:b=j
   ·subst e;rw[hp]at qW;exact .inr (Option.some.inj qW).symm
   ·rw[ag (fun h=>e h.1)]at hj
    exact .inl ⟨j,hj,qW⟩
 have Wf:∀{j:Nat} {q:List Int},P[j]?=some q→iu P j∈q∧iu P j=q.headD 0∧∀z∈q,iu P j≤z:=fun {j q} hj=>by
  have aQ:=h.ok.ne q (cu hj)
  have hs:=h.ok.BJ q (cu hj)
  unfold iu
  rw[uW hj]
  cases q with
  |nil=>exact absurd rfl aQ
  |cons z q=>
   refine⟨bU ..,rfl,fun y hy=>?_⟩
   rcases dA.1 hy with rfl | hy
   ·exact jD _
   ·have:=(ta.1 hs).1 y hy
    show z≤y
    omega
 obtain⟨m1,m2,_⟩:=Wf hp
 have hhn:=h.ok.node p gn _ m1
 refine⟨(iu P b).toNat,Zc (by omega) ?_ fun a' JB=>Ce.2 fun hc=>?_,?_⟩
 ·unfold Ih
  rw[lB hhn.1,Mh h.ok gn m1,hbF,FA,bL,decide_eq_true_eq,jl]
  exact⟨m2.symm,Ce.2 fun hm=>W5 _ m1 (Dv.1 hm)⟩
 ·unfold Ih at hc
  rw[bL,bL,decide_eq_true_eq,jl]at hc
  obtain⟨⟨c1,c2⟩,c3⟩:=hc
  obtain⟨j,q,hj,hq,_⟩:=h.idx (x:=(a':Int)) (by omega)
  rw[Mh h.ok (cu hj) hq]at c1 c3
  obtain⟨_,m4,_⟩:=Wf hj
  have hjT:T.getD j false=false:=Ce.2 fun ht=>by
   have:sR out.flatten a'=true:=Dv.2 (nf.2 ⟨q,(hO.mem q).2 ⟨j,ht,hj⟩,hq⟩)
   rw[this]at c2;cases c2
  have:=s4 j (yD hj) ((RP h hr hO hj).2 ⟨hjT,c3⟩)
  rw[m4,c1]at this
  omega
 ·rw[lB hhn.1];exact Mh h.ok gn m1
theorem Hi{n:Nat}{l:List bA}{P:List (List Int)}(h:oO n l P)(hr:∀e∈l,(0≤e.1∧e.1<(n:Int))∧0≤e.2.1∧e.2.1<(n:Int)):∀k,k≤P.length→OI P k (dG P l (bu n P) k).1 (dG P l (bu n P) k).2∧(k<P.length→∃b:Nat,fo P l (bu n P) (dG P l (bu n P) k).1 P.length=b∧b<P.length)∧∀f,Ek n l (k+f) ([],[])=Ek n l f ((dG P l (bu n P) k).2,(dG P l (bu n P) k).2.flatten):=by
 intro k
 induction k with
 |zero=>
  intro _
  have kd:∀i,¬((List.replicate P.length false).getD i false=true):=fun i h1=>by
   rw[aW,wM]at h1
   split at h1 <;> cases h1
  have h0:OI P 0 (List.replicate P.length false) []:=⟨List.length_replicate,rfl,(by rw[List.countP_eq_zero];intro x hx;rw[List.eq_of_mem_replicate hx];simp),fun q=>⟨fun h=>absurd h (by simp),fun ⟨i,h1,_⟩=>absurd h1 (kd i)⟩,List.nodup_nil⟩
  refine⟨h0,fun hk=>?_,fun f=>by rw[dM];rfl⟩
  obtain⟨b,p,hb,hp,_⟩:=LG h hr hk h0
  exact⟨b,hb,yD hp⟩
 |succ k ih=>
  intro hk
  obtain⟨hO,_,hf⟩:=ih (by omega)
  obtain⟨b,p,hb,hp,uv,ab,a,ha,wA⟩:=LG h hr (by omega) hO
  have e1:(dG P l (bu n P) (k+1)).1=(dG P l (bu n P) k).1.set b true:=by
   show (dG P l (bu n P) k).1.set (fo P l (bu n P) (dG P l (bu n P) k).1 P.length).toNat true=_
   rw[hb,bO]
  have e2:(dG P l (bu n P) (k+1)).2=(dG P l (bu n P) k).2++[p]:=by
   show (dG P l (bu n P) k).2++[P.getD (fo P l (bu n P) (dG P l (bu n P) k).1 P.length).toNat []]=_
   rw[hb,bO,uW hp]
  rw[e1,e2]
  refine⟨uv,fun ec=>?_,fun f=>?_⟩
  ·obtain⟨b2,p2,oY,dz,_⟩:=LG h hr ec uv
   exact⟨b2,oY,yD dz⟩
  ·rw[show k+1+f=k+(f+1) by omega,hf]
   show (if _ then _ else _)=_
   rw[ah ab,ha]
   show Ek n l f (_++[rI n l a],_++rI n l a)=_
   rw[wA,List.flatten_append];simp
theorem MI{n:Nat}{l:List bA}{P:List (List Int)}(h:oO n l P)(hr:∀e∈l,(0≤e.1∧e.1<(n:Int))∧0≤e.2.1∧e.2.1<(n:Int)):(dG P l (bu n P) P.length).2=kb n l:=by
 obtain⟨hO,_,hf⟩:=Hi h hr P.length (aR _)
 have hl:=(CU h.ok).1
 have hf:=hf (n+1-P.length)
 rw[show P.length+(n+1-P.length)=n+1 by omega]at hf
 unfold kb
 rw[hf]
 obtain⟨f,hfe⟩:∃f,n+1-P.length=f+1:=⟨n-P.length,by omega⟩
 rw[hfe]
 show _=(if _ then _ else _:List (List Int)×List Int).1
 have cD:∀i,i<P.length→(dG P l (bu n P) P.length).1.getD i false=true:=fun i hi=>by
  have hc:(dG P l (bu n P) P.length).1.countP id=(dG P l (bu n P) P.length).1.length:=by rw[hO.aF,hO.tl]
  have:=List.countP_eq_length.1 hc _ (bX (n:=i) (by rw[hO.tl];exact hi))
  rw[aW,bj (by rw[hO.tl];exact hi)];exact this
 have mn:∀x∈(List.range n).map (fun i:Nat=>(i:Int)),x∈(dG P l (bu n P) P.length).2.flatten:=fun x hx=>by
  obtain⟨i,hi,rfl⟩:=dL.1 hx
  have hi:=gb.1 hi
  obtain⟨j,p,hj,hp,_⟩:=h.idx (x:=(i:Int)) (by omega)
  exact nf.2 ⟨p,(hO.mem p).2 ⟨j,cD j (yD hj),hj⟩,hp⟩
 have aq:=Lx (l:=(List.range n).map (fun i:Nat=>(i:Int))) (by rw[List.nodup_iff_pairwise_ne,zV];exact List.pairwise_lt_range.imp fun h=>by omega) mn
 rw[cj,l0]at aq
 rw[ag (by show ¬((dG P l (bu n P) P.length).2.flatten.length<n);omega)]
end Go.Proofs.YtnikdflhefijbaaGreat
