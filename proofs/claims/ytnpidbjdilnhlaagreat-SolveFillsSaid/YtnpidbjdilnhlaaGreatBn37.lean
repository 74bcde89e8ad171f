import Derived.Test.YtnpidbjdilnhlaaGreatBn34
import Derived.Test.YtnpidbjdilnhlaaGreatBn36
namespace Go.Proofs.YtnpidbjdilnhlaaGreat
open Go.RowKit
set_option maxRecDepth 100000
def jB(nx:Int→List Int)(seen:List Int):Nat→Nat
 | 0=>0
 | n+1=>jB nx seen n+if (n:Int)∈seen then 0 else (nx n).length+2
theorem zN{nx:Int→List Int}{seen:List Int}{b:Nat}(hb:(b:Int) ∉ seen):∀n,jB nx (seen++[(b:Int)]) n+(if b<n then (nx b).length+2 else 0)=jB nx seen n
 | 0=>rfl
 | n+1=>by
  have ih:=zN (nx:=nx) hb n
  unfold jB
  by_cases h:b=n
  ·subst h
   rw[if_neg (Nat.lt_irrefl _)]at ih
   rw[if_pos (by simp),if_neg hb,if_pos (Nat.lt_succ_self _)]
   omega
  ·have h1:((n:Int)∈seen++[(b:Int)])↔(n:Int)∈seen:=by
    rw[List.mem_append,List.mem_singleton]
    exact⟨fun h'=>h'.elim id fun e=>absurd (Int.ofNat.inj e).symm h,.inl⟩
   by_cases h2:(n:Int)∈seen
   ·rw[if_pos (h1.2 h2),if_pos h2]
    by_cases h3:b<n
    ·rw[if_pos h3]at ih;rw[if_pos (by omega)];omega
    ·rw[if_neg h3]at ih;rw[if_neg (by omega)];omega
   ·rw[if_neg (fun h'=>h2 (h1.1 h')),if_neg h2]
    by_cases h3:b<n
    ·rw[if_pos h3]at ih;rw[if_pos (by omega)];omega
    ·rw[if_neg h3]at ih;rw[if_neg (by omega)];omega
def cQ(nx:Int→List Int):List (Int×Nat)→Nat
 | []=>0
 | t::w=>cQ nx w+((nx t.1).length-t.2)+1
def oq(n:Nat)(met:List Bool)(seen:List Int):Prop:=met.length=n∧∀u:Nat,u<n→met.getD u false=decide ((u:Int)∈seen)
theorem oq.at_{n:Nat}{met:List Bool}{seen:List Int}(h:oq n met seen){a:Int}(ha:0≤a∧a<n):met.getD a.toNat false=decide (a∈seen):=by
 have:=h.2 a.toNat (by omega)
 rw[Int.toNat_of_nonneg ha.1]at this
 exact this
theorem oq.set{n:Nat}{met:List Bool}{seen:List Int}(h:oq n met seen){a:Int}(ha:0≤a∧a<n):oq n (met.set a.toNat true) (seen++[a]):=by
 refine⟨by rw[List.length_set];exact h.1,fun u hu =>?_⟩
 rw[List.getD_eq_getElem?_getD,List.getElem?_set]
 by_cases e:a.toNat=u
 ·subst e
  rw[if_pos rfl,if_pos (by rw[h.1];omega),Int.toNat_of_nonneg ha.1]
  simp
 ·rw[if_neg e,← List.getD_eq_getElem?_getD,h.2 u hu]
  have e2:¬(u:Int)=a:=fun e'=>e (by omega)
  simp[e2]
structure gD(n:Nat)(nx:Int→List Int)(F:List Int)(met:List Bool)(seen out:List Int)(eS:List (Int×Nat)):Prop where
 kx:oq n met seen
 nd:seen.Nodup
 rg:∀x∈seen,0≤x∧x<(n:Int)
 len:out.length+eS.length=seen.length
 wy:∀t∈eS,(0≤t.1∧t.1<(n:Int))∧t.2≤(nx t.1).length
 tell:F=out++iV n nx eS seen
 mem:∀x,x∈seen↔x∈out++eS.map Prod.fst
 od:(out++eS.map Prod.fst).Nodup
theorem zU:∀(n:Nat) (l:List Int),l.Nodup→(∀z∈l,0≤z∧z<(n:Int))→l.length≤n
 | 0,l,_,h=>by
  cases l with
  | nil=>exact Nat.le_refl _
  | cons z l=>have:=h z (List.mem_cons_self ..);omega
 | n+1,l,hn,h=>by
  have h1:=zU n (l.erase (n:Int)) (hn.erase _) (fun z hz=>by
   rw[hn.mem_erase_iff]at hz
   have:=h z hz.2
   have:=hz.1
   omega)
  have h2:=List.length_erase (a:=(n:Int)) (l:=l)
  split at h2 <;> omega
theorem gD.small{n:Nat}{nx:Int→List Int}{F:List Int}{met:List Bool}{seen out:List Int}{eS:List (Int×Nat)}(h:gD n nx F met seen out eS):out.length+eS.length≤n:=by
 rw[h.len];exact zU n seen h.nd h.rg
theorem gD.skip{n:Nat}{nx:Int→List Int}{F:List Int}{met:List Bool}{seen out:List Int}{v:Int}{k:Nat}{w:List (Int×Nat)}(h:gD n nx F met seen out ((v,k)::w))(hk:k<(nx v).length)(hb:(nx v)[k]∈seen):gD n nx F met seen out ((v,k+1)::w):=
 ⟨h.kx,h.nd,h.rg,h.len,fun t ht=>by
  rcases List.mem_cons.1 ht with rfl | ht
  ·exact⟨(h.wy (v,k) (List.mem_cons_self ..)).1,hk⟩
  ·exact h.wy t (List.mem_cons_of_mem _ ht),by rw[h.tell,Q7 hk hb],h.mem,h.od⟩
theorem gD.push{n:Nat}{nx:Int→List Int}(bF:∀x,∀y∈nx x,0≤y∧y<(n:Int)){F:List Int}{met:List Bool}{seen out:List Int}{v:Int}{k:Nat}{w:List (Int×Nat)}(h:gD n nx F met seen out ((v,k)::w))(hk:k<(nx v).length)(hb:(nx v)[k] ∉ seen):gD n nx F (met.set (nx v)[k].toNat true) (seen++[(nx v)[k]]) out (((nx v)[k],0)::(v,k+1)::w):=by
 have hr:=bF v _ (List.getElem_mem hk)
 refine⟨h.kx.set hr,List.nodup_append.2 ⟨h.nd,by simp,fun a ha b rh e =>?_⟩,fun x hx =>?_,?_,fun t ht =>?_,by rw[h.tell,Q8 bF hk hb],fun x =>?_,?_⟩
 ·rw[List.mem_singleton.1 rh]at e
  exact hb (e▸ha)
 ·rcases List.mem_append.1 hx with hx | hx
  ·exact h.rg x hx
  ·rw[List.mem_singleton.1 hx];exact hr
 ·have:=h.len
  rw[List.length_append]
  show out.length+(w.length+1+1)=seen.length+1
  have this:out.length+(w.length+1)=seen.length:=this
  omega
 ·rcases List.mem_cons.1 ht with rfl | ht
  ·exact⟨hr,Nat.zero_le _⟩
  ·rcases List.mem_cons.1 ht with rfl | ht
   ·exact⟨(h.wy (v,k) (List.mem_cons_self ..)).1,hk⟩
   ·exact h.wy t (List.mem_cons_of_mem _ ht)
 ·rw[List.mem_append,h.mem,List.mem_append,List.mem_append,List.mem_singleton]
  show _↔_∨x∈(nx v)[k]::v::w.map Prod.fst
  rw[List.mem_cons (a:=x)]
  exact⟨fun h'=>h'.elim (fun h'=>h'.elim .inl fun h'=>.inr (.inr h')) fun h'=>.inr (.inl h'),fun h'=>h'.elim (fun h'=>.inl (.inl h')) fun h'=>h'.elim .inr fun h'=>.inl (.inr h')⟩
 ·have hp:(out++(nx v)[k]::v::w.map Prod.fst).Perm ((nx v)[k]::(out++v::w.map Prod.fst)):=List.perm_middle
  exact hp.nodup_iff.2 (List.nodup_cons.2 ⟨fun hm=>hb ((h.mem _).2 hm),h.od⟩)
theorem gD.pop{n:Nat}{nx:Int→List Int}{F:List Int}{met:List Bool}{seen out:List Int}{v:Int}{k:Nat}{w:List (Int×Nat)}(h:gD n nx F met seen out ((v,k)::w))(hk:(nx v).length≤k):gD n nx F met seen (out++[v]) w:=by
 refine⟨h.kx,h.nd,h.rg,?_,fun t ht=>h.wy t (List.mem_cons_of_mem _ ht),by rw[h.tell,Ta hk,List.append_assoc];rfl,fun x=>by rw[h.mem,List.append_assoc];rfl,by rw[List.append_assoc];exact h.od⟩
 have:=h.len
 rw[List.length_append]
 have this:out.length+(w.length+1)=seen.length:=this
 show out.length+1+w.length=_
 omega
theorem gD.top{n:Nat}{nx:Int→List Int}{met:List Bool}{out:List Int}(hm:oq n met out)(hn:out.Nodup)(hr:∀x∈out,0≤x∧x<(n:Int)){a:Int}(ha:0≤a∧a<(n:Int))(h:a ∉ out):gD n nx (out++dF nx (n+1) a out) (met.set a.toNat true) (out++[a]) out [(a,0)]:=by
 refine⟨hm.set ha,List.nodup_append.2 ⟨hn,by simp,fun x hx b rh e =>?_⟩,fun x hx =>?_,by rw[List.length_append];rfl,fun t ht=>by rw[List.mem_singleton.1 ht];exact⟨ha,Nat.zero_le _⟩,by rw[S9 h],fun _=>Iff.rfl,?_⟩
 ·rw[List.mem_singleton.1 rh]at e
  exact h (e▸hx)
 ·rcases List.mem_append.1 hx with hx | hx
  ·exact hr x hx
  ·rw[List.mem_singleton.1 hx];exact ha
 ·refine List.nodup_append.2 ⟨hn,by simp,fun x hx b rh e =>?_⟩
  rw[List.mem_singleton.1 (show b∈[a] from rh)]at e
  exact h (e▸hx)
theorem gD.done{n:Nat}{nx:Int→List Int}{F:List Int}{met:List Bool}{seen out:List Int}(h:gD n nx F met seen out []):F=out∧oq n met F∧F.Nodup∧∀x∈F,0≤x∧x<(n:Int):=by
 have e:F=out:=by rw[h.tell];unfold iV;exact List.append_nil _
 have hm:∀x,x∈seen↔x∈out:=fun x=>by have:=h.mem x;rwa [show out++List.map Prod.fst []=out from List.append_nil _]at this
 have ho:=h.od
 rw[show out++List.map Prod.fst []=out from List.append_nil _]at ho
 subst e
 exact⟨rfl,⟨h.kx.1,fun u hu=>(h.kx.2 u hu).trans (by rw[decide_eq_decide];exact hm _)⟩,ho,fun x hx=>h.rg x ((hm x).2 hx)⟩
end Go.Proofs.YtnpidbjdilnhlaaGreat
namespace Go.Proofs.YtnpidbjdilnhlaaGreat
open Go.RowKit
set_option maxRecDepth 100000
set_option maxHeartbeats 8000000
theorem Nx{P:Program}{TT:TypeId→Option TI}{fn:Go.Func}{a c:Go.Code}{xs:List AV}{σ:Hp}{R:AV→Hp→Prop}{S:Type}(hb:fn.body=some (.seq a (.scope c)))(eo:S→Nat)(L:S→List (Nat×AV))(H:S→Hp)(p:S→Prop)(μ:S→Nat)
  (hr:xp (jW P TT 998) c eo L H p μ (qt TT fn.results.toList R))
  (h:xp (jW P TT 998) c eo L H p μ (qt TT fn.results.toList R)→codeF P TT (jW P TT 999) (.seq a (.scope c)) (t0 xs) σ (qt TT fn.results.toList R)):qw P TT fn xs σ R:=by
 have h1:jW P TT 1000 (.seq a (.scope c)) (t0 xs) σ (qt TT fn.results.toList R):=h hr
 unfold qw
 rw[hb]
 exact h1
abbrev GG:=(Bool×Int×List Bool×List Int)×(List (Int×Nat)×Int×Nat)×(Nat×List AV)×(AV×Hp×List Int)
def VsP(n:Nat)(nx:Int→List Int)(F:List Int)(x:GG):Prop:=match x.1.1 with
 | true=>gD n nx F (x.1.2.2.1.set x.1.2.1.toNat true) (x.1.2.2.2++[x.1.2.1]) x.2.2.2.2.2 ((x.1.2.1,0)::(x.2.1.2.1,x.2.1.2.2)::x.2.1.1.reverse)∧x.1.2.2.1.length=n∧0≤x.1.2.1∧x.1.2.1<n
 | false=>gD n nx F x.1.2.2.1 x.1.2.2.2 x.2.2.2.2.2 ((x.2.1.2.1,x.2.1.2.2)::x.2.1.1.reverse)
def VsM(n:Nat)(nx:Int→List Int)(x:GG):Nat:=match x.1.1 with
 | true=>cQ nx ((x.1.2.1,0)::(x.2.1.2.1,x.2.1.2.2)::x.2.1.1.reverse)+jB nx (x.1.2.2.2++[x.1.2.1]) n+1
 | false=>cQ nx ((x.2.1.2.1,x.2.1.2.2)::x.2.1.1.reverse)+jB nx x.1.2.2.2 n
theorem Ub(n:Nat)(l:List aK)(a:Int)(met:List Bool)(out:List Int)(bm:Nat)(vo:AV)(qK σ:Hp)(_hl:l.length≤100000)(hn:n≤1000)(ha:0≤a∧a<n)(hm:oq n met out)(bC:out.Nodup)(FQ:∀x∈out,0≤x∧x<(n:Int))(hO:Acc 1 out.length vo qK (ak out)):
  ACalls Tryz.prog 243 [.af (.slice (.int .i64)) (bB n l),.ae bm 0 n 1,.int .i64 a,.via vo] ((bm,aZ met)::(qK++σ))
   (fun r σ'=>∃nk iE nr nb,iE=out++dF (au n l) (n+1) a out∧oq n nk iE∧iE.Nodup∧(∀x∈iE,0≤x∧x<(n:Int))∧Acc 1 iE.length nr nb (ak iE)∧r=nr∧σ'=(bm,aZ nk)::(nb++σ)):=by
 have bF:∀x,∀y∈au n l x,0≤y∧y<(n:Int):=fun x y hy=>(iv.1 hy).1
 obtain⟨F,hF⟩:∃F,out++dF (au n l) (n+1) a out=F:=⟨_,rfl⟩
 refine okF Tryz.func243 (by kernel_rfl) ?_
 refine Nx (S:=GG) rfl (fun x=>match x.1.1 with | true=>0 | false=>1)
  (fun x=>[(0,.af (.slice (.int .i64)) (bB n l)),(1,.ae bm 0 n 1),(2,.int .i64 x.1.2.1),(3,.via x.2.2.2.1),(9,.ae x.2.2.1.1 0 (x.2.1.1.length+1) 2)])
  (fun x=>(bm,aZ x.1.2.2.1)::(x.2.2.1.1,a7 (x.2.1.1++[(x.2.1.2.1,x.2.1.2.2)])++x.2.2.1.2)::(x.2.2.2.2.1++σ))
  (fun x=>VsP n (au n l) F x∧Acc 1 x.2.2.2.2.2.length x.2.2.2.1 x.2.2.2.2.1 (ak x.2.2.2.2.2))
  (fun x=>VsM n (au n l) x) ?_ ?_
 ·rintro⟨⟨f,b,kl,fD⟩,⟨wy,v,k⟩,⟨bw,J⟩,⟨yj,zr,iD⟩⟩ g ⟨hP,sF⟩
  have sF:Acc 1 iD.length yj zr (ak iD):=sF
  cases f with
  | true =>
   obtain⟨hV,E4,jM,sA⟩:=hP
   have hV:gD n (au n l) F (kl.set b.toNat true) (fD++[b]) iD ((b,0)::(v,k)::wy.reverse):=hV
   have E4:kl.length=n:=E4
   have jM:0≤b:=jM
   have sA:b<n:=sA
   have oy:(a7 (wy++[(v,k)])).length=(wy.length+1)*2:=by rw[jO,List.length_append];rfl
   have Xe:=hV.small
   rw[List.length_cons,List.length_cons,List.length_reverse]at Xe
   refine ah.mk ⟨rfl,by omega,by omega⟩ ?_
   refine ai.mk 0 _ _ rfl (p7 rfl true jM (by omega)) ?_
   intro aC
   refine sR (k:=wy.length+1) (n:=1) [_,_] (.ae bw (wy.length+1) (a7 (wy++[(v,k)])) J oy) (.ae 0 aC 0 1 _ rfl (Nat.le_of_ble_eq_true rfl)) rfl (by omega) (by decide) (by decide) (fun v' aP h' =>?_)
   obtain⟨lj,J2,rfl,rfl,_⟩:=h'.pos (by omega)
   have A5:(wy++[(v,k)]).reverse=(v,k)::wy.reverse:=by rw[List.reverse_append];rfl
   have mD:a7 (wy++[(v,k)])++[AV.int .i64 b,.int .i64 ((0:Nat):Int)]++J2=a7 ((wy++[(v,k)])++[(b,0)])++J2:=by rw[lr (wy++[(v,k)]) [(b,0)]];rfl
   have pr:(wy++[(v,k)]).length=wy.length+1:=by rw[List.length_append];rfl
   rw[← A5]at hV
   have sd:=hV.wy (b,0) (List.mem_cons_self ..)
   have cW:0≤b∧b<(n:Int):=sd.1
   have vN:0≤(au n l b).length:=sd.2
   have iJ:=rC n l b
   have mE:=hV.small
   rw[List.length_cons,List.length_reverse,pr]at mE
   have pL:((kl.set b.toNat true)).length=n:=hV.kx.1
   have ko:IntKind.i64.wrap ((((wy.length+1)+1:Nat):Int)-1)=(((wy.length+1):Nat):Int):=by rw[ic (by omega)];omega
   have hX:0+(IntKind.i64.wrap ((((wy.length+1)+1:Nat):Int)-1)).toNat*2=((wy++[(v,k)])).length*2:=by rw[ko,pr];omega
   have j5:dy ⟨.int .i64,1,8,[.int .i64 0]⟩ (a7 (wy++[(v,k)])++[AV.int .i64 b,.int .i64 ((0:Nat):Int)]++J2) (0+(IntKind.i64.wrap ((((wy.length+1)+1:Nat):Int)-1)).toNat*2+0)=some (.int .i64 b):=by rw[mD];exact eO rfl (by rw[hX];exact nJ rfl)
   have jc:dy ⟨.int .i64,1,8,[.int .i64 0]⟩ (a7 (wy++[(v,k)])++[AV.int .i64 b,.int .i64 ((0:Nat):Int)]++J2) (0+(IntKind.i64.wrap ((((wy.length+1)+1:Nat):Int)-1)).toNat*2+1)=some (.int .i64 ((0:Nat):Int)):=by rw[mD];exact eO rfl (by rw[hX];exact wD rfl)
   have dI:(a7 ((wy++[(v,k)])++[(b,0)])++J2).length=((wy++[(v,k)])).length*2+2+(J2:List AV).length:=by rw[List.length_append,jO,List.length_append];show (_+1)*2+_=_;omega
   have im:IntKind.i64.wrap (((0:Nat):Int)+1)=((0+1:Nat):Int):=by rw[ic (by omega)];omega
   have qW:ju ⟨.int .i64,1,8,[.int .i64 0]⟩ (a7 (wy++[(v,k)])++[AV.int .i64 b,.int .i64 ((0:Nat):Int)]++J2) (0+(IntKind.i64.wrap ((((wy.length+1)+1:Nat):Int)-1)).toNat*2+1) (.int .i64 (IntKind.i64.wrap (((0:Nat):Int)+1)))=some (a7 ((wy++[(v,k)])++[(b,0+1)])++J2):=by
    rw[mD,l6 rfl rfl (by rw[hX,dI];omega),hX,im,wO rfl]
   have qo:2=2∧0≤IntKind.i64.wrap ((((wy.length+1)+1:Nat):Int)-1)∧IntKind.i64.wrap ((((wy.length+1)+1:Nat):Int)-1)<(((wy.length+1)+1:Nat):Int):=⟨rfl,by omega,by omega⟩
   refine ah.mk qo ?_
   refine .quiet (by kernel_rfl) ?_
   refine aa.mk 2 _ _ rfl jc ?_
   refine aa.mk 2 _ _ rfl j5 ?_
   refine ah.mk rfl ?_
   refine aT.mk (au n l b) (by omega) (lA cW) ?_
   refine an (p:=((0:Nat):Int)<(au n l b).length) (fun ab =>?_) (fun aq =>?_)
   ·have ab:0<(au n l b).length:=by omega
    obtain⟨z,hz⟩:∃z,(au n l b)[0]=z:=⟨_,rfl⟩
    have yu:z∈au n l b:=hz▸List.getElem_mem ab
    have dH:=(iv.1 yu).1
    refine .quiet (by kernel_rfl) ?_
    refine aa.mk 2 _ _ rfl j5 ?_
    refine ah.mk rfl ?_
    refine aT.mk (au n l b) (by omega) (lA cW) ?_
    refine aa.mk 2 _ _ rfl jc ?_
    refine ah.mk rfl ?_
    refine aT.mk z (by omega) ((get_some ab).trans (congrArg some hz)) ?_
    refine aa.mk 2 _ _ rfl jc ?_
    refine ai.mk 2 _ _ rfl qW ?_
    refine ah.mk ⟨rfl,by omega,by omega⟩ ?_
    refine aa.gy 1 _ _ rfl (mV rfl dH.1 (by rw[pL];omega)) (fun c2 =>?_) (fun c2 =>?_)
    ·have gi:z∈(fD++[b]):=by rw[hV.kx.at_ dH]at c2;exact of_decide_eq_true c2
     have hS:=hV.skip ab (by rw[hz];exact gi)
     have fX:cQ (au n l) ((b,0+1)::((wy++[(v,k)])).reverse)+1=cQ (au n l) ((b,0)::((wy++[(v,k)])).reverse):=by show cQ (au n l) ((wy++[(v,k)])).reverse+((au n l b).length-(0+1))+1+1=cQ (au n l) ((wy++[(v,k)])).reverse+((au n l b).length-0)+1;omega
     exact .mk ((false,z,(kl.set b.toNat true),(fD++[b])),((wy++[(v,k)]),b,0+1),(lj,J2),(yj,zr,iD)) rfl (by show cQ (au n l) ((b,0+1)::((wy++[(v,k)])).reverse)+jB (au n l) ((fD++[b])) n<_;(show _<cQ (au n l) ((b,0)::(v,k)::wy.reverse)+jB (au n l) (fD++[b]) n+1);rw[← A5];omega) ⟨hS,sF⟩ ⟨rfl,rfl,rfl,rfl,by rw[pr];rfl,trivial⟩ (.drop 0 1 (.refl _))
    ·have gi:z ∉ (fD++[b]):=by rw[hV.kx.at_ dH]at c2;exact of_decide_eq_false c2
     have hS:=hV.push bF ab (by rw[hz];exact gi)
     rw[hz]at hS
     have fX:cQ (au n l) ((z,0)::(b,0+1)::((wy++[(v,k)])).reverse)=cQ (au n l) ((b,0)::((wy++[(v,k)])).reverse)+(au n l z).length:=by show cQ (au n l) ((wy++[(v,k)])).reverse+((au n l b).length-(0+1))+1+((au n l z).length-0)+1=cQ (au n l) ((wy++[(v,k)])).reverse+((au n l b).length-0)+1+(au n l z).length;omega
     have yO:=zN (nx:=au n l) (seen:=(fD++[b])) (b:=z.toNat) (by rw[Int.toNat_of_nonneg dH.1];exact gi) n
     rw[if_pos (by omega),Int.toNat_of_nonneg dH.1]at yO
     exact .mk ((true,z,(kl.set b.toNat true),(fD++[b])),((wy++[(v,k)]),b,0+1),(lj,J2),(yj,zr,iD)) rfl (by show cQ (au n l) ((z,0)::(b,0+1)::((wy++[(v,k)])).reverse)+jB (au n l) (((fD++[b]))++[z]) n+1<_;(show _<cQ (au n l) ((b,0)::(v,k)::wy.reverse)+jB (au n l) (fD++[b]) n+1);rw[← A5];omega) ⟨⟨hS,pL,dH.1,dH.2⟩,sF⟩ ⟨rfl,rfl,rfl,rfl,by rw[pr];rfl,trivial⟩ (.drop 0 1 (.refl _))
   ·have aq:(au n l b).length≤0:=by omega
    have hS:=hV.pop aq
    refine aa.mk 2 _ _ rfl j5 ?_
    intro bs
    refine dX (k:=(iD).length) (n:=1) [_,_,_,_] sF (.ae 0 bs 0 1 _ rfl (Nat.le_of_ble_eq_true rfl)) rfl (by omega) (by decide) (by decide) (fun mq j7 sE =>?_)
    have sD:Acc 1 ((iD)++[b]).length mq j7 (ak ((iD)++[b])):=by
     rw[List.length_append,show ak ((iD)++[b])=ak (iD)++[.int .i64 b] by simp[ak]];exact sE
    have mf:(IntKind.i64.wrap ((((wy.length+1)+1:Nat):Int)-1)).toNat-Int.toNat 0=(wy.length+1):=by rw[ko];omega
    have cc:0≤(0:Int)∧(0:Int)≤IntKind.i64.wrap ((((wy.length+1)+1:Nat):Int)-1)∧IntKind.i64.wrap ((((wy.length+1)+1:Nat):Int)-1)≤(((wy.length+1)+1:Nat):Int)∧2=2:=⟨by omega,by omega,by omega,rfl⟩
    refine ah.mk cc ?_
    have fR:(IntKind.i64.wrap ((((wy.length+1)+1:Nat):Int)-1)).toNat-Int.toNat 0=(wy).length+1:=mf.trans (rfl)
    have e8:AV.ae lj (0+Int.toNat 0*2) ((IntKind.i64.wrap ((((wy.length+1)+1:Nat):Int)-1)).toNat-Int.toNat 0) 2=.ae lj 0 ((wy).length+1) 2:=by rw[fR];rfl
    have kS:a7 (wy++[(v,k)])++[AV.int .i64 b,.int .i64 ((0:Nat):Int)]++J2=a7 (wy++[(v,k)])++([.int .i64 b,.int .i64 ((0:Nat):Int)]++J2):=by rw[mD,lr,List.append_assoc];rfl
    rw[A5]at hS
    refine an (p:=(0:Int)<(((IntKind.i64.wrap ((((wy.length+1)+1:Nat):Int)-1)).toNat-Int.toNat 0:Nat):Int)) (fun c3 =>?_) (fun c3 =>?_)
    rotate_left
    ·rw[fR]at c3;omega
    have fX:cQ (au n l) ((v,k)::(wy).reverse)+1≤cQ (au n l) ((b,0)::(v,k)::(wy).reverse):=by show _≤cQ (au n l) ((v,k)::(wy).reverse)+((au n l b).length-0)+1;omega
    have hE:(bm,aZ (kl.set b.toNat true))::(lj,a7 (wy++[(v,k)])++[AV.int .i64 b,.int .i64 ((0:Nat):Int)]++J2)::(j7++σ)=(bm,aZ (kl.set b.toNat true))::(lj,a7 (wy++[(v,k)])++([.int .i64 b,.int .i64 ((0:Nat):Int)]++J2))::(j7++σ):=by rw[kS]
    exact .mk ((false,b,(kl.set b.toNat true),(fD++[b])),(wy,v,k),(lj,[AV.int .i64 b,.int .i64 ((0:Nat):Int)]++J2),(mq,j7,(iD)++[b])) rfl (by show cQ (au n l) ((v,k)::(wy).reverse)+jB (au n l) ((fD++[b])) n<_;(show _<cQ (au n l) ((b,0)::(v,k)::wy.reverse)+jB (au n l) (fD++[b]) n+1);omega) ⟨hS,sD⟩ ⟨rfl,rfl,rfl,rfl,e8,trivial⟩ (.drop 0 2 (aF hE))
  | false =>
   have hV:gD n (au n l) F kl fD iD ((v,k)::wy.reverse):=hP
   have pr:wy.length=wy.length:=rfl
   have mD:a7 (wy++[(v,k)])++J=a7 (wy++[(v,k)])++J:=rfl
   have sd:=hV.wy (v,k) (List.mem_cons_self ..)
   have cW:0≤v∧v<(n:Int):=sd.1
   have vN:k≤(au n l v).length:=sd.2
   have iJ:=rC n l v
   have mE:=hV.small
   rw[List.length_cons,List.length_reverse,pr]at mE
   have pL:(kl).length=n:=hV.kx.1
   have ko:IntKind.i64.wrap (((wy.length+1:Nat):Int)-1)=((wy.length:Nat):Int):=by rw[ic (by omega)];omega
   have hX:0+(IntKind.i64.wrap (((wy.length+1:Nat):Int)-1)).toNat*2=(wy).length*2:=by rw[ko,pr];omega
   have j5:dy ⟨.int .i64,1,8,[.int .i64 0]⟩ (a7 (wy++[(v,k)])++J) (0+(IntKind.i64.wrap (((wy.length+1:Nat):Int)-1)).toNat*2+0)=some (.int .i64 v):=by rw[mD];exact eO rfl (by rw[hX];exact nJ rfl)
   have jc:dy ⟨.int .i64,1,8,[.int .i64 0]⟩ (a7 (wy++[(v,k)])++J) (0+(IntKind.i64.wrap (((wy.length+1:Nat):Int)-1)).toNat*2+1)=some (.int .i64 ((k:Nat):Int)):=by rw[mD];exact eO rfl (by rw[hX];exact wD rfl)
   have dI:(a7 (wy++[(v,k)])++J).length=(wy).length*2+2+(J:List AV).length:=by rw[List.length_append,jO,List.length_append];show (_+1)*2+_=_;omega
   have im:IntKind.i64.wrap (((k:Nat):Int)+1)=((k+1:Nat):Int):=by rw[ic (by omega)];omega
   have qW:ju ⟨.int .i64,1,8,[.int .i64 0]⟩ (a7 (wy++[(v,k)])++J) (0+(IntKind.i64.wrap (((wy.length+1:Nat):Int)-1)).toNat*2+1) (.int .i64 (IntKind.i64.wrap (((k:Nat):Int)+1)))=some (a7 (wy++[(v,k+1)])++J):=by
    rw[mD,l6 rfl rfl (by rw[hX,dI];omega),hX,im,wO rfl]
   have qo:2=2∧0≤IntKind.i64.wrap (((wy.length+1:Nat):Int)-1)∧IntKind.i64.wrap (((wy.length+1:Nat):Int)-1)<((wy.length+1:Nat):Int):=⟨rfl,by omega,by omega⟩
   refine ah.mk qo ?_
   refine .quiet (by kernel_rfl) ?_
   refine aa.mk 1 _ _ rfl jc ?_
   refine aa.mk 1 _ _ rfl j5 ?_
   refine ah.mk rfl ?_
   refine aT.mk (au n l v) (by omega) (lA cW) ?_
   refine an (p:=((k:Nat):Int)<(au n l v).length) (fun ab =>?_) (fun aq =>?_)
   ·have ab:k<(au n l v).length:=by omega
    obtain⟨z,hz⟩:∃z,(au n l v)[k]=z:=⟨_,rfl⟩
    have yu:z∈au n l v:=hz▸List.getElem_mem ab
    have dH:=(iv.1 yu).1
    refine .quiet (by kernel_rfl) ?_
    refine aa.mk 1 _ _ rfl j5 ?_
    refine ah.mk rfl ?_
    refine aT.mk (au n l v) (by omega) (lA cW) ?_
    refine aa.mk 1 _ _ rfl jc ?_
    refine ah.mk rfl ?_
    refine aT.mk z (by omega) ((get_some ab).trans (congrArg some hz)) ?_
    refine aa.mk 1 _ _ rfl jc ?_
    refine ai.mk 1 _ _ rfl qW ?_
    refine ah.mk ⟨rfl,by omega,by omega⟩ ?_
    refine aa.gy 0 _ _ rfl (mV rfl dH.1 (by rw[pL];omega)) (fun c2 =>?_) (fun c2 =>?_)
    ·have gi:z∈fD:=by rw[hV.kx.at_ dH]at c2;exact of_decide_eq_true c2
     have hS:=hV.skip ab (by rw[hz];exact gi)
     have fX:cQ (au n l) ((v,k+1)::(wy).reverse)+1=cQ (au n l) ((v,k)::(wy).reverse):=by show cQ (au n l) (wy).reverse+((au n l v).length-(k+1))+1+1=cQ (au n l) (wy).reverse+((au n l v).length-k)+1;omega
     exact .mk ((false,z,kl,fD),(wy,v,k+1),(bw,J),(yj,zr,iD)) rfl (by show cQ (au n l) ((v,k+1)::(wy).reverse)+jB (au n l) (fD) n<_;(show _<cQ (au n l) ((v,k)::wy.reverse)+jB (au n l) fD n);omega) ⟨hS,sF⟩ ⟨rfl,rfl,rfl,rfl,rfl,trivial⟩ (.refl _)
    ·have gi:z ∉ fD:=by rw[hV.kx.at_ dH]at c2;exact of_decide_eq_false c2
     have hS:=hV.push bF ab (by rw[hz];exact gi)
     rw[hz]at hS
     have fX:cQ (au n l) ((z,0)::(v,k+1)::(wy).reverse)=cQ (au n l) ((v,k)::(wy).reverse)+(au n l z).length:=by show cQ (au n l) (wy).reverse+((au n l v).length-(k+1))+1+((au n l z).length-0)+1=cQ (au n l) (wy).reverse+((au n l v).length-k)+1+(au n l z).length;omega
     have yO:=zN (nx:=au n l) (seen:=fD) (b:=z.toNat) (by rw[Int.toNat_of_nonneg dH.1];exact gi) n
     rw[if_pos (by omega),Int.toNat_of_nonneg dH.1]at yO
     exact .mk ((true,z,kl,fD),(wy,v,k+1),(bw,J),(yj,zr,iD)) rfl (by show cQ (au n l) ((z,0)::(v,k+1)::(wy).reverse)+jB (au n l) ((fD)++[z]) n+1<_;(show _<cQ (au n l) ((v,k)::wy.reverse)+jB (au n l) fD n);omega) ⟨⟨hS,pL,dH.1,dH.2⟩,sF⟩ ⟨rfl,rfl,rfl,rfl,rfl,trivial⟩ (.refl _)
   ·have aq:(au n l v).length≤k:=by omega
    have hS:=hV.pop aq
    refine aa.mk 1 _ _ rfl j5 ?_
    intro bs
    refine dX (k:=(iD).length) (n:=1) [_,_,_] sF (.ae 0 bs 0 1 _ rfl (Nat.le_of_ble_eq_true rfl)) rfl (by omega) (by decide) (by decide) (fun mq j7 sE =>?_)
    have sD:Acc 1 ((iD)++[v]).length mq j7 (ak ((iD)++[v])):=by
     rw[List.length_append,show ak ((iD)++[v])=ak (iD)++[.int .i64 v] by simp[ak]];exact sE
    have mf:(IntKind.i64.wrap (((wy.length+1:Nat):Int)-1)).toNat-Int.toNat 0=wy.length:=by rw[ko];omega
    have cc:0≤(0:Int)∧(0:Int)≤IntKind.i64.wrap (((wy.length+1:Nat):Int)-1)∧IntKind.i64.wrap (((wy.length+1:Nat):Int)-1)≤((wy.length+1:Nat):Int)∧2=2:=⟨by omega,by omega,by omega,rfl⟩
    refine ah.mk cc ?_
    rcases List.eq_nil_or_concat wy with so | ⟨w',⟨u,i⟩,so⟩
    ·rw[show wy.reverse=[] by rw[so];rfl]at hS
     refine an (p:=(0:Int)<(((IntKind.i64.wrap (((wy.length+1:Nat):Int)-1)).toNat-Int.toNat 0:Nat):Int)) (fun c3 =>?_) (fun c3 =>?_)
     ·rw[mf]at c3;exact absurd c3 (by rw[so];decide)
     ·obtain⟨e1,e2,e3,e4⟩:=gD.done hS
      rw[← e1]at sD
      exact .drop 0 1 (.drop 1 1 (.done ⟨kl,F,mq,j7,hF.symm,e2,e3,e4,sD,rfl,rfl⟩))
    ·have so:wy=w'++[(u,i)]:=by simpa using so
     have Mp:(wy).reverse=(u,i)::w'.reverse:=by rw[so,List.reverse_append];rfl
     have fR:(IntKind.i64.wrap (((wy.length+1:Nat):Int)-1)).toNat-Int.toNat 0=(w').length+1:=mf.trans (by rw[so,List.length_append];rfl)
     have e8:AV.ae bw (0+Int.toNat 0*2) ((IntKind.i64.wrap (((wy.length+1:Nat):Int)-1)).toNat-Int.toNat 0) 2=.ae bw 0 ((w').length+1) 2:=by rw[fR];rfl
     have kS:a7 (wy++[(v,k)])++J=a7 (w'++[(u,i)])++([.int .i64 v,.int .i64 ((k:Nat):Int)]++J):=by rw[mD,so,lr,List.append_assoc];rfl
     rw[Mp]at hS
     refine an (p:=(0:Int)<(((IntKind.i64.wrap (((wy.length+1:Nat):Int)-1)).toNat-Int.toNat 0:Nat):Int)) (fun c3 =>?_) (fun c3 =>?_)
     rotate_left
     ·rw[fR]at c3;omega
     have fX:cQ (au n l) ((u,i)::(w').reverse)+1≤cQ (au n l) ((v,k)::(wy).reverse):=by rw[← Mp];show _≤cQ (au n l) (wy).reverse+((au n l v).length-k)+1;omega
     have hE:(bm,aZ kl)::(bw,a7 (wy++[(v,k)])++J)::(j7++σ)=(bm,aZ kl)::(bw,a7 (w'++[(u,i)])++([.int .i64 v,.int .i64 ((k:Nat):Int)]++J))::(j7++σ):=by rw[kS]
     exact .mk ((false,b,kl,fD),(w',u,i),(bw,[AV.int .i64 v,.int .i64 ((k:Nat):Int)]++J),(mq,j7,(iD)++[v])) rfl (by show cQ (au n l) ((u,i)::(w').reverse)+jB (au n l) (fD) n<_;(show _<cQ (au n l) ((v,k)::wy.reverse)+jB (au n l) fD n);omega) ⟨hS,sD⟩ ⟨rfl,rfl,rfl,rfl,e8,trivial⟩ (.drop 0 1 (aF hE))
 ·intro hr
  have E4:=hm.1
  refine ah.mk ⟨rfl,by omega,by omega⟩ ?_
  refine aa.gy 0 _ _ rfl (mV rfl ha.1 (by omega)) (fun c1 =>?_) (fun c1 =>?_)
  ·have cX:a∈out:=by rw[hm.at_ ha]at c1;exact of_decide_eq_true c1
   have k8:dF (au n l) (n+1) a out=[]:=by unfold dF;rw[if_pos cX]
   rw[k8,List.append_nil]at hF
   exact .done ⟨met,out,vo,qK,by rw[k8,List.append_nil],hm,bC,FQ,hO,rfl,rfl⟩
  ·have cX:a ∉ out:=by rw[hm.at_ ha]at c1;exact of_decide_eq_false c1
   have hV:=gD.top (nx:=au n l) hm bC FQ ha cX
   rw[hF]at hV
   refine ah.mk ⟨rfl,by omega,by omega⟩ ?_
   refine ai.mk 0 _ _ rfl (p7 rfl true ha.1 (by omega)) ?_
   intro aC
   refine sR (k:=0) (n:=1) [_,_] (acc:=[]) .nil (.ae 0 aC 0 1 _ rfl (Nat.le_of_ble_eq_true rfl)) rfl (by omega) (by decide) (by decide) (fun v' aP h' =>?_)
   obtain⟨bw,J,rfl,rfl,_⟩:=h'.pos (by omega)
   have mD:[]++[AV.int .i64 a,.int .i64 ((0:Nat):Int)]++J=a7 (([]:List (Int×Nat))++[(a,0)])++J:=rfl
   have pr:([]:List (Int×Nat)).length=0:=rfl
   have hV:gD n (au n l) F (met.set a.toNat true) (out++[a]) out ((a,0)::([]:List (Int×Nat)).reverse):=hV
   have sd:=hV.wy (a,0) (List.mem_cons_self ..)
   have cW:0≤a∧a<(n:Int):=sd.1
   have vN:0≤(au n l a).length:=sd.2
   have iJ:=rC n l a
   have mE:=hV.small
   rw[List.length_cons,List.length_reverse,pr]at mE
   have pL:((met.set a.toNat true)).length=n:=hV.kx.1
   have ko:IntKind.i64.wrap (((0+1:Nat):Int)-1)=((0:Nat):Int):=by rw[ic (by omega)];omega
   have hX:0+(IntKind.i64.wrap (((0+1:Nat):Int)-1)).toNat*2=(([]:List (Int×Nat))).length*2:=by rw[ko,pr];omega
   have j5:dy ⟨.int .i64,1,8,[.int .i64 0]⟩ ([]++[AV.int .i64 a,.int .i64 ((0:Nat):Int)]++J) (0+(IntKind.i64.wrap (((0+1:Nat):Int)-1)).toNat*2+0)=some (.int .i64 a):=by rw[mD];exact eO rfl (by rw[hX];exact nJ rfl)
   have jc:dy ⟨.int .i64,1,8,[.int .i64 0]⟩ ([]++[AV.int .i64 a,.int .i64 ((0:Nat):Int)]++J) (0+(IntKind.i64.wrap (((0+1:Nat):Int)-1)).toNat*2+1)=some (.int .i64 ((0:Nat):Int)):=by rw[mD];exact eO rfl (by rw[hX];exact wD rfl)
   have dI:(a7 (([]:List (Int×Nat))++[(a,0)])++J).length=(([]:List (Int×Nat))).length*2+2+(J:List AV).length:=by rw[List.length_append,jO,List.length_append];show (_+1)*2+_=_;omega
   have im:IntKind.i64.wrap (((0:Nat):Int)+1)=((0+1:Nat):Int):=by rw[ic (by omega)];omega
   have qW:ju ⟨.int .i64,1,8,[.int .i64 0]⟩ ([]++[AV.int .i64 a,.int .i64 ((0:Nat):Int)]++J) (0+(IntKind.i64.wrap (((0+1:Nat):Int)-1)).toNat*2+1) (.int .i64 (IntKind.i64.wrap (((0:Nat):Int)+1)))=some (a7 (([]:List (Int×Nat))++[(a,0+1)])++J):=by
    rw[mD,l6 rfl rfl (by rw[hX,dI];omega),hX,im,wO rfl]
   have qo:2=2∧0≤IntKind.i64.wrap (((0+1:Nat):Int)-1)∧IntKind.i64.wrap (((0+1:Nat):Int)-1)<((0+1:Nat):Int):=⟨rfl,by omega,by omega⟩
   refine ah.mk qo ?_
   refine .quiet (by kernel_rfl) ?_
   refine aa.mk 2 _ _ rfl jc ?_
   refine aa.mk 2 _ _ rfl j5 ?_
   refine ah.mk rfl ?_
   refine aT.mk (au n l a) (by omega) (lA cW) ?_
   refine an (p:=((0:Nat):Int)<(au n l a).length) (fun ab =>?_) (fun aq =>?_)
   ·have ab:0<(au n l a).length:=by omega
    obtain⟨z,hz⟩:∃z,(au n l a)[0]=z:=⟨_,rfl⟩
    have yu:z∈au n l a:=hz▸List.getElem_mem ab
    have dH:=(iv.1 yu).1
    refine .quiet (by kernel_rfl) ?_
    refine aa.mk 2 _ _ rfl j5 ?_
    refine ah.mk rfl ?_
    refine aT.mk (au n l a) (by omega) (lA cW) ?_
    refine aa.mk 2 _ _ rfl jc ?_
    refine ah.mk rfl ?_
    refine aT.mk z (by omega) ((get_some ab).trans (congrArg some hz)) ?_
    refine aa.mk 2 _ _ rfl jc ?_
    refine ai.mk 2 _ _ rfl qW ?_
    refine ah.mk ⟨rfl,by omega,by omega⟩ ?_
    refine aa.gy 1 _ _ rfl (mV rfl dH.1 (by rw[pL];omega)) (fun c2 =>?_) (fun c2 =>?_)
    ·have gi:z∈(out++[a]):=by rw[hV.kx.at_ dH]at c2;exact of_decide_eq_true c2
     have hS:=hV.skip ab (by rw[hz];exact gi)
     have fX:cQ (au n l) ((a,0+1)::(([]:List (Int×Nat))).reverse)+1=cQ (au n l) ((a,0)::(([]:List (Int×Nat))).reverse):=by show cQ (au n l) (([]:List (Int×Nat))).reverse+((au n l a).length-(0+1))+1+1=cQ (au n l) (([]:List (Int×Nat))).reverse+((au n l a).length-0)+1;omega
     exact rG hr ((false,z,(met.set a.toNat true),(out++[a])),(([]:List (Int×Nat)),a,0+1),(bw,J),(vo,qK,out)) ⟨rfl,⟨hS,hO⟩,⟨rfl,rfl,rfl,rfl,rfl,trivial⟩,(.drop 0 1 (.refl _))⟩
    ·have gi:z ∉ (out++[a]):=by rw[hV.kx.at_ dH]at c2;exact of_decide_eq_false c2
     have hS:=hV.push bF ab (by rw[hz];exact gi)
     rw[hz]at hS
     have fX:cQ (au n l) ((z,0)::(a,0+1)::(([]:List (Int×Nat))).reverse)=cQ (au n l) ((a,0)::(([]:List (Int×Nat))).reverse)+(au n l z).length:=by show cQ (au n l) (([]:List (Int×Nat))).reverse+((au n l a).length-(0+1))+1+((au n l z).length-0)+1=cQ (au n l) (([]:List (Int×Nat))).reverse+((au n l a).length-0)+1+(au n l z).length;omega
     have yO:=zN (nx:=au n l) (seen:=(out++[a])) (b:=z.toNat) (by rw[Int.toNat_of_nonneg dH.1];exact gi) n
     rw[if_pos (by omega),Int.toNat_of_nonneg dH.1]at yO
     exact rG hr ((true,z,(met.set a.toNat true),(out++[a])),(([]:List (Int×Nat)),a,0+1),(bw,J),(vo,qK,out)) ⟨rfl,⟨⟨hS,pL,dH.1,dH.2⟩,hO⟩,⟨rfl,rfl,rfl,rfl,rfl,trivial⟩,(.drop 0 1 (.refl _))⟩
   ·have aq:(au n l a).length≤0:=by omega
    have hS:=hV.pop aq
    refine aa.mk 2 _ _ rfl j5 ?_
    intro bs
    refine dX (k:=(out).length) (n:=1) [_,_,_,_] hO (.ae 0 bs 0 1 _ rfl (Nat.le_of_ble_eq_true rfl)) rfl (by omega) (by decide) (by decide) (fun mq j7 sE =>?_)
    have sD:Acc 1 ((out)++[a]).length mq j7 (ak ((out)++[a])):=by
     rw[List.length_append,show ak ((out)++[a])=ak (out)++[.int .i64 a] by simp[ak]];exact sE
    have mf:(IntKind.i64.wrap (((0+1:Nat):Int)-1)).toNat-Int.toNat 0=0:=by rw[ko];omega
    have cc:0≤(0:Int)∧(0:Int)≤IntKind.i64.wrap (((0+1:Nat):Int)-1)∧IntKind.i64.wrap (((0+1:Nat):Int)-1)≤((0+1:Nat):Int)∧2=2:=⟨by omega,by omega,by omega,rfl⟩
    refine ah.mk cc ?_
    obtain⟨e1,e2,e3,e4⟩:=gD.done hS
    rw[← e1]at sD
    exact .drop 0 2 (.drop 1 1 (.done ⟨(met.set a.toNat true),F,mq,j7,hF.symm,e2,e3,e4,sD,rfl,rfl⟩))
end Go.Proofs.YtnpidbjdilnhlaaGreat
