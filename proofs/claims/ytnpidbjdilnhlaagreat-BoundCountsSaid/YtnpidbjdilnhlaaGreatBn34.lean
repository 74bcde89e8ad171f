import Derived.Test.YtnpidbjdilnhlaaGreatBn31
import Derived.Test.YtnpidbjdilnhlaaGreatBn33
namespace Go.Proofs.YtnpidbjdilnhlaaGreat
open Go.RowKit
set_option maxRecDepth 100000
def kc(nx:Int→List Int)(seen:List Int):Nat→Nat
 | 0=>0
 | n+1=>kc nx seen n+if (n:Int)∈seen then 0 else (nx n).length+2
theorem Ct{nx:Int→List Int}{seen:List Int}{b:Nat}(hb:(b:Int) ∉ seen):∀n,kc nx (seen++[(b:Int)]) n+(if b<n then (nx b).length+2 else 0)=kc nx seen n
 | 0=>rfl
 | n+1=>by
  have ih:=Ct (nx:=nx) hb n
  unfold kc
  by_cases h:b=n
  ·subst h
   rw[if_neg (Nat.lt_irrefl _)]at ih
   rw[if_pos (by simp),if_neg hb,if_pos (Nat.lt_succ_self _)]
   omega
  ·have h1:((n:Int)∈seen++[(b:Int)])↔(n:Int)∈seen:=by
    rw[List.mem_append,List.mem_singleton]
    exact⟨fun h'=>h'.elim id fun e=>absurd (Int.ofNat.inj e).symm h,.inl⟩
   by_cases h2:(n:Int)∈seen
   ·rw[if_pos (h1.2 h2),if_pos h2]
    by_cases h3:b<n
    ·rw[if_pos h3]at ih;rw[if_pos (by omega)];omega
    ·rw[if_neg h3]at ih;rw[if_neg (by omega)];omega
   ·rw[if_neg (fun h'=>h2 (h1.1 h')),if_neg h2]
    by_cases h3:b<n
    ·rw[if_pos h3]at ih;rw[if_pos (by omega)];omega
    ·rw[if_neg h3]at ih;rw[if_neg (by omega)];omega
def df(nx:Int→List Int):List (Int×Nat)→Nat
 | []=>0
 | t::w=>df nx w+((nx t.1).length-t.2)+1
def p7(n:Nat)(met:List Bool)(seen:List Int):Prop:=met.length=n∧∀u:Nat,u<n→met.getD u false=decide ((u:Int)∈seen)
theorem p7.at_{n:Nat}{met:List Bool}{seen:List Int}(h:p7 n met seen){a:Int}(ha:0≤a∧a<n):met.getD a.toNat false=decide (a∈seen):=by
 have:=h.2 a.toNat (by omega)
 rw[Int.toNat_of_nonneg ha.1]at this
 exact this
theorem p7.set{n:Nat}{met:List Bool}{seen:List Int}(h:p7 n met seen){a:Int}(ha:0≤a∧a<n):p7 n (met.set a.toNat true) (seen++[a]):=by
 refine⟨by rw[List.length_set];exact h.1,fun u hu =>?_⟩
 rw[List.getD_eq_getElem?_getD,List.getElem?_set]
 by_cases e:a.toNat=u
 ·subst e
  rw[if_pos rfl,if_pos (by rw[h.1];omega),Int.toNat_of_nonneg ha.1]
  simp
 ·rw[if_neg e,← List.getD_eq_getElem?_getD,h.2 u hu]
  have e2:¬(u:Int)=a:=fun e'=>e (by omega)
  simp[e2]
structure ir(n:Nat)(nx:Int→List Int)(F:List Int)(met:List Bool)(seen out:List Int)(fI:List (Int×Nat)):Prop where
 lF:p7 n met seen
 nd:seen.Nodup
 rg:∀x∈seen,0≤x∧x<(n:Int)
 len:out.length+fI.length=seen.length
 wy:∀t∈fI,(0≤t.1∧t.1<(n:Int))∧t.2≤(nx t.1).length
 tell:F=out++jQ n nx fI seen
 mem:∀x,x∈seen↔x∈out++fI.map Prod.fst
 od:(out++fI.map Prod.fst).Nodup
theorem CE:∀(n:Nat) (l:List Int),l.Nodup→(∀z∈l,0≤z∧z<(n:Int))→l.length≤n
 | 0,l,_,h=>by
  cases l with
  | nil=>exact Nat.le_refl _
  | cons z l=>have:=h z (List.mem_cons_self ..);omega
 | n+1,l,hn,h=>by
  have h1:=CE n (l.erase (n:Int)) (hn.erase _) (fun z hz=>by
   rw[hn.mem_erase_iff]at hz
   have:=h z hz.2
   have:=hz.1
   omega)
  have h2:=List.length_erase (a:=(n:Int)) (l:=l)
  split at h2 <;> omega
theorem ir.small{n:Nat}{nx:Int→List Int}{F:List Int}{met:List Bool}{seen out:List Int}{fI:List (Int×Nat)}(h:ir n nx F met seen out fI):out.length+fI.length≤n:=by
 rw[h.len];exact CE n seen h.nd h.rg
theorem ir.skip{n:Nat}{nx:Int→List Int}{F:List Int}{met:List Bool}{seen out:List Int}{v:Int}{k:Nat}{w:List (Int×Nat)}(h:ir n nx F met seen out ((v,k)::w))(hk:k<(nx v).length)(hb:(nx v)[k]∈seen):ir n nx F met seen out ((v,k+1)::w):=
 ⟨h.lF,h.nd,h.rg,h.len,fun t ht=>by
  rcases List.mem_cons.1 ht with rfl | ht
  ·exact⟨(h.wy (v,k) (List.mem_cons_self ..)).1,hk⟩
  ·exact h.wy t (List.mem_cons_of_mem _ ht),by rw[h.tell,V4 hk hb],h.mem,h.od⟩
theorem ir.push{n:Nat}{nx:Int→List Int}(bY:∀x,∀y∈nx x,0≤y∧y<(n:Int)){F:List Int}{met:List Bool}{seen out:List Int}{v:Int}{k:Nat}{w:List (Int×Nat)}(h:ir n nx F met seen out ((v,k)::w))(hk:k<(nx v).length)(hb:(nx v)[k] ∉ seen):ir n nx F (met.set (nx v)[k].toNat true) (seen++[(nx v)[k]]) out (((nx v)[k],0)::(v,k+1)::w):=by
 have hr:=bY v _ (List.getElem_mem hk)
 refine⟨h.lF.set hr,List.nodup_append.2 ⟨h.nd,by simp,fun a ha b uI e =>?_⟩,fun x hx =>?_,?_,fun t ht =>?_,by rw[h.tell,V5 bY hk hb],fun x =>?_,?_⟩
 ·rw[List.mem_singleton.1 uI]at e
  exact hb (e▸ha)
 ·rcases List.mem_append.1 hx with hx | hx
  ·exact h.rg x hx
  ·rw[List.mem_singleton.1 hx];exact hr
 ·have:=h.len
  rw[List.length_append]
  show out.length+(w.length+1+1)=seen.length+1
  have this:out.length+(w.length+1)=seen.length:=this
  omega
 ·rcases List.mem_cons.1 ht with rfl | ht
  ·exact⟨hr,Nat.zero_le _⟩
  ·rcases List.mem_cons.1 ht with rfl | ht
   ·exact⟨(h.wy (v,k) (List.mem_cons_self ..)).1,hk⟩
   ·exact h.wy t (List.mem_cons_of_mem _ ht)
 ·rw[List.mem_append,h.mem,List.mem_append,List.mem_append,List.mem_singleton]
  show _↔_∨x∈(nx v)[k]::v::w.map Prod.fst
  rw[List.mem_cons (a:=x)]
  exact⟨fun h'=>h'.elim (fun h'=>h'.elim .inl fun h'=>.inr (.inr h')) fun h'=>.inr (.inl h'),fun h'=>h'.elim (fun h'=>.inl (.inl h')) fun h'=>h'.elim .inr fun h'=>.inl (.inr h')⟩
 ·have hp:(out++(nx v)[k]::v::w.map Prod.fst).Perm ((nx v)[k]::(out++v::w.map Prod.fst)):=List.perm_middle
  exact hp.nodup_iff.2 (List.nodup_cons.2 ⟨fun hm=>hb ((h.mem _).2 hm),h.od⟩)
theorem ir.pop{n:Nat}{nx:Int→List Int}{F:List Int}{met:List Bool}{seen out:List Int}{v:Int}{k:Nat}{w:List (Int×Nat)}(h:ir n nx F met seen out ((v,k)::w))(hk:(nx v).length≤k):ir n nx F met seen (out++[v]) w:=by
 refine⟨h.lF,h.nd,h.rg,?_,fun t ht=>h.wy t (List.mem_cons_of_mem _ ht),by rw[h.tell,Yc hk,List.append_assoc];rfl,fun x=>by rw[h.mem,List.append_assoc];rfl,by rw[List.append_assoc];exact h.od⟩
 have:=h.len
 rw[List.length_append]
 have this:out.length+(w.length+1)=seen.length:=this
 show out.length+1+w.length=_
 omega
theorem ir.top{n:Nat}{nx:Int→List Int}{met:List Bool}{out:List Int}(hm:p7 n met out)(hn:out.Nodup)(hr:∀x∈out,0≤x∧x<(n:Int)){a:Int}(ha:0≤a∧a<(n:Int))(h:a ∉ out):ir n nx (out++fG nx (n+1) a out) (met.set a.toNat true) (out++[a]) out [(a,0)]:=by
 refine⟨hm.set ha,List.nodup_append.2 ⟨hn,by simp,fun x hx b uI e =>?_⟩,fun x hx =>?_,by rw[List.length_append];rfl,fun t ht=>by rw[List.mem_singleton.1 ht];exact⟨ha,Nat.zero_le _⟩,by rw[Yb h],fun _=>Iff.rfl,?_⟩
 ·rw[List.mem_singleton.1 uI]at e
  exact h (e▸hx)
 ·rcases List.mem_append.1 hx with hx | hx
  ·exact hr x hx
  ·rw[List.mem_singleton.1 hx];exact ha
 ·refine List.nodup_append.2 ⟨hn,by simp,fun x hx b uI e =>?_⟩
  rw[List.mem_singleton.1 (show b∈[a] from uI)]at e
  exact h (e▸hx)
theorem ir.done{n:Nat}{nx:Int→List Int}{F:List Int}{met:List Bool}{seen out:List Int}(h:ir n nx F met seen out []):F=out∧p7 n met F∧F.Nodup∧∀x∈F,0≤x∧x<(n:Int):=by
 have e:F=out:=by rw[h.tell];unfold jQ;exact List.append_nil _
 have hm:∀x,x∈seen↔x∈out:=fun x=>by have:=h.mem x;rwa [show out++List.map Prod.fst []=out from List.append_nil _]at this
 have ho:=h.od
 rw[show out++List.map Prod.fst []=out from List.append_nil _]at ho
 subst e
 exact⟨rfl,⟨h.lF.1,fun u hu=>(h.lF.2 u hu).trans (by rw[decide_eq_decide];exact hm _)⟩,ho,fun x hx=>h.rg x ((hm x).2 hx)⟩
set_option maxRecDepth 100000
set_option maxHeartbeats 8000000
theorem RS{P:Program}{TT:TypeId→Option TI}{fn:Go.Func}{a c:Go.Code}{xs:List AV}{σ:Hp}{R:AV→Hp→Prop}{S:Type}(hb:fn.body=some (.seq a (.scope c)))(eS:S→Nat)(L:S→List (Nat×AV))(H:S→Hp)(p:S→Prop)(μ:S→Nat)
  (hr:Ao (kD P TT 998) c eS L H p μ (so TT fn.results.toList R))
  (h:Ao (kD P TT 998) c eS L H p μ (so TT fn.results.toList R)→codeF P TT (kD P TT 999) (.seq a (.scope c)) (t0 xs) σ (so TT fn.results.toList R)):ub P TT fn xs σ R:=by
 have h1:kD P TT 1000 (.seq a (.scope c)) (t0 xs) σ (so TT fn.results.toList R):=h hr
 unfold ub
 rw[hb]
 exact h1
abbrev KC:=(Bool×Int×List Bool×List Int)×(List (Int×Nat)×Int×Nat)×(Nat×List AV)×(AV×Hp×List Int)
def VsP(n:Nat)(nx:Int→List Int)(F:List Int)(x:KC):Prop:=match x.1.1 with
 | true=>ir n nx F (x.1.2.2.1.set x.1.2.1.toNat true) (x.1.2.2.2++[x.1.2.1]) x.2.2.2.2.2 ((x.1.2.1,0)::(x.2.1.2.1,x.2.1.2.2)::x.2.1.1.reverse)∧x.1.2.2.1.length=n∧0≤x.1.2.1∧x.1.2.1<n
 | false=>ir n nx F x.1.2.2.1 x.1.2.2.2 x.2.2.2.2.2 ((x.2.1.2.1,x.2.1.2.2)::x.2.1.1.reverse)
def VsM(n:Nat)(nx:Int→List Int)(x:KC):Nat:=match x.1.1 with
 | true=>df nx ((x.1.2.1,0)::(x.2.1.2.1,x.2.1.2.2)::x.2.1.1.reverse)+kc nx (x.1.2.2.2++[x.1.2.1]) n+1
 | false=>df nx ((x.2.1.2.1,x.2.1.2.2)::x.2.1.1.reverse)+kc nx x.1.2.2.2 n
theorem Za(n:Nat)(l:List aV)(a:Int)(met:List Bool)(out:List Int)(bm:Nat)(vo:AV)(sF σ:Hp)(_hl:l.length≤100000)(hn:n≤1000)(ha:0≤a∧a<n)(hm:p7 n met out)(bB:out.Nodup)(JG:∀x∈out,0≤x∧x<(n:Int))(hO:Acc 1 out.length vo sF (aj out)):
  ACalls Tryz.prog 243 [.ah (.slice (.int .i64)) (bA n l),.ae bm 0 n 1,.int .i64 a,.via vo] ((bm,aY met)::(sF++σ))
   (fun r σ'=>∃o8 jz pf oY,jz=out++fG (an n l) (n+1) a out∧p7 n o8 jz∧jz.Nodup∧(∀x∈jz,0≤x∧x<(n:Int))∧Acc 1 jz.length pf oY (aj jz)∧r=pf∧σ'=(bm,aY o8)::(oY++σ)):=by
 have bY:∀x,∀y∈an n l x,0≤y∧y<(n:Int):=fun x y hy=>(j8.1 hy).1
 obtain⟨F,hF⟩:∃F,out++fG (an n l) (n+1) a out=F:=⟨_,rfl⟩
 refine okF Tryz.func243 (by kernel_rfl) ?_
 refine RS (S:=KC) rfl (fun x=>match x.1.1 with | true=>0 | false=>1)
  (fun x=>[(0,.ah (.slice (.int .i64)) (bA n l)),(1,.ae bm 0 n 1),(2,.int .i64 x.1.2.1),(3,.via x.2.2.2.1),(9,.ae x.2.2.1.1 0 (x.2.1.1.length+1) 2)])
  (fun x=>(bm,aY x.1.2.2.1)::(x.2.2.1.1,aW (x.2.1.1++[(x.2.1.2.1,x.2.1.2.2)])++x.2.2.1.2)::(x.2.2.2.2.1++σ))
  (fun x=>VsP n (an n l) F x∧Acc 1 x.2.2.2.2.2.length x.2.2.2.1 x.2.2.2.2.1 (aj x.2.2.2.2.2))
  (fun x=>VsM n (an n l) x) ?_ ?_
 ·rintro⟨⟨f,b,lv,gi⟩,⟨wy,v,k⟩,⟨bw,J⟩,⟨Bn,B8,jy⟩⟩ g ⟨hP,uN⟩
  have uN:Acc 1 jy.length Bn B8 (aj jy):=uN
  cases f with
  | true =>
   obtain⟨hV,I0,kn,ov⟩:=hP
   have hV:ir n (an n l) F (lv.set b.toNat true) (gi++[b]) jy ((b,0)::(v,k)::wy.reverse):=hV
   have I0:lv.length=n:=I0
   have kn:0≤b:=kn
   have ov:b<n:=ov
   have uA:(aW (wy++[(v,k)])).length=(wy.length+1)*2:=by rw[kq,List.length_append];rfl
   have abV:=hV.small
   rw[List.length_cons,List.length_cons,List.length_reverse]at abV
   refine ag.mk ⟨rfl,by omega,by omega⟩ ?_
   refine cd 0 rfl (vk rfl true kn (by omega)) ?_
   intro aC
   refine uY (k:=wy.length+1) (n:=1) [_,_] (.ae bw (wy.length+1) (aW (wy++[(v,k)])) J uA) (.ae 0 aC 0 1 _ rfl (Nat.le_of_ble_eq_true rfl)) rfl (by omega) (by decide) (by decide) (fun v' bh h' =>?_)
   obtain⟨mz,J2,rfl,rfl,_⟩:=h'.pos (by omega)
   have D8:(wy++[(v,k)]).reverse=(v,k)::wy.reverse:=by rw[List.reverse_append];rfl
   have om:aW (wy++[(v,k)])++[AV.int .i64 b,.int .i64 ((0:Nat):Int)]++J2=aW ((wy++[(v,k)])++[(b,0)])++J2:=by rw[mC (wy++[(v,k)]) [(b,0)]];rfl
   have qS:(wy++[(v,k)]).length=wy.length+1:=by rw[List.length_append];rfl
   rw[← D8]at hV
   have ug:=hV.wy (b,0) (List.mem_cons_self ..)
   have cm:0≤b∧b<(n:Int):=ug.1
   have yF:0≤(an n l b).length:=ug.2
   have kl:=u0 n l b
   have oo:=hV.small
   rw[List.length_cons,List.length_reverse,qS]at oo
   have uF:((lv.set b.toNat true)).length=n:=hV.lF.1
   have lC:IntKind.i64.wrap ((((wy.length+1)+1:Nat):Int)-1)=(((wy.length+1):Nat):Int):=by rw[ck (by omega)];omega
   have hX:0+(IntKind.i64.wrap ((((wy.length+1)+1:Nat):Int)-1)).toNat*2=((wy++[(v,k)])).length*2:=by rw[lC,qS];omega
   have kN:cY ⟨.int .i64,1,8,[.int .i64 0]⟩ (aW (wy++[(v,k)])++[AV.int .i64 b,.int .i64 ((0:Nat):Int)]++J2) (0+(IntKind.i64.wrap ((((wy.length+1)+1:Nat):Int)-1)).toNat*2+0)=some (.int .i64 b):=by rw[om];exact gN rfl (by rw[hX];exact pE rfl)
   have jX:cY ⟨.int .i64,1,8,[.int .i64 0]⟩ (aW (wy++[(v,k)])++[AV.int .i64 b,.int .i64 ((0:Nat):Int)]++J2) (0+(IntKind.i64.wrap ((((wy.length+1)+1:Nat):Int)-1)).toNat*2+1)=some (.int .i64 ((0:Nat):Int)):=by rw[om];exact gN rfl (by rw[hX];exact zg rfl)
   have dw:(aW ((wy++[(v,k)])++[(b,0)])++J2).length=((wy++[(v,k)])).length*2+2+(J2:List AV).length:=by rw[List.length_append,kq,List.length_append];show (_+1)*2+_=_;omega
   have lN:IntKind.i64.wrap (((0:Nat):Int)+1)=((0+1:Nat):Int):=by rw[ck (by omega)];omega
   have sR:jq ⟨.int .i64,1,8,[.int .i64 0]⟩ (aW (wy++[(v,k)])++[AV.int .i64 b,.int .i64 ((0:Nat):Int)]++J2) (0+(IntKind.i64.wrap ((((wy.length+1)+1:Nat):Int)-1)).toNat*2+1) (.int .i64 (IntKind.i64.wrap (((0:Nat):Int)+1)))=some (aW ((wy++[(v,k)])++[(b,0+1)])++J2):=by
    rw[om,sa rfl rfl (by rw[hX,dw];omega),hX,lN,zu rfl]
   have sm:2=2∧0≤IntKind.i64.wrap ((((wy.length+1)+1:Nat):Int)-1)∧IntKind.i64.wrap ((((wy.length+1)+1:Nat):Int)-1)<(((wy.length+1)+1:Nat):Int):=⟨rfl,by omega,by omega⟩
   refine ag.mk sm ?_
   refine .quiet (by kernel_rfl) ?_
   refine aL 2 rfl jX ?_
   refine aL 2 rfl kN ?_
   refine ag.mk rfl ?_
   refine bH.mk (an n l b) (by omega) (mK cm) ?_
   refine ao (p:=((0:Nat):Int)<(an n l b).length) (fun ab =>?_) (fun au =>?_)
   ·have ab:0<(an n l b).length:=by omega
    obtain⟨z,hz⟩:∃z,(an n l b)[0]=z:=⟨_,rfl⟩
    have BA:z∈an n l b:=hz▸List.getElem_mem ab
    have fK:=(j8.1 BA).1
    refine .quiet (by kernel_rfl) ?_
    refine aL 2 rfl kN ?_
    refine ag.mk rfl ?_
    refine bH.mk (an n l b) (by omega) (mK cm) ?_
    refine aL 2 rfl jX ?_
    refine ag.mk rfl ?_
    refine bH.mk z (by omega) ((get_some ab).trans (congrArg some hz)) ?_
    refine aL 2 rfl jX ?_
    refine cd 2 rfl sR ?_
    refine ag.mk ⟨rfl,by omega,by omega⟩ ?_
    refine dJ.iZ 1 _ _ rfl (qE rfl fK.1 (by rw[uF];omega)) (fun c2 =>?_) (fun c2 =>?_)
    ·have gU:z∈(gi++[b]):=by rw[hV.lF.at_ fK]at c2;exact of_decide_eq_true c2
     have hS:=hV.skip ab (by rw[hz];exact gU)
     have jf:df (an n l) ((b,0+1)::((wy++[(v,k)])).reverse)+1=df (an n l) ((b,0)::((wy++[(v,k)])).reverse):=by show df (an n l) ((wy++[(v,k)])).reverse+((an n l b).length-(0+1))+1+1=df (an n l) ((wy++[(v,k)])).reverse+((an n l b).length-0)+1;omega
     exact .mk ((false,z,(lv.set b.toNat true),(gi++[b])),((wy++[(v,k)]),b,0+1),(mz,J2),(Bn,B8,jy)) rfl (by show df (an n l) ((b,0+1)::((wy++[(v,k)])).reverse)+kc (an n l) ((gi++[b])) n<_;(show _<df (an n l) ((b,0)::(v,k)::wy.reverse)+kc (an n l) (gi++[b]) n+1);rw[← D8];omega) ⟨hS,uN⟩ ⟨rfl,rfl,rfl,rfl,by rw[qS];rfl,trivial⟩ (.drop 0 1 (.refl _))
    ·have gU:z ∉ (gi++[b]):=by rw[hV.lF.at_ fK]at c2;exact of_decide_eq_false c2
     have hS:=hV.push bY ab (by rw[hz];exact gU)
     rw[hz]at hS
     have jf:df (an n l) ((z,0)::(b,0+1)::((wy++[(v,k)])).reverse)=df (an n l) ((b,0)::((wy++[(v,k)])).reverse)+(an n l z).length:=by show df (an n l) ((wy++[(v,k)])).reverse+((an n l b).length-(0+1))+1+((an n l z).length-0)+1=df (an n l) ((wy++[(v,k)])).reverse+((an n l b).length-0)+1+(an n l z).length;omega
     have mw:=Ct (nx:=an n l) (seen:=(gi++[b])) (b:=z.toNat) (by rw[Int.toNat_of_nonneg fK.1];exact gU) n
     rw[if_pos (by omega),Int.toNat_of_nonneg fK.1]at mw
     exact .mk ((true,z,(lv.set b.toNat true),(gi++[b])),((wy++[(v,k)]),b,0+1),(mz,J2),(Bn,B8,jy)) rfl (by show df (an n l) ((z,0)::(b,0+1)::((wy++[(v,k)])).reverse)+kc (an n l) (((gi++[b]))++[z]) n+1<_;(show _<df (an n l) ((b,0)::(v,k)::wy.reverse)+kc (an n l) (gi++[b]) n+1);rw[← D8];omega) ⟨⟨hS,uF,fK.1,fK.2⟩,uN⟩ ⟨rfl,rfl,rfl,rfl,by rw[qS];rfl,trivial⟩ (.drop 0 1 (.refl _))
   ·have au:(an n l b).length≤0:=by omega
    have hS:=hV.pop au
    refine aL 2 rfl kN ?_
    intro bs
    refine kr (k:=(jy).length) (n:=1) [_,_,_,_] uN (.ae 0 bs 0 1 _ rfl (Nat.le_of_ble_eq_true rfl)) rfl (by omega) (by decide) (by decide) (fun ob kS uM =>?_)
    have uL:Acc 1 ((jy)++[b]).length ob kS (aj ((jy)++[b])):=by
     rw[List.length_append,show aj ((jy)++[b])=aj (jy)++[.int .i64 b] by simp[aj]];exact uM
    have nQ:(IntKind.i64.wrap ((((wy.length+1)+1:Nat):Int)-1)).toNat-Int.toNat 0=(wy.length+1):=by rw[lC];omega
    have bV:0≤(0:Int)∧(0:Int)≤IntKind.i64.wrap ((((wy.length+1)+1:Nat):Int)-1)∧IntKind.i64.wrap ((((wy.length+1)+1:Nat):Int)-1)≤(((wy.length+1)+1:Nat):Int)∧2=2:=⟨by omega,by omega,by omega,rfl⟩
    refine ag.mk bV ?_
    have gC:(IntKind.i64.wrap ((((wy.length+1)+1:Nat):Int)-1)).toNat-Int.toNat 0=(wy).length+1:=nQ.trans (rfl)
    have iS:AV.ae mz (0+Int.toNat 0*2) ((IntKind.i64.wrap ((((wy.length+1)+1:Nat):Int)-1)).toNat-Int.toNat 0) 2=.ae mz 0 ((wy).length+1) 2:=by rw[gC];rfl
    have ma:aW (wy++[(v,k)])++[AV.int .i64 b,.int .i64 ((0:Nat):Int)]++J2=aW (wy++[(v,k)])++([.int .i64 b,.int .i64 ((0:Nat):Int)]++J2):=by rw[om,mC,List.append_assoc];rfl
    rw[D8]at hS
    refine ao (p:=(0:Int)<(((IntKind.i64.wrap ((((wy.length+1)+1:Nat):Int)-1)).toNat-Int.toNat 0:Nat):Int)) (fun c3 =>?_) (fun c3 =>?_)
    rotate_left
    ·rw[gC]at c3;omega
    have jf:df (an n l) ((v,k)::(wy).reverse)+1≤df (an n l) ((b,0)::(v,k)::(wy).reverse):=by show _≤df (an n l) ((v,k)::(wy).reverse)+((an n l b).length-0)+1;omega
    have hE:(bm,aY (lv.set b.toNat true))::(mz,aW (wy++[(v,k)])++[AV.int .i64 b,.int .i64 ((0:Nat):Int)]++J2)::(kS++σ)=(bm,aY (lv.set b.toNat true))::(mz,aW (wy++[(v,k)])++([.int .i64 b,.int .i64 ((0:Nat):Int)]++J2))::(kS++σ):=by rw[ma]
    exact .mk ((false,b,(lv.set b.toNat true),(gi++[b])),(wy,v,k),(mz,[AV.int .i64 b,.int .i64 ((0:Nat):Int)]++J2),(ob,kS,(jy)++[b])) rfl (by show df (an n l) ((v,k)::(wy).reverse)+kc (an n l) ((gi++[b])) n<_;(show _<df (an n l) ((b,0)::(v,k)::wy.reverse)+kc (an n l) (gi++[b]) n+1);omega) ⟨hS,uL⟩ ⟨rfl,rfl,rfl,rfl,iS,trivial⟩ (.drop 0 2 (aF hE))
  | false =>
   have hV:ir n (an n l) F lv gi jy ((v,k)::wy.reverse):=hP
   have qS:wy.length=wy.length:=rfl
   have om:aW (wy++[(v,k)])++J=aW (wy++[(v,k)])++J:=rfl
   have ug:=hV.wy (v,k) (List.mem_cons_self ..)
   have cm:0≤v∧v<(n:Int):=ug.1
   have yF:k≤(an n l v).length:=ug.2
   have kl:=u0 n l v
   have oo:=hV.small
   rw[List.length_cons,List.length_reverse,qS]at oo
   have uF:(lv).length=n:=hV.lF.1
   have lC:IntKind.i64.wrap (((wy.length+1:Nat):Int)-1)=((wy.length:Nat):Int):=by rw[ck (by omega)];omega
   have hX:0+(IntKind.i64.wrap (((wy.length+1:Nat):Int)-1)).toNat*2=(wy).length*2:=by rw[lC,qS];omega
   have kN:cY ⟨.int .i64,1,8,[.int .i64 0]⟩ (aW (wy++[(v,k)])++J) (0+(IntKind.i64.wrap (((wy.length+1:Nat):Int)-1)).toNat*2+0)=some (.int .i64 v):=by rw[om];exact gN rfl (by rw[hX];exact pE rfl)
   have jX:cY ⟨.int .i64,1,8,[.int .i64 0]⟩ (aW (wy++[(v,k)])++J) (0+(IntKind.i64.wrap (((wy.length+1:Nat):Int)-1)).toNat*2+1)=some (.int .i64 ((k:Nat):Int)):=by rw[om];exact gN rfl (by rw[hX];exact zg rfl)
   have dw:(aW (wy++[(v,k)])++J).length=(wy).length*2+2+(J:List AV).length:=by rw[List.length_append,kq,List.length_append];show (_+1)*2+_=_;omega
   have lN:IntKind.i64.wrap (((k:Nat):Int)+1)=((k+1:Nat):Int):=by rw[ck (by omega)];omega
   have sR:jq ⟨.int .i64,1,8,[.int .i64 0]⟩ (aW (wy++[(v,k)])++J) (0+(IntKind.i64.wrap (((wy.length+1:Nat):Int)-1)).toNat*2+1) (.int .i64 (IntKind.i64.wrap (((k:Nat):Int)+1)))=some (aW (wy++[(v,k+1)])++J):=by
    rw[om,sa rfl rfl (by rw[hX,dw];omega),hX,lN,zu rfl]
   have sm:2=2∧0≤IntKind.i64.wrap (((wy.length+1:Nat):Int)-1)∧IntKind.i64.wrap (((wy.length+1:Nat):Int)-1)<((wy.length+1:Nat):Int):=⟨rfl,by omega,by omega⟩
   refine ag.mk sm ?_
   refine .quiet (by kernel_rfl) ?_
   refine aL 1 rfl jX ?_
   refine aL 1 rfl kN ?_
   refine ag.mk rfl ?_
   refine bH.mk (an n l v) (by omega) (mK cm) ?_
   refine ao (p:=((k:Nat):Int)<(an n l v).length) (fun ab =>?_) (fun au =>?_)
   ·have ab:k<(an n l v).length:=by omega
    obtain⟨z,hz⟩:∃z,(an n l v)[k]=z:=⟨_,rfl⟩
    have BA:z∈an n l v:=hz▸List.getElem_mem ab
    have fK:=(j8.1 BA).1
    refine .quiet (by kernel_rfl) ?_
    refine aL 1 rfl kN ?_
    refine ag.mk rfl ?_
    refine bH.mk (an n l v) (by omega) (mK cm) ?_
    refine aL 1 rfl jX ?_
    refine ag.mk rfl ?_
    refine bH.mk z (by omega) ((get_some ab).trans (congrArg some hz)) ?_
    refine aL 1 rfl jX ?_
    refine cd 1 rfl sR ?_
    refine ag.mk ⟨rfl,by omega,by omega⟩ ?_
    refine dJ.iZ 0 _ _ rfl (qE rfl fK.1 (by rw[uF];omega)) (fun c2 =>?_) (fun c2 =>?_)
    ·have gU:z∈gi:=by rw[hV.lF.at_ fK]at c2;exact of_decide_eq_true c2
     have hS:=hV.skip ab (by rw[hz];exact gU)
     have jf:df (an n l) ((v,k+1)::(wy).reverse)+1=df (an n l) ((v,k)::(wy).reverse):=by show df (an n l) (wy).reverse+((an n l v).length-(k+1))+1+1=df (an n l) (wy).reverse+((an n l v).length-k)+1;omega
     exact .mk ((false,z,lv,gi),(wy,v,k+1),(bw,J),(Bn,B8,jy)) rfl (by show df (an n l) ((v,k+1)::(wy).reverse)+kc (an n l) (gi) n<_;(show _<df (an n l) ((v,k)::wy.reverse)+kc (an n l) gi n);omega) ⟨hS,uN⟩ ⟨rfl,rfl,rfl,rfl,rfl,trivial⟩ (.refl _)
    ·have gU:z ∉ gi:=by rw[hV.lF.at_ fK]at c2;exact of_decide_eq_false c2
     have hS:=hV.push bY ab (by rw[hz];exact gU)
     rw[hz]at hS
     have jf:df (an n l) ((z,0)::(v,k+1)::(wy).reverse)=df (an n l) ((v,k)::(wy).reverse)+(an n l z).length:=by show df (an n l) (wy).reverse+((an n l v).length-(k+1))+1+((an n l z).length-0)+1=df (an n l) (wy).reverse+((an n l v).length-k)+1+(an n l z).length;omega
     have mw:=Ct (nx:=an n l) (seen:=gi) (b:=z.toNat) (by rw[Int.toNat_of_nonneg fK.1];exact gU) n
     rw[if_pos (by omega),Int.toNat_of_nonneg fK.1]at mw
     exact .mk ((true,z,lv,gi),(wy,v,k+1),(bw,J),(Bn,B8,jy)) rfl (by show df (an n l) ((z,0)::(v,k+1)::(wy).reverse)+kc (an n l) ((gi)++[z]) n+1<_;(show _<df (an n l) ((v,k)::wy.reverse)+kc (an n l) gi n);omega) ⟨⟨hS,uF,fK.1,fK.2⟩,uN⟩ ⟨rfl,rfl,rfl,rfl,rfl,trivial⟩ (.refl _)
   ·have au:(an n l v).length≤k:=by omega
    have hS:=hV.pop au
    refine aL 1 rfl kN ?_
    intro bs
    refine kr (k:=(jy).length) (n:=1) [_,_,_] uN (.ae 0 bs 0 1 _ rfl (Nat.le_of_ble_eq_true rfl)) rfl (by omega) (by decide) (by decide) (fun ob kS uM =>?_)
    have uL:Acc 1 ((jy)++[v]).length ob kS (aj ((jy)++[v])):=by
     rw[List.length_append,show aj ((jy)++[v])=aj (jy)++[.int .i64 v] by simp[aj]];exact uM
    have nQ:(IntKind.i64.wrap (((wy.length+1:Nat):Int)-1)).toNat-Int.toNat 0=wy.length:=by rw[lC];omega
    have bV:0≤(0:Int)∧(0:Int)≤IntKind.i64.wrap (((wy.length+1:Nat):Int)-1)∧IntKind.i64.wrap (((wy.length+1:Nat):Int)-1)≤((wy.length+1:Nat):Int)∧2=2:=⟨by omega,by omega,by omega,rfl⟩
    refine ag.mk bV ?_
    rcases List.eq_nil_or_concat wy with uB | ⟨w',⟨u,i⟩,uB⟩
    ·rw[show wy.reverse=[] by rw[uB];rfl]at hS
     refine ao (p:=(0:Int)<(((IntKind.i64.wrap (((wy.length+1:Nat):Int)-1)).toNat-Int.toNat 0:Nat):Int)) (fun c3 =>?_) (fun c3 =>?_)
     ·rw[nQ]at c3;exact absurd c3 (by rw[uB];decide)
     ·obtain⟨e1,e2,e3,e4⟩:=ir.done hS
      rw[← e1]at uL
      exact .drop 0 1 (.drop 1 1 (.done ⟨lv,F,ob,kS,hF.symm,e2,e3,e4,uL,rfl,rfl⟩))
    ·have uB:wy=w'++[(u,i)]:=by simpa using uB
     have QP:(wy).reverse=(u,i)::w'.reverse:=by rw[uB,List.reverse_append];rfl
     have gC:(IntKind.i64.wrap (((wy.length+1:Nat):Int)-1)).toNat-Int.toNat 0=(w').length+1:=nQ.trans (by rw[uB,List.length_append];rfl)
     have iS:AV.ae bw (0+Int.toNat 0*2) ((IntKind.i64.wrap (((wy.length+1:Nat):Int)-1)).toNat-Int.toNat 0) 2=.ae bw 0 ((w').length+1) 2:=by rw[gC];rfl
     have ma:aW (wy++[(v,k)])++J=aW (w'++[(u,i)])++([.int .i64 v,.int .i64 ((k:Nat):Int)]++J):=by rw[om,uB,mC,List.append_assoc];rfl
     rw[QP]at hS
     refine ao (p:=(0:Int)<(((IntKind.i64.wrap (((wy.length+1:Nat):Int)-1)).toNat-Int.toNat 0:Nat):Int)) (fun c3 =>?_) (fun c3 =>?_)
     rotate_left
     ·rw[gC]at c3;omega
     have jf:df (an n l) ((u,i)::(w').reverse)+1≤df (an n l) ((v,k)::(wy).reverse):=by rw[← QP];show _≤df (an n l) (wy).reverse+((an n l v).length-k)+1;omega
     have hE:(bm,aY lv)::(bw,aW (wy++[(v,k)])++J)::(kS++σ)=(bm,aY lv)::(bw,aW (w'++[(u,i)])++([.int .i64 v,.int .i64 ((k:Nat):Int)]++J))::(kS++σ):=by rw[ma]
     exact .mk ((false,b,lv,gi),(w',u,i),(bw,[AV.int .i64 v,.int .i64 ((k:Nat):Int)]++J),(ob,kS,(jy)++[v])) rfl (by show df (an n l) ((u,i)::(w').reverse)+kc (an n l) (gi) n<_;(show _<df (an n l) ((v,k)::wy.reverse)+kc (an n l) gi n);omega) ⟨hS,uL⟩ ⟨rfl,rfl,rfl,rfl,iS,trivial⟩ (.drop 0 1 (aF hE))
 ·intro hr
  have I0:=hm.1
  refine ag.mk ⟨rfl,by omega,by omega⟩ ?_
  refine dJ.iZ 0 _ _ rfl (qE rfl ha.1 (by omega)) (fun c1 =>?_) (fun c1 =>?_)
  ·have de:a∈out:=by rw[hm.at_ ha]at c1;exact of_decide_eq_true c1
   have pr:fG (an n l) (n+1) a out=[]:=by unfold fG;rw[if_pos de]
   rw[pr,List.append_nil]at hF
   exact .done ⟨met,out,vo,sF,by rw[pr,List.append_nil],hm,bB,JG,hO,rfl,rfl⟩
  ·have de:a ∉ out:=by rw[hm.at_ ha]at c1;exact of_decide_eq_false c1
   have hV:=ir.top (nx:=an n l) hm bB JG ha de
   rw[hF]at hV
   refine ag.mk ⟨rfl,by omega,by omega⟩ ?_
   refine cd 0 rfl (vk rfl true ha.1 (by omega)) ?_
   intro aC
   refine uY (k:=0) (n:=1) [_,_] (acc:=[]) .nil (.ae 0 aC 0 1 _ rfl (Nat.le_of_ble_eq_true rfl)) rfl (by omega) (by decide) (by decide) (fun v' bh h' =>?_)
   obtain⟨bw,J,rfl,rfl,_⟩:=h'.pos (by omega)
   have om:[]++[AV.int .i64 a,.int .i64 ((0:Nat):Int)]++J=aW (([]:List (Int×Nat))++[(a,0)])++J:=rfl
   have qS:([]:List (Int×Nat)).length=0:=rfl
   have hV:ir n (an n l) F (met.set a.toNat true) (out++[a]) out ((a,0)::([]:List (Int×Nat)).reverse):=hV
   have ug:=hV.wy (a,0) (List.mem_cons_self ..)
   have cm:0≤a∧a<(n:Int):=ug.1
   have yF:0≤(an n l a).length:=ug.2
   have kl:=u0 n l a
   have oo:=hV.small
   rw[List.length_cons,List.length_reverse,qS]at oo
   have uF:((met.set a.toNat true)).length=n:=hV.lF.1
   have lC:IntKind.i64.wrap (((0+1:Nat):Int)-1)=((0:Nat):Int):=by rw[ck (by omega)];omega
   have hX:0+(IntKind.i64.wrap (((0+1:Nat):Int)-1)).toNat*2=(([]:List (Int×Nat))).length*2:=by rw[lC,qS];omega
   have kN:cY ⟨.int .i64,1,8,[.int .i64 0]⟩ ([]++[AV.int .i64 a,.int .i64 ((0:Nat):Int)]++J) (0+(IntKind.i64.wrap (((0+1:Nat):Int)-1)).toNat*2+0)=some (.int .i64 a):=by rw[om];exact gN rfl (by rw[hX];exact pE rfl)
   have jX:cY ⟨.int .i64,1,8,[.int .i64 0]⟩ ([]++[AV.int .i64 a,.int .i64 ((0:Nat):Int)]++J) (0+(IntKind.i64.wrap (((0+1:Nat):Int)-1)).toNat*2+1)=some (.int .i64 ((0:Nat):Int)):=by rw[om];exact gN rfl (by rw[hX];exact zg rfl)
   have dw:(aW (([]:List (Int×Nat))++[(a,0)])++J).length=(([]:List (Int×Nat))).length*2+2+(J:List AV).length:=by rw[List.length_append,kq,List.length_append];show (_+1)*2+_=_;omega
   have lN:IntKind.i64.wrap (((0:Nat):Int)+1)=((0+1:Nat):Int):=by rw[ck (by omega)];omega
   have sR:jq ⟨.int .i64,1,8,[.int .i64 0]⟩ ([]++[AV.int .i64 a,.int .i64 ((0:Nat):Int)]++J) (0+(IntKind.i64.wrap (((0+1:Nat):Int)-1)).toNat*2+1) (.int .i64 (IntKind.i64.wrap (((0:Nat):Int)+1)))=some (aW (([]:List (Int×Nat))++[(a,0+1)])++J):=by
    rw[om,sa rfl rfl (by rw[hX,dw];omega),hX,lN,zu rfl]
   have sm:2=2∧0≤IntKind.i64.wrap (((0+1:Nat):Int)-1)∧IntKind.i64.wrap (((0+1:Nat):Int)-1)<((0+1:Nat):Int):=⟨rfl,by omega,by omega⟩
   refine ag.mk sm ?_
   refine .quiet (by kernel_rfl) ?_
   refine aL 2 rfl jX ?_
   refine aL 2 rfl kN ?_
   refine ag.mk rfl ?_
   refine bH.mk (an n l a) (by omega) (mK cm) ?_
   refine ao (p:=((0:Nat):Int)<(an n l a).length) (fun ab =>?_) (fun au =>?_)
   ·have ab:0<(an n l a).length:=by omega
    obtain⟨z,hz⟩:∃z,(an n l a)[0]=z:=⟨_,rfl⟩
    have BA:z∈an n l a:=hz▸List.getElem_mem ab
    have fK:=(j8.1 BA).1
    refine .quiet (by kernel_rfl) ?_
    refine aL 2 rfl kN ?_
    refine ag.mk rfl ?_
    refine bH.mk (an n l a) (by omega) (mK cm) ?_
    refine aL 2 rfl jX ?_
    refine ag.mk rfl ?_
    refine bH.mk z (by omega) ((get_some ab).trans (congrArg some hz)) ?_
    refine aL 2 rfl jX ?_
    refine cd 2 rfl sR ?_
    refine ag.mk ⟨rfl,by omega,by omega⟩ ?_
    refine dJ.iZ 1 _ _ rfl (qE rfl fK.1 (by rw[uF];omega)) (fun c2 =>?_) (fun c2 =>?_)
    ·have gU:z∈(out++[a]):=by rw[hV.lF.at_ fK]at c2;exact of_decide_eq_true c2
     have hS:=hV.skip ab (by rw[hz];exact gU)
     have jf:df (an n l) ((a,0+1)::(([]:List (Int×Nat))).reverse)+1=df (an n l) ((a,0)::(([]:List (Int×Nat))).reverse):=by show df (an n l) (([]:List (Int×Nat))).reverse+((an n l a).length-(0+1))+1+1=df (an n l) (([]:List (Int×Nat))).reverse+((an n l a).length-0)+1;omega
     exact tk hr ((false,z,(met.set a.toNat true),(out++[a])),(([]:List (Int×Nat)),a,0+1),(bw,J),(vo,sF,out)) ⟨rfl,⟨hS,hO⟩,⟨rfl,rfl,rfl,rfl,rfl,trivial⟩,(.drop 0 1 (.refl _))⟩
    ·have gU:z ∉ (out++[a]):=by rw[hV.lF.at_ fK]at c2;exact of_decide_eq_false c2
     have hS:=hV.push bY ab (by rw[hz];exact gU)
     rw[hz]at hS
     have jf:df (an n l) ((z,0)::(a,0+1)::(([]:List (Int×Nat))).reverse)=df (an n l) ((a,0)::(([]:List (Int×Nat))).reverse)+(an n l z).length:=by show df (an n l) (([]:List (Int×Nat))).reverse+((an n l a).length-(0+1))+1+((an n l z).length-0)+1=df (an n l) (([]:List (Int×Nat))).reverse+((an n l a).length-0)+1+(an n l z).length;omega
     have mw:=Ct (nx:=an n l) (seen:=(out++[a])) (b:=z.toNat) (by rw[Int.toNat_of_nonneg fK.1];exact gU) n
     rw[if_pos (by omega),Int.toNat_of_nonneg fK.1]at mw
     exact tk hr ((true,z,(met.set a.toNat true),(out++[a])),(([]:List (Int×Nat)),a,0+1),(bw,J),(vo,sF,out)) ⟨rfl,⟨⟨hS,uF,fK.1,fK.2⟩,hO⟩,⟨rfl,rfl,rfl,rfl,rfl,trivial⟩,(.drop 0 1 (.refl _))⟩
   ·have au:(an n l a).length≤0:=by omega
    have hS:=hV.pop au
    refine aL 2 rfl kN ?_
    intro bs
    refine kr (k:=(out).length) (n:=1) [_,_,_,_] hO (.ae 0 bs 0 1 _ rfl (Nat.le_of_ble_eq_true rfl)) rfl (by omega) (by decide) (by decide) (fun ob kS uM =>?_)
    have uL:Acc 1 ((out)++[a]).length ob kS (aj ((out)++[a])):=by
     rw[List.length_append,show aj ((out)++[a])=aj (out)++[.int .i64 a] by simp[aj]];exact uM
    have nQ:(IntKind.i64.wrap (((0+1:Nat):Int)-1)).toNat-Int.toNat 0=0:=by rw[lC];omega
    have bV:0≤(0:Int)∧(0:Int)≤IntKind.i64.wrap (((0+1:Nat):Int)-1)∧IntKind.i64.wrap (((0+1:Nat):Int)-1)≤((0+1:Nat):Int)∧2=2:=⟨by omega,by omega,by omega,rfl⟩
    refine ag.mk bV ?_
    obtain⟨e1,e2,e3,e4⟩:=ir.done hS
    rw[← e1]at uL
    exact .drop 0 2 (.drop 1 1 (.done ⟨(met.set a.toNat true),F,ob,kS,hF.symm,e2,e3,e4,uL,rfl,rfl⟩))
end Go.Proofs.YtnpidbjdilnhlaaGreat
