import Derived.Test.YtnikdflhefijbaaGreatBs15
import Derived.Test.YtnikdflhefijbaaGreatBs8
import Derived.Test.YtnikdflhefijbaaGreatBs11
import Derived.Test.YtnikdflhefijbaaGreatBs12
namespace Go.Proofs.YtnikdflhefijbaaGreat
open Go.RowKit
set_option maxRecDepth 100000
theorem mc{w:List Int}{i j:Nat}{x:Int}:(w.set i x).getD j 0=if i=j∧j<w.length then x else w.getD j 0:=by
 simp only[bK,gQ]
 by_cases h:i=j
 ·subst h
  by_cases h2:i<w.length
  ·simp[h2]
  ·simp[h2]
 ·simp[h]
def gI(ix:List Int)(x:Int):Int:=if 0≤x then ix.getD x.toNat 0 else 0
theorem lP{ix:List Int}{x:Int}(h:0≤x):gI ix x=ix.getD x.toNat 0:=az h
theorem zK{ix:List Int}{b v:Int}(h0:0≤b)(h1:b<ix.length):gI (ix.set b.toNat v)=oT (gI ix) b v:=by
 funext y
 show (if 0≤y then (ix.set b.toNat v).getD y.toNat 0 else 0)=if y=b then v else if 0≤y then ix.getD y.toNat 0 else 0
 by_cases hy:0≤y
 ·rw[az hy,bK,gQ]
  by_cases e:y=b
  ·subst e;rw[az rfl,az (by omega),az rfl];rfl
  ·rw[aB (by omega),aB e,az hy,bK]
 ·rw[aB hy,aB (by omega),aB hy]
theorem acf(n:Nat)(x:Int):gI (List.replicate n 0) x=0:=by
 unfold gI;split
 ·rw[bK,xA];split <;> rfl
 ·rfl
structure FI(n:Nat)(nx:Int→List Int)(ix lo:List Int)(on:List Bool)(st:List Int)(aR:Nat)(P:List (List Int))(gL:List (Int×Nat)):Prop where
 tj:TJ n nx (gI ix) (gI lo) st aR P (gL.map (·.1))
 uX:Prc nx (gI ix) (gI lo) st gL
 li:ix.length=n
 ll:lo.length=n
 ko:on.length=n
 uZ:∀a:Int,0≤a→a<n→on.getD a.toNat false=decide (a∈st)
 tn:∀t∈gL,t.2≤(nx t.1).length
theorem R6{on:List Bool}{b:Int}{x:Bool}(hb:0≤b)(hl:b<on.length){a:Int}(ha:0≤a):(on.set b.toNat x).getD a.toNat false=if a=b then x else on.getD a.toNat false:=by
 rw[bK,gQ,bK]
 by_cases e:a=b
 ·subst e;rw[az rfl,az (by omega),az rfl];rfl
 ·rw[aB (by omega),aB e]
theorem FI.start(n:Nat)(nx:Int→List Int):FI n nx (List.replicate n 0) (List.replicate n 0) (List.replicate n false) [] 0 [] []:=
 ⟨.start (acf n),fun _ h=>(by cases h),gh,gh,gh,fun a _ _=>by
  rw[List.getD_eq_getElem?_getD,List.getElem?_replicate];split <;> simp,fun _ h=>(by cases h)⟩
variable {n:Nat} {nx:Int→List Int} {ix lo:List Int} {on:List Bool} {st:List Int} {aR:Nat} {P:List (List Int)}
theorem FI.enter{gL way2:List (Int×Nat)}{b:Int}(h:FI n nx ix lo on st aR P gL)(hb:0≤b∧b<n)(hf:ix.getD b.toNat 0=0)(hW:∀v∈gL.map (·.1),Rx nx v b)(vj:way2.map (·.1)=gL.map (·.1))(hp:∀t∈way2,∀y∈(nx t.1).take t.2,y=b∨(gI ix y≠0∧(y∈st→gI lo t.1≤gI ix y)))(ht:∀t∈way2,t.2≤(nx t.1).length):
  FI n nx (ix.set b.toNat ((aR+1:Nat):Int)) (lo.set b.toNat ((aR+1:Nat):Int)) (on.set b.toNat true) (st++[b]) (aR+1) P (way2++[(b,0)]):=by
 have hf:gI ix b=0:=by rw[lP hb.1];exact hf
 have gZ:b ∉ st:=fun hm=>by have:=h.tj.si b hm;omega
 have h1:=h.tj.enter hb hf hW;refine⟨?_,?_,by rw[dY];exact h.li,by rw[dY];exact h.ll,by rw[dY];exact h.ko,fun a h0 hn=>?_,fun t ob=>?_⟩
 ·rw[zK hb.1 (by rw[h.li];exact hb.2),zK hb.1 (by rw[h.ll];exact hb.2),cE,vj];exact h1
 ·rw[zK hb.1 (by rw[h.li];exact hb.2),zK hb.1 (by rw[h.ll];exact hb.2)];intro t ob y hy
  rcases bQ.1 ob with ob | ob
  ·have htW:t.1∈gL.map (·.1):=vj▸MZ ob;have hts:t.1∈st:=h.tj.sub.subset htW;have htb:t.1≠b:=fun e=>gZ (e▸hts);rw[pE (f:=gI lo) htb];have hle:=(h.tj.low t.1 htW).1;have Mc:=(h.tj.si t.1 hts).2
   by_cases e:y=b
   ·subst e;rw[pF];exact⟨by omega,fun _=>by omega⟩
   ·rw[pE e];obtain⟨h2,h3⟩:=(hp t ob y hy).resolve_left e;exact⟨h2,fun hm=>h3 ((bQ.1 hm).resolve_right fun hm=>e (bj.1 hm))⟩
  ·rw[bj.1 ob]at hy;simp at hy
 ·rw[R6 hb.1 (by rw[h.ko];exact hb.2) h0]
  by_cases e:a=b
  ·subst e;rw[if_pos rfl];simp
  ·rw[if_neg e,h.uZ a h0 hn];simp[e]
 ·rcases bQ.1 ob with ob | ob
  ·exact ht t ob
  ·rw[bj.1 ob];exact aV _
theorem IU{l:List Int}{k:Nat}(h:k<l.length){b:Int}(hb:l[k]=b):l.take (k+1)=l.take k++[b]:=by rw[eM h,hb]
theorem Jx{w:List (Int×Nat)}{a:Int}{k j:Nat}:(w++[(a,k)]).map (·.1)=(w++[(a,j)]).map (·.1):=by rw[cE,cE];rfl
theorem FI.new{w:List (Int×Nat)}{a b:Int}{k:Nat}(h:FI n nx ix lo on st aR P (w++[(a,k)]))(hk:k<(nx a).length)(hb:(nx a)[k]=b)(dV:0≤b∧b<n)(hf:ix.getD b.toNat 0=0):
  FI n nx (ix.set b.toNat ((aR+1:Nat):Int)) (lo.set b.toNat ((aR+1:Nat):Int)) (on.set b.toNat true) (st++[b]) (aR+1) P ((w++[(a,k+1)])++[(b,0)]):=by
 have Mw:b∈nx a:=hb▸bU hk;have My:a∈(w++[(a,k)]).map (·.1):=eW.2 ⟨(a,k),iK _ (bj.2 rfl),rfl⟩;have lU:=h.tj.sub
 have sa:∀v∈w.map (·.1),gI ix v<gI ix a:=by
  refine BE h.tj.inc ?_;rw[cE]at lU;exact lU
 refine h.enter dV hf (fun v hv=>?_) Jx (fun t ht y hy=>?_) fun t ht=>?_
 ·refine (h.tj.yB v hv a (lU.subset My) ?_).trans (.one Mw);rw[cE]at hv
  rcases bQ.1 hv with hv | hv
  ·have:=sa v hv;omega
  ·rw[bj.1 hv];exact kU _
 ·rcases bQ.1 ht with ht | ht
  ·exact .inr (h.uX t (gg _ ht) y hy)
  ·rw[bj.1 ht]at hy ⊢;rw[IU hk hb]at hy
   rcases bQ.1 hy with hy | hy
   ·exact .inr (h.uX (a,k) (iK _ (bj.2 rfl)) y hy)
   ·exact .inl (bj.1 hy)
 ·rcases bQ.1 ht with ht | ht
  ·exact h.tn t (gg _ ht)
  ·rw[bj.1 ht];exact hk
theorem FI.off{w:List (Int×Nat)}{a b:Int}{k:Nat}(h:FI n nx ix lo on st aR P (w++[(a,k)]))(hk:k<(nx a).length)(hb:(nx a)[k]=b)(dV:0≤b)(hf:ix.getD b.toNat 0≠0)(hs:b ∉ st):FI n nx ix lo on st aR P (w++[(a,k+1)]):=by
 refine⟨by rw[Jx (j:=k)];exact h.tj,fun t ht y hy=>?_,h.li,h.ll,h.ko,h.uZ,fun t ht=>?_⟩
 ·rcases bQ.1 ht with ht | ht
  ·exact h.uX t (gg _ ht) y hy
  ·rw[bj.1 ht]at hy ⊢;rw[IU hk hb]at hy
   rcases bQ.1 hy with hy | hy
   ·exact h.uX (a,k) (iK _ (bj.2 rfl)) y hy
   ·rw[bj.1 hy,lP dV];exact⟨hf,fun hm=>absurd hm hs⟩
 ·rcases bQ.1 ht with ht | ht
  ·exact h.tn t (gg _ ht)
  ·rw[bj.1 ht];exact hk
theorem FI.GM{w:List (Int×Nat)}{a b:Int}{k:Nat}(h:FI n nx ix lo on st aR P (w++[(a,k)]))(hk:k<(nx a).length)(hb:(nx a)[k]=b)(hs:b∈st):FI n nx ix (lo.set a.toNat (min (lo.getD a.toNat 0) (ix.getD b.toNat 0))) on st aR P (w++[(a,k+1)]):=by
 have Mw:b∈nx a:=hb▸bU hk;have dV:=h.tj.node b hs;have My:a∈(w++[(a,k)]).map (·.1):=eW.2 ⟨(a,k),iK _ (bj.2 rfl),rfl⟩;have lU:=h.tj.sub;have su:=h.tj.node a (lU.subset My);have cm:((w++[(a,k)]).map (·.1)).Nodup:=(tV h.tj.inc).sublist lU
 have haw:∀t∈w,t.1≠a:=fun t ht e=>by
  rw[cE]at cm;exact (ma.1 cm).2.2 t.1 (MZ ht) a (bj.2 rfl) e
 have iz:=h.tj;rw[cE]at iz;have h1:=iz.lower (z:=b) hs (.one Mw);have Dl:gI (lo.set a.toNat (min (lo.getD a.toNat 0) (ix.getD b.toNat 0)))=oT (gI lo) a (min (gI lo a) (gI ix b)):=by rw[zK su.1 (by rw[h.ll];exact su.2),lP su.1,lP dV.1]
 refine⟨by rw[Dl,Jx (j:=k),cE];exact h1,fun t ht y hy=>?_,h.li,by rw[dY];exact h.ll,h.ko,h.uZ,fun t ht=>?_⟩
 ·rw[Dl]
  rcases bQ.1 ht with ht | ht
  ·rw[pE (haw t ht)];exact h.uX t (gg _ ht) y hy
  ·rw[bj.1 ht]at hy ⊢;rw[IU hk hb]at hy;rw[pF]
   rcases bQ.1 hy with hy | hy
   ·obtain⟨h2,h3⟩:=h.uX (a,k) (iK _ (bj.2 rfl)) y hy;have h3:y∈st→gI lo a≤gI ix y:=h3;exact⟨h2,fun hm=>by have:=h3 hm;omega⟩
   ·rw[bj.1 hy];have:=h.tj.si b hs;exact⟨by omega,fun _=>by omega⟩
 ·rcases bQ.1 ht with ht | ht
  ·exact h.tn t (gg _ ht)
  ·rw[bj.1 ht];exact hk
theorem FI.all{w:List (Int×Nat)}{a:Int}{k:Nat}(h:FI n nx ix lo on st aR P (w++[(a,k)]))(hk:(nx a).length≤k):∀y∈nx a,gI ix y≠0∧(y∈st→gI lo a≤gI ix y):=fun y hy=>
 h.uX (a,k) (iK _ (bj.2 rfl)) y (by rw[dZ hk];exact hy)
theorem Zt{l:List Int}{i:Nat}:l.set i (l.getD i 0)=l:=by
 refine yW fun j=>?_;rw[gQ]
 by_cases e:i=j
 ·subst e
  by_cases hl:i<l.length
  ·rw[az rfl,az hl,bK,bu hl];rfl
  ·rw[az rfl,aB hl,sE (by omega)]
 ·rw[aB e]
theorem FI.up{w:List (Int×Nat)}{u v:Int}{i k:Nat}(h:FI n nx ix lo on st aR P ((w++[(u,i)])++[(v,k)]))(hk:(nx v).length≤k)(bf:lo.getD v.toNat 0≠ix.getD v.toNat 0):FI n nx ix (lo.set u.toNat (min (lo.getD u.toNat 0) (lo.getD v.toNat 0))) on st aR P (w++[(u,i)]):=by
 have iz:=h.tj;rw[cE,cE]at iz;have Hs:u∈(w.map (·.1)++[u]++[v]):=by simp
 have Hn:v∈(w.map (·.1)++[u]++[v]):=by simp
 have fJ:=iz.node u (iz.sub.subset Hs);have eC:=iz.node v (iz.sub.subset Hn);have cm:(w.map (·.1)++[u]++[v]).Nodup:=(tV iz.inc).sublist iz.sub;have huw:∀t∈w,t.1≠u:=fun t ht e=>(ma.1 (ma.1 cm).1).2.2 t.1 (MZ ht) u (bj.2 rfl) e;have oX:=(iz.low v Hn).1
 have ab:gI lo v<gI ix v:=by
  rw[lP eC.1,lP eC.1]at oX ⊢;omega
 have h1:=iz.up (u:=u) (v:=v) (w:=w.map (·.1)) ab (h.all hk);have Dl:gI (lo.set u.toNat (min (lo.getD u.toNat 0) (lo.getD v.toNat 0)))=oT (gI lo) u (min (gI lo u) (gI lo v)):=by rw[zK fJ.1 (by rw[h.ll];exact fJ.2),lP fJ.1,lP eC.1]
 refine⟨by rw[Dl,cE];exact h1,fun t ht y hy=>?_,h.li,by rw[dY];exact h.ll,h.ko,h.uZ,fun t ht=>h.tn t (gg _ ht)⟩;rw[Dl];obtain⟨h2,h3⟩:=h.uX t (gg _ ht) y hy;refine⟨h2,fun hm=>?_⟩;have:=h3 hm
 by_cases e:t.1=u
 ·rw[e]at this ⊢;rw[pF];omega
 ·rw[pE e];exact this
def eU(part:List Int)(on:List Bool):List Bool:=part.foldl (fun on b=>on.set b.toNat false) on
theorem Ey:∀(part:List Int) (on:List Bool),(eU part on).length=on.length
 | [],_=>rfl
 |b::part,on=>by
  show (eU part (on.set b.toNat false)).length=_;rw[Ey part,dY]
theorem QK{a:Int}(ha:0≤a):∀(part:List Int) (on:List Bool),(∀b∈part,0≤b∧b<on.length)→(eU part on).getD a.toNat false=if a∈part then false else on.getD a.toNat false
 | [],_,_=>by simp[eU]
 |b::part,on,h=>by
  have hb:=h b (cF ..);show (eU part (on.set b.toNat false)).getD a.toNat false=_;rw[QK ha part _ fun c hc=>by rw[dY];exact h c (dq _ hc),R6 hb.1 hb.2 ha]
  by_cases h1:a∈part
  ·rw[az h1,az (dq _ h1)]
  ·rw[aB h1]
   by_cases h2:a=b
   ·rw[az h2,az (by rw[h2];exact cF ..)]
   ·rw[aB h2,aB (by rw[dW];exact fun h=>h.elim h2 h1)]
theorem FI.tell{w:List (Int×Nat)}{v:Int}{k:Nat}{A B part:List Int}(h:FI n nx ix lo on st aR P (w++[(v,k)]))(hk:(nx v).length≤k)(aq:st=A++v::B)(heq:lo.getD v.toNat 0=ix.getD v.toNat 0)(cz:∀x y,y∈nx x→0≤y∧y<n)(hp:part.Perm (v::B))(hs:part.Pairwise (· < ·)):FI n nx ix lo (eU (v::B) on) A aR (P++[part]) w:=by
 have iz:=h.tj;rw[cE]at iz;have eC:=iz.node v (by rw[aq];simp);have h1:=iz.tell (w:=w.map (·.1)) (part:=part) aq (by rw[lP eC.1,lP eC.1];exact heq) (h.all hk) cz hp hs;have tK:∀x∈A,x∈st:=fun x hx=>by rw[aq];exact gg _ hx
 refine⟨h1,fun t ht y hy=>?_,h.li,h.ll,by rw[Ey];exact h.ko,fun a h0 hn=>?_,fun t ht=>h.tn t (gg _ ht)⟩
 ·obtain⟨h2,h3⟩:=h.uX t (gg _ ht) y hy;exact⟨h2,fun hm=>h3 (tK y hm)⟩
 ·rw[QK h0 _ _ fun b hb=>by rw[h.ko];exact iz.node b (by rw[aq];exact iK _ hb),h.uZ a h0 hn];have cm:=tV iz.inc;rw[aq]at cm
  by_cases hm:a∈v::B
  ·rw[az hm];exact (cp fun hA=>(ma.1 cm).2.2 a hA a hm rfl).symm
  ·rw[aB hm];refine DZ.2 ?_;rw[decide_eq_true_eq,decide_eq_true_eq,aq,bQ];exact⟨fun h=>h.resolve_right hm,.inl⟩
theorem FI.same{w:List (Int×Nat)}{u v:Int}{i k:Nat}(h:FI n nx ix lo on st aR P ((w++[(u,i)])++[(v,k)]))(heq:lo.getD v.toNat 0=ix.getD v.toNat 0):lo.set u.toNat (min (lo.getD u.toNat 0) (lo.getD v.toNat 0))=lo:=by
 have iz:=h.tj;rw[cE,cE]at iz;have Hs:u∈(w.map (·.1)++[u]++[v]):=by simp
 have Hn:v∈(w.map (·.1)++[u]++[v]):=by simp
 have fJ:=iz.node u (iz.sub.subset Hs);have eC:=iz.node v (iz.sub.subset Hn);have h1:=(iz.low u Hs).1;have h2:=BE iz.inc iz.sub u (by simp);rw[lP fJ.1,lP fJ.1]at h1;rw[lP fJ.1,lP eC.1]at h2;rw[show min (lo.getD u.toNat 0) (lo.getD v.toNat 0)=lo.getD u.toNat 0 by omega];exact Zt
theorem FI.SH(h:FI n nx ix lo on st aR P []):st=[]:=h.tj.empty
theorem FI.one{v:Int}{k:Nat}(h:FI n nx ix lo on st aR P [(v,k)]):lo.getD v.toNat 0=ix.getD v.toNat 0:=by
 have eC:=h.tj.node v (h.tj.sub.subset (by simp));have:=h.tj.first;rw[lP eC.1,lP eC.1]at this;exact this
theorem FI.mem{w:List (Int×Nat)}{v:Int}{k:Nat}(h:FI n nx ix lo on st aR P (w++[(v,k)])):v∈st:=h.tj.sub.subset (by simp)
theorem FI.zN{gL:List (Int×Nat)}(h:FI n nx ix lo on st aR P gL):aR≤n∧st.length≤n∧P.flatten.length≤n:=by
 have cm:(P.flatten++st).Nodup:=ma.2 ⟨h.tj.prt.nd,tV h.tj.inc,fun x hx y hy e=>by
  subst e;obtain⟨p,hp,ra⟩:=nr.1 hx
  exact h.tj.y9 p hp x ra hy⟩
 have hn:∀z∈P.flatten++st,0≤z∧z<(n:Int):=fun z hz=>by
  rcases bQ.1 hz with hz | hz
  ·obtain⟨p,hp,hz⟩:=nr.1 hz;exact h.tj.prt.node p hp z hz
  ·exact h.tj.node z hz
 have lU:=Jp cm (m:=(List.range n).map fun i:Nat=>(i:Int)) fun z hz=>eW.2 ⟨z.toNat,gP.2 (by have:=hn z hz;omega),by have:=hn z hz;omega⟩;rw[bB,cN,og]at lU;have:=h.tj.len;omega
def iU(nx:Int→List Int)(gL:List (Int×Nat)):Nat:=(gL.map fun t=>(nx t.1).length+1-t.2).sum
def im(nx:Int→List Int)(ix:List Int)(n:Nat):Nat:=((List.range n).map fun a:Nat=>if ix.getD a 0=0 then (nx a).length+2 else 0).sum
theorem lG(nx:Int→List Int)(w:List (Int×Nat))(a:Int)(k:Nat):iU nx (w++[(a,k)])=iU nx w+((nx a).length+1-k):=by unfold iU;simp
theorem Pr(nx:Int→List Int)(ix:List Int)(n:Nat):im nx ix (n+1)=im nx ix n+if ix.getD n 0=0 then (nx n).length+2 else 0:=by unfold im;rw[List.range_succ];simp
theorem Ju{nx:Int→List Int}{ix:List Int}{b:Nat}{v:Int}(hv:v≠0)(hf:ix.getD b 0=0)(hb:b<ix.length):∀n,im nx (ix.set b v) n+(if b<n then (nx b).length+2 else 0)=im nx ix n
 | 0=>rfl
 |n+1=>by
  have ih:=Ju (nx:=nx) hv hf hb n;rw[Pr,Pr]
  have hg:(ix.set b v).getD n 0=if b=n then v else ix.getD n 0:=by
   rw[bK,gQ]
   by_cases e:b=n
   ·subst e;rw[az rfl,az hb,az rfl];rfl
   ·rw[aB e,aB e,bK]
  rw[hg]
  by_cases e:b=n
  ·subst e;rw[az rfl,aB hv,az hf,az (by omega)];rw[aB (by omega)]at ih;omega
  ·rw[aB e]
   by_cases c:b<n
   ·have e2:(if b<n+1 then (nx b).length+2 else 0)=(nx b).length+2:=az (by omega);rw[az c]at ih;rw[e2];omega
   ·have e2:(if b<n+1 then (nx b).length+2 else 0)=0:=aB (by omega);rw[aB c]at ih;rw[e2];omega
theorem Acc.wX{e k:Nat}{v:AV}{acc:Hp}{cs:List AV}(h:Acc e k v acc cs):Acc e k (bV v) acc cs:=by
 cases h with
 |nil=>exact .nil
 |af b k cs h=>exact .af b k cs h
theorem Zs{α:Type}(l:List α)(x y:α){k:Nat}(h:k=l.length):(l++[x]).set k y=l++[y]:=by subst h;simp
theorem aa1{α:Type}(l:List α)(x:α){k:Nat}(h:k=l.length):(l++[x])[k]?=some x:=by subst h;simp
theorem sS{k:Nat}{v:AV}{acc:Hp}{cs:List AV}(h0:0<k)(h:Acc 1 k v acc cs):∃b,v=.af b 0 k 1∧acc=[(b,cs)]:=by
 cases h with
 |nil=>omega
 |af b k cs h=>exact⟨b,rfl,rfl⟩
theorem tX(P:List (List Int)):(cD P).length=P.length:=cN _
theorem Z7{l:List Int}{J:List AV}{k:Nat}(h:k<l.length):(aj l++J)[k]?=some (.int .i64 (l.getD k 0)):=by
 rw[ku (by rw[rM];exact h)];unfold aj;rw[fD,bK,bu h];rfl
theorem Sr(b k:Nat)(A B:List Int)(J:List AV)(x:Int)(σ:Hp)(hk:(A++x::B).length=k)(hx:x ∉ A)(hl:k≤1000000):ACalls Tryz.prog 287 [.af b 0 k 1,.int .i64 x] ((b,aj (A++x::B)++J)::σ) (ay (.int .i64 A.length) ((b,aj (A++x::B)++J)::σ)):=by
 have hkA:A.length<k:=by rw[← hk,bB,gH];omega
 refine ao Tryz.func287 ?_;refine bc (S:=Nat) (fun s=>[(0,.af b 0 k 1),(1,.int .i64 x),(7,.int .i64 k),(8,.int .i64 s)]) (fun _=>(b,aj (A++x::B)++J)::σ) (fun s=>s≤A.length) (fun s=>A.length-s) 0 ⟨aV _,⟨rfl,rfl,rfl,rfl,trivial⟩,rfl⟩ ?_;rintro i t dK;have hi:i≤A.length:=dK;clear dK;refine ai (p:=(i:Int)<k) (fun ab=>?_) (fun ak=>?_)
 ·have hg:=Z7 (l:=A++x::B) (J:=J) (k:=i) (by omega);obtain⟨y,hy⟩:∃y,(A++x::B).getD i 0=y:=⟨_,rfl⟩
  rw[hy]at hg;refine aH ?_;refine aS 0 rfl (gD rfl (by rw[dD,dH,bD];exact hg)) ?_;refine ai (fun c=>?_) (fun c=>?_)
  ·have c:x=y:=c;refine .done ⟨?_,rfl⟩
   by_cases e:i=A.length
   ·subst e;rfl
   ·have:y∈A:=by
     rw[← hy,bK,ku (by omega),bu (by omega)];exact bU _
    exact absurd (c▸this) hx
  ·have c:¬x=y:=c
   have bf:i≠A.length:=fun e=>by
    subst e;refine c ?_;rw[← hy,bK,iL (bg _),l7];rfl
   exact aM (i+1) (by show A.length-(i+1)<A.length-i;omega) (by show i+1≤A.length;omega) ⟨rfl,rfl,rfl,aI (by omega),trivial⟩ (.refl _)
 ·omega
theorem Sx(b off k:Nat)(C cs:List AV)(σ:Hp)(h:(C.drop off).take (k*1)=cs)(h2:off+k*1≤C.length)(hl:k≤1000000):ACalls Tryz.prog 220 [.af b off k 1] ((b,C)::σ) (fun x σ'=>∃b',x=.af b' 0 k 1∧σ'=(b',cs)::(b,C)::σ):=by
 refine ao Tryz.func220 ?_;intro b2;refine AppendAt.more 0 b2 0 k [] ((C.drop off).take (k*1)) rfl rfl (cj rfl) (.mem (dq _ (cF ..)) h2) (by omega) (by decide) (by decide) (fun b'=>?_);refine .done ⟨b',by rw[dD];rfl,?_⟩;rw[h];rfl
theorem Ru(w bi bl bo n:Nat)(N:List (List Int))(ix lo:List Int)(on:List Bool)(aR:Nat)(vs vp:AV)(a:Int)(σ:Hp)(h0:0≤a)(hn:a<n)(hi:ix.length=n)(hl:lo.length=n)(bf:lo.getD a.toNat 0≠ix.getD a.toNat 0):
  ACalls Tryz.prog 315 [.ptr w 0,.int .i64 a] ((w,dA N bi bl bo n vs aR vp)::(bi,aj ix)::(bl,aj lo)::(bo,bG on)::σ) (ay (.tup []) ((w,dA N bi bl bo n vs aR vp)::(bi,aj ix)::(bl,aj lo)::(bo,bG on)::σ)):=by
 refine ao Tryz.func315 ?_;refine .quiet (by kernel_rfl) ?_;refine aa 0 ?_;refine aH ?_;refine aS 2 rfl (eZ rfl h0 (by omega)) ?_;refine aa 0 ?_;refine aH ?_;refine aS 1 rfl (eZ rfl h0 (by omega)) ?_;refine cO (fun c=>?_) (fun c=>?_)
 ·exact .done ⟨rfl,rfl⟩
 ·exact absurd (by simpa using c) bf
theorem O6(w bi bl bo n:Nat)(N:List (List Int))(ix lo A B:List Int)(on:List Bool)(P:List (List Int))(aR:Nat)(vs vp:AV)(lh eJ:Hp)(a:Int)(σ:Hp)(h0:0≤a)(hn:a<n)(hi:ix.length=n)(hl:lo.length=n)(ho:on.length=n)(he:lo.getD a.toNat 0=ix.getD a.toNat 0)(Mz:a ∉ A)(hB:∀x∈a::B,0≤x∧x<n)(bP:(A++a::B).length≤10000)(lu:P.length≤10000)
  (hs:iv 1 (A++a::B).length vs lh (aj (A++a::B))) (hp:Acc 1 P.length vp eJ (cD P)) :
  ACalls Tryz.prog 315 [.ptr w 0,.int .i64 a] ((w,dA N bi bl bo n vs aR vp)::(bi,aj ix)::(bl,aj lo)::(bo,bG on)::(lh++(eJ++σ)))
   (fun r σ'=>r=.tup []∧∃eG iR gu gm,iv 1 A.length eG iR (aj A)∧Acc 1 (P++[fA (a::B)]).length gu gm (cD (P++[fA (a::B)]))∧σ'=(w,dA N bi bl bo n eG aR gu)::(bi,aj ix)::(bl,aj lo)::(bo,bG (eU (a::B) on))::(iR++(gm++σ))):=by
 obtain⟨K,hK⟩:∃K,(A++a::B).length=K:=⟨_,rfl⟩
 obtain⟨L,hL⟩:∃L:List Int,a::B=L:=⟨_,rfl⟩
 obtain⟨q,hq⟩:∃q,L.length=q:=⟨_,rfl⟩
 have hKA:K=A.length+q:=by rw[← hK,bB,hL,hq]
 have hq0:0<q:=by rw[← hq,← hL,gH];omega
 rw[hK]at hs bP;obtain⟨bs,J,rfl,rfl,MM⟩:=hs.pos (by omega)
 have iG:((aj (A++a::B)++J).drop A.length).take (q*1)=aj L:=by
  rw[hL];unfold aj;rw[cE,cU,Nf (by rw[cN];exact bg _),xz (by rw[cN];exact bg _),sA,H8 (by rw[cN];omega),dZ (by rw[cN];omega)]
 have fk:A.length+q*1≤(aj (A++a::B)++J).length:=by rw[bB,MM];omega
 refine ao Tryz.func315 ?_;refine .quiet (by kernel_rfl) ?_;refine aa 0 ?_;refine aH ?_;refine aS 2 rfl (eZ rfl h0 (by omega)) ?_;refine aa 0 ?_;refine aH ?_;refine aS 1 rfl (eZ rfl h0 (by omega)) ?_;refine cO (fun c=>?_) (fun c=>?_)
 ·exact absurd he (by simpa using c)
 clear c;refine aa 0 ?_;refine aw [4] (Sr bs K A B J a _ hK Mz (by omega)) ?_;refine aa 1 ?_;refine aF.mk ⟨by omega,by omega,by omega,rfl⟩ ?_
 have hC:∀σ,ACalls Tryz.prog 220 [.af bs (0+((A.length:Nat):Int).toNat*1) (((K:Nat):Int).toNat-((A.length:Nat):Int).toNat) 1] ((bs,aj (A++a::B)++J)::σ) (fun x σ'=>∃b',x=.af b' 0 q 1∧σ'=(b',aj L)::(bs,aj (A++a::B)++J)::σ):=fun σ=>by
  rw[show 0+((A.length:Nat):Int).toNat*1=A.length by omega,show ((K:Nat):Int).toNat-((A.length:Nat):Int).toNat=q by omega];exact Sx bs A.length q _ _ σ iG fk (by omega)
 refine .mk [0] _ (hC _) ?_;rintro _ _ ⟨bp,rfl,rfl⟩;refine aa 2 ?_;refine aF.mk ⟨by omega,by omega,by omega,by omega,rfl⟩ ?_;refine ah 2 ?_;refine bc (S:=Nat) (fun i=>[(0,.ptr w 0),(5,.af bp 0 q 1),(46,.af bp 0 q 1),(47,.int .i64 q),(48,.int .i64 i)]) (fun i=>(bp,aj L)::(bs,aj (A++a::B)++J)::(w,dA N bi bl bo n (.af bs 0 A.length 1) aR vp)::(bi,aj ix)::(bl,aj lo)::(bo,bG (eU (L.take i) on))::(eJ++σ)) (fun i=>i≤q) (fun i=>q-i) 0 ⟨aV _,⟨rfl,rfl,rfl,rfl,rfl,trivial⟩,rfl⟩ ?_;rintro i g dK;have hiq:i≤q:=dK;clear dK;refine ai (p:=(i:Int)<q) (fun ab=>?_) (fun ak=>?_)
 ·have ab:i<L.length:=by omega
  obtain⟨x,hx⟩:∃x,L[i]=x:=⟨_,rfl⟩
  have wZ:=hB x (by rw[hL,← hx];exact bU ab);have jn:=Ey (L.take i) on;have Lh:(eU (L.take i) on).set x.toNat false=eU (L.take (i+1)) on:=by unfold eU;rw[eM ab,hx,rE];rfl
  have my:ef ⟨.int .i64,1,8,[.int .i64 0]⟩ (aj L) (0+((i:Nat):Int).toNat*1)=some (.int .i64 x):=by
   rw[eZ rfl (by omega) (by omega),bD,bK,bu ab,hx];rfl
  refine aH ?_;refine aS 0 rfl my ?_;refine aa 2 ?_;refine aH ?_;refine bM 5 rfl (tZ rfl false wZ.1 (by omega)) ?_;exact aM (i+1) (by show q-(i+1)<q-i;omega) (by show i+1≤q;omega) ⟨rfl,rfl,rfl,rfl,aI (by omega),trivial⟩ (aL (by rw[Lh];rfl))
 ·have ak:i=q:=by omega
  subst ak;refine aw [0] (Kv bp L i _ hq (by omega)) ?_;refine aa 2 ?_;intro bX;refine zd [_,_,_,_,_,_,_] hp.wX (.af 0 bX 0 1 _ rfl (cj rfl)) rfl (by omega) (by decide) (by decide) (fun v' aJ h'=>?_);obtain⟨b5,rfl,rfl⟩:=sS (by omega) h';refine ah 3 ?_;have hgs:=aa1 (cD P) (AV.af bp 0 i 1) (k:=P.length) (tX P).symm;have hss:=Zs (cD P) (AV.af bp 0 i 1) (.ae (.int .i64) (fA L)) (k:=P.length) (tX P).symm;refine .jZ 1 bp 0 i 1 _ (.int .i64) (fA L) rfl (by rw[fy,dZ (by rw[lF,zc,dH];omega)];exact ia _) ⟨(zc L).trans hq,rfl,by decide⟩ 6 P.length b5 _ rfl hgs ?_;refine .drop 0 1 (.perm (ew [_,_,_,_] [_] _).symm (.done ⟨rfl,.af bs 0 A.length 1,[(bs,aj A++(aj L++J))],.af b5 0 (P.length+1) 1,[(b5,cD (P++[fA L]))],.af bs A.length (aj A) (aj L++J) (by rw[lF,dH]),?_,?_⟩))
  ·subst hL;rw[bB];exact .af b5 (P.length+1) (cD (P++[fA (a::B)])) ((tX _).trans (by rw[bB,dH];rfl))
  ·rw[dZ (vG hq)];subst hL;have e1:aj (A++a::B)++J=aj A++(aj (a::B)++J):=by unfold aj;rw[cE,cU]
   have e2:cD (P++[fA (a::B)])=cD P++[.ae (.int .i64) (fA (a::B))]:=cE;rw[e1,e2,← hss];rfl
def bL(l:List (Int×Nat)):List AV:=l.flatMap fun t=>[.int .i64 t.1,.int .i64 t.2]
theorem mb:∀l:List (Int×Nat),(bL l).length=l.length*2
 | []=>rfl
 |t::l=>by
  show ([AV.int .i64 t.1,.int .i64 t.2]++bL l).length=_;rw[bB,mb l,gH];show 2+l.length*2=(l.length+1)*2;omega
theorem ov(l m:List (Int×Nat)):bL (l++m)=bL l++bL m:=sF
theorem rJ{w:List (Int×Nat)}{v:Int}{k:Nat}{J:List AV}{m:Nat}(hm:m=w.length):(bL (w++[(v,k)])++J)[m*2]?=some (.int .i64 v):=by
 subst hm;rw[ov,cU,iL (by rw[mb];omega),mb,l7];rfl
theorem Br{w:List (Int×Nat)}{v:Int}{k:Nat}{J:List AV}{m:Nat}(hm:m=w.length):(bL (w++[(v,k)])++J)[m*2+1]?=some (.int .i64 k):=by
 subst hm;rw[ov,cU,iL (by rw[mb];omega),mb,H5];rfl
theorem BA{w:List (Int×Nat)}{v:Int}{k:Nat}{J:List AV}{m:Nat}(hm:m=w.length):(bL (w++[(v,k)])++J).set (m*2+1) (.int .i64 ((k+1:Nat):Int))=bL (w++[(v,k+1)])++J:=by
 subst hm;rw[ov,ov,cU,cU,Ec _ _ (by rw[mb];omega),mb,H5];rfl
def ck(n:Nat)(l:List aO):List (List Int):=(List.range n).map fun a:Nat=>au n l a
theorem oE{n:Nat}{l:List aO}{a:Int}(h:0≤a∧a<n):(ck n l)[a.toNat]?=some (au n l a):=by
 unfold ck;rw[fD,A1 (by omega)];show some (au n l (a.toNat:Int))=_;rw[mE h.1]
theorem Bf(zs:List Int):(fA zs).Perm zs:=List.mergeSort_perm _ _
theorem Et{zs:List Int}(h:zs.Nodup):(fA zs).Pairwise (· < ·):=((NM zs).and ((Bf zs).nodup_iff.2 h)).imp fun h=>by omega
theorem EF{n:Nat}{nx:Int→List Int}{P:List (List Int)}(h:qB n nx P):P.length≤P.flatten.length:=by
 have:=h.ne;clear h
 induction P with
 |nil=>exact bg _
 |cons p P ih=>
  have h1:=l9.2 (this p (cF ..));have h2:=ih fun q hq=>this q (dq _ hq);rw[xv,bB,gH];omega
theorem RN{i:TI}(hw:i.wide=true){cs v:List AV}{off:Nat}(h:off+i.size≤cs.length)(hv:(cs.drop off).take i.size=v):ef i cs off=some (.agg v):=by
 unfold ef;rw[hw];show (match Nat.ble (off+i.size) cs.length with | true=>some (AV.agg ((cs.drop off).take i.size)) | false=>none)=_;rw[Ed h,hv]
theorem Ow{w:List (Int×Nat)}{v:Int}{k:Nat}{J:List AV}{m:Nat}(hm:m=w.length):((bL (w++[(v,k)])++J).drop (m*2)).take 2=[.int .i64 v,.int .i64 k]:=by
 subst hm;rw[ov,cU,Nf (by rw[mb];exact bg _),xz (by rw[mb];exact bg _)];rfl
theorem vS(X a σ:Hp)(x y:Nat×List AV):(X++(a++(x::y::σ))).Perm (x::(X++(y::(a++σ)))):=by
 have h1:(a++(x::y::σ)).Perm (x::y::(a++σ)):=ns.trans (List.Perm.cons _ ns);exact (List.Perm.append_left X h1).trans ns
def Ce(rec:Go.Code→Tm→Hp→(Ex→Tm→Hp→Prop)→Prop)(c:Go.Code){S:Type}(fS:S→Nat)(L:S→List (Nat×AV))(H:S→Hp)(p:S→Prop)(μ:S→Nat)(Q:Ex→Tm→Hp→Prop):Prop:=
 ∀s g,p s→(match findLabel c (fS s) with | some r=>rec r (mr g (L s)) (H s) (fun e t' σ'=>match e with | .goto l'=>qR fS L H p μ s l' t' σ' | e=>Q e t' σ') | none=>False)
theorem Ou{P:Program}{TT:TypeId→Option TI}{fn:Go.Func}{c:Go.Code}{xs:List AV}{σ:Hp}{R:AV→Hp→Prop}{S:Type}(hb:fn.body=some (.scope c))(fS:S→Nat)(L:S→List (Nat×AV))(H:S→Hp)(p:S→Prop)(μ:S→Nat)
  (hr:Ce (mi P TT 999) c fS L H p μ (uE TT fn.results.toList R))
  (h:Ce (mi P TT 999) c fS L H p μ (uE TT fn.results.toList R)→codeF P TT (mi P TT 999) (.scope c) (t0 xs) σ (uE TT fn.results.toList R)):ta P TT fn xs σ R:=by
 have h1:mi P TT 1000 (.scope c) (t0 xs) σ (uE TT fn.results.toList R):=h hr;unfold ta;rw[hb];exact h1
theorem vV{rec:Go.Code→Tm→Hp→(Ex→Tm→Hp→Prop)→Prop}{c:Go.Code}{S:Type}{fS:S→Nat}{L:S→List (Nat×AV)}{H:S→Hp}{p:S→Prop}{μ:S→Nat}{Q:Ex→Tm→Hp→Prop}{t:Tm}{σ:Hp}{l:Nat}(hr:Ce rec c fS L H p μ Q)(s0:S)(h0:l=fS s0∧p s0∧agree t (L s0)∧iY σ (H s0)):
  qS (fun l t σ Q=>match findLabel c l with | some r=>rec r t σ Q | none=>False) l Q t σ:=.loop fS L H p μ s0 h0 hr
abbrev FrS:=(List Int×List Int×List Bool×List Int×Nat×List (List Int))×(Nat×List AV×AV×Hp)×(List (Int×Nat)×Int×Nat)×(Nat×List AV)
theorem afG(n w bi bl bo:Nat)(l:List aO)(lp ve:List Int)(u0:List Bool)(dQ:Nat)(P0:List (List Int))(tz fR:AV)(uG ik:Hp)(a:Int)(σ:Hp)(hn:n≤1000)(h:FI n (au n l) lp ve u0 [] dQ P0 [])(ha:0≤a∧a<n)(hf:lp.getD a.toNat 0=0)(hs:iv 1 0 tz uG [])(hp:Acc 1 P0.length fR ik (cD P0)):
  ACalls Tryz.prog 290 [.ptr w 0,.int .i64 a] ((w,dA (ck n l) bi bl bo n tz dQ fR)::(bi,aj lp)::(bl,aj ve)::(bo,bG u0)::(uG++(ik++σ)))
   (fun r σ'=>r=.tup []∧∃ix lo on aR P vs lh vp eJ,FI n (au n l) ix lo on [] aR P []∧iv 1 0 vs lh []∧Acc 1 P.length vp eJ (cD P)∧ix.getD a.toNat 0≠0∧(∀b:Nat,lp.getD b 0≠0→ix.getD b 0≠0)∧σ'=(w,dA (ck n l) bi bl bo n vs aR vp)::(bi,aj ix)::(bl,aj lo)::(bo,bG on)::(lh++(eJ++σ))):=by
 have hle:=h.zN;refine ao Tryz.func290 ?_
 refine Ou (S:=FrS) rfl (fun _=>0)
  (fun x=>[(0,.ptr w 0),(4,.af x.2.2.2.1 0 (x.2.2.1.1.length+1) 2)])
  (fun x=>(w,dA (ck n l) bi bl bo n (.af x.2.1.1 0 x.1.2.2.2.1.length 1) x.1.2.2.2.2.1 x.2.1.2.2.1)::(bi,aj x.1.1)::(bl,aj x.1.2.1)::(bo,bG x.1.2.2.1)::(x.2.1.1,aj x.1.2.2.2.1++x.2.1.2.1)::(x.2.2.2.1,bL (x.2.2.1.1++[(x.2.2.1.2.1,x.2.2.1.2.2)])++x.2.2.2.2)::(x.2.1.2.2.2++σ))
  (fun x=>(FI n (au n l) x.1.1 x.1.2.1 x.1.2.2.1 x.1.2.2.2.1 x.1.2.2.2.2.1 x.1.2.2.2.2.2 (x.2.2.1.1++[(x.2.2.1.2.1,x.2.2.1.2.2)])∧Acc 1 x.1.2.2.2.2.2.length x.2.1.2.2.1 x.2.1.2.2.2 (cD x.1.2.2.2.2.2))∧x.1.1.getD a.toNat 0≠0∧∀b:Nat,lp.getD b 0≠0→x.1.1.getD b 0≠0)
  (fun x=>iU (au n l) (x.2.2.1.1++[(x.2.2.1.2.1,x.2.2.1.2.2)])+im (au n l) x.1.1 n) ?_ ?_
 ·rintro⟨⟨ix,lo,on,st,aR,P⟩,⟨bs,Js,vp,eJ⟩,⟨wy,v,k⟩,⟨bw,J⟩⟩ g ⟨⟨pj,tH⟩,qt,xm⟩;have hF:FI n (au n l) ix lo on st aR P (wy++[(v,k)]):=pj;have hP:Acc 1 P.length vp eJ (cD P):=tH;have hA:ix.getD a.toNat 0≠0:=qt;have hM:∀b:Nat,lp.getD b 0≠0→ix.getD b 0≠0:=xm;clear pj tH qt xm;have hle:=hF.zN;have bY:=hF.mem;have eC:=hF.tj.node v bY;have AD:k≤(au n l v).length:=hF.tn (v,k) (iK _ (bj.2 rfl));have kR:=vR n l v
  have qh:wy.length+1≤st.length:=by
   have:=hF.tj.sub.length_le;rw[cN,bB]at this;exact this
  have mZ:IntKind.i64.wrap (((wy.length+1:Nat):Int)-1)=((wy.length:Nat):Int):=by rw[jF (by omega)];omega
  have hX:0+(IntKind.i64.wrap (((wy.length+1:Nat):Int)-1)).toNat*2=wy.length*2:=by rw[mZ];omega
  have mA:ef ⟨.int .i64,1,8,[.int .i64 0]⟩ (bL (wy++[(v,k)])++J) (0+(IntKind.i64.wrap (((wy.length+1:Nat):Int)-1)).toNat*2+0)=some (.int .i64 v):=gD rfl (by rw[hX];exact rJ rfl);have lr:ef ⟨.int .i64,1,8,[.int .i64 0]⟩ (bL (wy++[(v,k)])++J) (0+(IntKind.i64.wrap (((wy.length+1:Nat):Int)-1)).toNat*2+1)=some (.int .i64 k):=gD rfl (by rw[hX];exact Br rfl);have fk:(bL (wy++[(v,k)])++J).length=wy.length*2+2+J.length:=by rw[bB,mb,bB];show (wy.length+1)*2+_=_;omega
  have jr:IntKind.i64.wrap ((k:Int)+1)=((k+1:Nat):Int):=by rw[jF (by omega)];omega
  have vh:kC ⟨.int .i64,1,8,[.int .i64 0]⟩ (bL (wy++[(v,k)])++J) (0+(IntKind.i64.wrap (((wy.length+1:Nat):Int)-1)).toNat*2+1) (.int .i64 (IntKind.i64.wrap ((k:Int)+1)))=some (bL (wy++[(v,k+1)])++J):=by
   rw[mO rfl rfl (by rw[hX,fk];omega),hX,jr,BA rfl]
  have uA:2=2∧0≤IntKind.i64.wrap (((wy.length+1:Nat):Int)-1)∧IntKind.i64.wrap (((wy.length+1:Nat):Int)-1)<((wy.length+1:Nat):Int):=⟨rfl,by omega,by omega⟩
  refine aF.mk uA ?_;refine .quiet (by kernel_rfl) ?_;refine aS 5 rfl lr ?_;refine aa 0 ?_;refine aS 5 rfl mA ?_;refine aF.mk rfl ?_;refine aY.mk (au n l v) (by omega) (oE eC) ?_;refine ai (p:=(k:Int)<(au n l v).length) (fun ab=>?_) (fun ak=>?_)
  ·have ab:k<(au n l v).length:=by omega
   obtain⟨b,hb⟩:∃b,(au n l v)[k]=b:=⟨_,rfl⟩
   have sq:b∈au n l v:=hb▸bU ab;have dV:=(kD.1 sq).1;refine .quiet (by kernel_rfl) ?_;refine aa 0 ?_;refine aS 5 rfl mA ?_;refine aF.mk rfl ?_;refine aY.mk (au n l v) (by omega) (oE eC) ?_;refine aS 5 rfl lr ?_;refine aF.mk rfl ?_;refine aY.mk b (by omega) ((get_some ab).trans (congrArg some hb)) ?_;refine aS 5 rfl lr ?_;refine bM 5 rfl vh ?_;refine aa 0 ?_;refine aH ?_;refine aS 1 rfl (eZ rfl dV.1 (by rw[hF.li];omega)) ?_;refine ai (p:=ix.getD b.toNat 0=0) (fun c1=>?_) (fun c1=>?_)
   ·have hN:=hF.new ab hb dV c1;have cq:(aj st).length=st.length*1:=by rw[lF,dH]
    refine .mk [] _ (zQ w bi bl bo n (ck n l) ix lo st on aR _ vp _ b ((bw,bL (wy++[(v,k+1)])++J)::(eJ++σ)) dV.1 dV.2 hF.li hF.ll hF.ko (.af bs st.length (aj st) Js cq) (by omega) (by omega)) ?_;rintro _ _ ⟨rfl,Aq,Cx,fj,rfl⟩;obtain⟨lB,oo,rfl,rfl,_⟩:=fj.pos (by rw[bB];show 0<_+1;omega);intro ax;have GP:(bL (wy++[(v,k+1)])).length=(wy.length+1)*2:=by rw[mb,bB];rfl
    refine xK (k:=wy.length+1) (n:=1) [_,_,_,_,_,_] (.af bw (wy.length+1) (bL (wy++[(v,k+1)])) J GP) (.af 0 ax 0 1 _ rfl (cj rfl)) rfl (by omega) (by decide) (by decide) (fun v' aJ h'=>?_);obtain⟨om,J2,rfl,rfl,_⟩:=h'.pos (by omega);have Mi:(wy++[(v,k+1)]).length+1=wy.length+1+1:=by rw[bB];rfl
    have vz:(b.toNat:Int)=b:=mE dV.1;have qk:=Ju (nx:=au n l) (ix:=ix) (b:=b.toNat) (v:=((aR+1:Nat):Int)) (by omega) c1 (by rw[hF.li];omega) n;rw[az (by omega),vz]at qk;refine .mk ((ix.set b.toNat ((aR+1:Nat):Int),lo.set b.toNat ((aR+1:Nat):Int),on.set b.toNat true,st++[b],aR+1,P),(lB,oo,vp,eJ),(wy++[(v,k+1)],b,0),(om,J2)) rfl ?_ ⟨⟨hN,hP⟩,?_,?_⟩ ⟨rfl,by rw[Mi];rfl,trivial⟩ (.drop 0 1 (aL (by rw[ov (wy++[(v,k+1)])];rfl)))
    ·show iU (au n l) ((wy++[(v,k+1)])++[(b,0)])+im (au n l) (ix.set b.toNat ((aR+1:Nat):Int)) n<iU (au n l) (wy++[(v,k)])+im (au n l) ix n;rw[lG,lG,lG];omega
    ·show (ix.set b.toNat ((aR+1:Nat):Int)).getD a.toNat 0≠0;rw[mc];split
     ·omega
     ·exact hA
    ·intro z hz;show (ix.set b.toNat ((aR+1:Nat):Int)).getD z 0≠0;rw[mc];split
     ·omega
     ·exact hM z hz
   ·have c1:¬(ix.getD b.toNat 0=0):=c1;refine aa 0 ?_;refine aH ?_;have pf:=hF.uZ b dV.1 dV.2;have CN:ef ⟨.int .i64,1,8,[.int .i64 0]⟩ (bL (wy++[(v,k+1)])++J) (0+(IntKind.i64.wrap (((wy.length+1:Nat):Int)-1)).toNat*2+0)=some (.int .i64 v):=gD rfl (by rw[hX];exact rJ rfl);refine ec.jG 3 _ _ rfl (qF rfl dV.1 (by rw[hF.ko];omega)) (fun c2=>?_) (fun c2=>?_)
    ·rw[pf]at c2;have hO:=hF.GM ab hb (eX c2);refine .sched [] (upto [] 28 0) (by kernel_rfl) ?_;refine aa 0 ?_;refine aS 5 rfl CN ?_;refine aa 0 ?_;refine aS 5 rfl CN ?_;refine aH ?_;refine aS 2 rfl (eZ rfl eC.1 (by rw[hF.ll];omega)) ?_;refine aa 0 ?_;refine aH ?_;refine aS 1 rfl (eZ rfl dV.1 (by rw[hF.li];omega)) ?_;refine aH ?_;refine bM 2 rfl (lL rfl _ eC.1 (by rw[hF.ll];omega)) ?_;have jk:(if ix.getD b.toNat 0<lo.getD v.toNat 0 then ix.getD b.toNat 0 else lo.getD v.toNat 0)=min (lo.getD v.toNat 0) (ix.getD b.toNat 0):=by split <;> omega
     refine .mk ((ix,lo.set v.toNat (min (lo.getD v.toNat 0) (ix.getD b.toNat 0)),on,st,aR,P),(bs,Js,vp,eJ),(wy,v,k+1),(bw,J)) rfl ?_ ⟨⟨hO,hP⟩,hA,hM⟩ ⟨rfl,rfl,trivial⟩ (aL (by rw[← jk];rfl));show iU (au n l) (wy++[(v,k+1)])+im (au n l) ix n<iU (au n l) (wy++[(v,k)])+im (au n l) ix n;rw[lG,lG];omega
    ·rw[pf]at c2;have hO:=hF.off ab hb dV.1 c1 (py c2);refine .mk ((ix,lo,on,st,aR,P),(bs,Js,vp,eJ),(wy,v,k+1),(bw,J)) rfl ?_ ⟨⟨hO,hP⟩,hA,hM⟩ ⟨rfl,rfl,trivial⟩ (.refl _);show iU (au n l) (wy++[(v,k+1)])+im (au n l) ix n<iU (au n l) (wy++[(v,k)])+im (au n l) ix n;rw[lG,lG];omega
  ·have ak:k=(au n l v).length:=by omega
   have mz:ef ⟨.bz [(0,3),(1,3)],2,16,[.int .i64 0,.int .i64 0]⟩ (bL (wy++[(v,k)])++J) (0+(IntKind.i64.wrap (((wy.length+1:Nat):Int)-1)).toNat*2)=some (.agg [.int .i64 v,.int .i64 k]):=RN rfl (by rw[hX,fk];show wy.length*2+2≤_;omega) (by rw[hX];exact Ow rfl);refine aS 5 rfl mz ?_;intro bt;refine ah 0 ?_;refine aa 0 ?_;have pR:(IntKind.i64.wrap (((wy.length+1:Nat):Int)-1)).toNat-Int.toNat 0=wy.length:=by rw[mZ];omega
   have bP:0≤(0:Int)∧(0:Int)≤IntKind.i64.wrap (((wy.length+1:Nat):Int)-1)∧IntKind.i64.wrap (((wy.length+1:Nat):Int)-1)≤((wy.length+1:Nat):Int)∧2=2:=⟨by omega,by omega,by omega,rfl⟩
   by_cases he:lo.getD v.toNat 0=ix.getD v.toNat 0
   ·obtain⟨A,B,aq,DR,hB1⟩:=PN hF.tj.inc bY;have L7:v ∉ A:=fun hm=>by have:=DR v hm;omega
    have L6:∀x∈v::B,0≤x∧x<(n:Int):=fun x hx=>hF.tj.node x (by rw[aq];exact iK _ hx);have cm:=tV hF.tj.inc;rw[aq]at cm;have hT:=hF.tell (by omega) aq he (fun x y hy=>(kD.1 hy).1) (Bf (v::B)) (Et (ma.1 cm).2.1);have DJ:=EF hF.tj.prt;subst aq;have cq:(aj (A++v::B)).length=(A++v::B).length*1:=by rw[lF,dH]
    refine .perm _ (vS [_,_,_,_,_] eJ σ _ _) (O6 w bi bl bo n (ck n l) ix lo A B on P aR _ vp _ eJ v _ eC.1 eC.2 hF.li hF.ll hF.ko he L7 L6 (by omega) (by omega) (.af bs (A++v::B).length (aj (A++v::B)) Js cq) hP) ?_;rintro _ _ ⟨rfl,eG,iR,gu,gm,cC,sm,rfl⟩
    have gb:((bt,[AV.int .i64 v,.int .i64 k])::(w,dA (ck n l) bi bl bo n eG aR gu)::(bi,aj ix)::(bl,aj lo)::(bo,bG (eU (v::B) on))::(bw,bL (wy++[(v,k)])++J)::(iR++(gm++σ))).Perm ((w,dA (ck n l) bi bl bo n eG aR gu)::(bi,aj ix)::(bl,aj lo)::(bo,bG (eU (v::B) on))::(iR++(gm++((bt,[AV.int .i64 v,.int .i64 k])::(bw,bL (wy++[(v,k)])++J)::σ)))):=by
     have h1:=(vS [(w,dA (ck n l) bi bl bo n eG aR gu),(bi,aj ix),(bl,aj lo),(bo,bG (eU (v::B) on))] (iR++gm) σ (bt,[AV.int .i64 v,.int .i64 k]) (bw,bL (wy++[(v,k)])++J)).symm;rw[cU,cU]at h1;exact h1
    refine⟨_,gb,?_⟩;refine aF.mk bP ?_
    rcases A4 wy with ej | ⟨w',⟨u,i⟩,ej⟩
    ·have pU:wy.length=0:=by rw[ej];rfl
     rw[ej]at hT;obtain rfl:A=[]:=hT.SH;refine ai (p:=(0:Int)<(((IntKind.i64.wrap (((wy.length+1:Nat):Int)-1)).toNat-Int.toNat 0:Nat):Int)) (fun c3=>?_) (fun c3=>?_)
     ·rw[pR,pU]at c3;exact absurd c3 (by decide)
     ·refine .drop 0 1 (.drop 4 1 (.done ⟨rfl,ix,lo,eU (v::B) on,aR,P++[fA (v::B)],eG,iR,gu,gm,hT,cC,sm,hA,hM,rfl⟩))
    ·have ej:wy=w'++[(u,i)]:=by simpa using ej
     have pU:wy.length=w'.length+1:=by rw[ej,bB];rfl
     have iX:(IntKind.i64.wrap (((wy.length+1:Nat):Int)-1)).toNat-Int.toNat 0=w'.length+1:=pR.trans pU;have nI:IntKind.i64.wrap ((((IntKind.i64.wrap (((wy.length+1:Nat):Int)-1)).toNat-Int.toNat 0:Nat):Int)-1)=((w'.length:Nat):Int):=by rw[iX,jF (by omega)];omega
     have yT:(0+Int.toNat 0*2)+(IntKind.i64.wrap ((((IntKind.i64.wrap (((wy.length+1:Nat):Int)-1)).toNat-Int.toNat 0:Nat):Int)-1)).toNat*2+0=w'.length*2:=by rw[nI,bD];show 0+0*2+_+0=_;omega
     have nR:bL (wy++[(v,k)])++J=bL (w'++[(u,i)])++([.int .i64 v,.int .i64 k]++J):=by rw[ej,ov,cU];rfl
     have qk:ef ⟨.int .i64,1,8,[.int .i64 0]⟩ (bL (wy++[(v,k)])++J) ((0+Int.toNat 0*2)+(IntKind.i64.wrap ((((IntKind.i64.wrap (((wy.length+1:Nat):Int)-1)).toNat-Int.toNat 0:Nat):Int)-1)).toNat*2+0)=some (.int .i64 u):=gD rfl (by rw[yT,nR];exact rJ rfl);have fJ:0≤u∧u<(n:Int):=hF.tj.node u (hF.tj.sub.subset (by rw[ej];simp));have iG:AV.af bw (0+Int.toNat 0*2) ((IntKind.i64.wrap (((wy.length+1:Nat):Int)-1)).toNat-Int.toNat 0) 2=.af bw 0 (w'.length+1) 2:=by rw[iX];rfl
     have KQ:AV.af bw 0 (w'.length+1) 2=AV.af bw (0+Int.toNat 0*2) ((IntKind.i64.wrap (((wy.length+1:Nat):Int)-1)).toNat-Int.toNat 0) 2:=iG.symm;refine ai (p:=(0:Int)<(((IntKind.i64.wrap (((wy.length+1:Nat):Int)-1)).toNat-Int.toNat 0:Nat):Int)) (fun c3=>?_) (fun c3=>?_);rotate_left
     ·rw[iX]at c3;omega
     have x9:2=2∧0≤IntKind.i64.wrap ((((IntKind.i64.wrap (((wy.length+1:Nat):Int)-1)).toNat-Int.toNat 0:Nat):Int)-1)∧IntKind.i64.wrap ((((IntKind.i64.wrap (((wy.length+1:Nat):Int)-1)).toNat-Int.toNat 0:Nat):Int)-1)<(((IntKind.i64.wrap (((wy.length+1:Nat):Int)-1)).toNat-Int.toNat 0:Nat):Int):=⟨rfl,by rw[nI];omega,by rw[nI,iX];omega⟩
     refine aF.mk x9 ?_;refine aS 5 rfl qk ?_;refine .sched [] (upto [] 23 0) (by kernel_rfl) ?_;refine aa 1 ?_;refine aa 1 ?_;refine aH ?_;refine aS 3 rfl (eZ rfl fJ.1 (by rw[hF.ll];omega)) ?_;refine aa 1 ?_;refine aa 0 ?_;refine aH ?_;refine aS 3 rfl (eZ rfl eC.1 (by rw[hF.ll];omega)) ?_;refine aH ?_;refine bM 3 rfl (lL rfl _ fJ.1 (by rw[hF.ll];omega)) ?_;have jk:(if lo.getD v.toNat 0<lo.getD u.toNat 0 then lo.getD v.toNat 0 else lo.getD u.toNat 0)=min (lo.getD u.toNat 0) (lo.getD v.toNat 0):=by split <;> omega
     have DO:0<A.length:=List.length_pos_of_mem (a:=u) (hT.tj.sub.subset (by rw[ej];simp));obtain⟨lB,oo,rfl,rfl,_⟩:=cC.pos DO;have zX:=FI.same (ej▸hF) he;rw[ej]at hT;have hE:(w,dA (ck n l) bi bl bo n (.af lB 0 A.length 1) aR gu)::(bi,aj ix)::(bl,aj (lo.set u.toNat (if lo.getD v.toNat 0<lo.getD u.toNat 0 then lo.getD v.toNat 0 else lo.getD u.toNat 0)))::(bo,bG (eU (v::B) on))::(lB,aj A++oo)::(bw,bL (wy++[(v,k)])++J)::(gm++σ)=(w,dA (ck n l) bi bl bo n (.af lB 0 A.length 1) aR gu)::(bi,aj ix)::(bl,aj (lo))::(bo,bG (eU (v::B) on))::(lB,aj A++oo)::(bw,bL (w'++[(u,i)])++([.int .i64 v,.int .i64 k]++J))::(gm++σ):=by rw[jk,zX,nR]
     refine .mk ((ix,lo,eU (v::B) on,A,aR,P++[fA (v::B)]),(lB,oo,gu,gm),(w',u,i),(bw,[AV.int .i64 v,.int .i64 k]++J)) rfl ?_ ⟨⟨hT,sm⟩,hA,hM⟩ ⟨rfl,iG,trivial⟩ (.drop 0 1 (.pull [4,4,4,4,5] (aL hE)));show iU (au n l) (w'++[(u,i)])+im (au n l) ix n<iU (au n l) (wy++[(v,k)])+im (au n l) ix n;rw[ej,lG (au n l) (w'++[(u,i)])];omega
   ·have MJ:=fun ρ=>Ru w bi bl bo n (ck n l) ix lo on aR (.af bs 0 st.length 1) vp v ρ eC.1 eC.2 hF.li hF.ll he;refine aw [4,4,4,4] (MJ _) ?_;refine aF.mk bP ?_
    rcases A4 wy with ej | ⟨w',⟨u,i⟩,ej⟩
    ·have pU:wy.length=0:=by rw[ej];rfl
     rw[ej]at hF;exact absurd hF.one he
    ·have ej:wy=w'++[(u,i)]:=by simpa using ej
     have pU:wy.length=w'.length+1:=by rw[ej,bB];rfl
     have iX:(IntKind.i64.wrap (((wy.length+1:Nat):Int)-1)).toNat-Int.toNat 0=w'.length+1:=pR.trans pU;have nI:IntKind.i64.wrap ((((IntKind.i64.wrap (((wy.length+1:Nat):Int)-1)).toNat-Int.toNat 0:Nat):Int)-1)=((w'.length:Nat):Int):=by rw[iX,jF (by omega)];omega
     have yT:(0+Int.toNat 0*2)+(IntKind.i64.wrap ((((IntKind.i64.wrap (((wy.length+1:Nat):Int)-1)).toNat-Int.toNat 0:Nat):Int)-1)).toNat*2+0=w'.length*2:=by rw[nI,bD];show 0+0*2+_+0=_;omega
     have nR:bL (wy++[(v,k)])++J=bL (w'++[(u,i)])++([.int .i64 v,.int .i64 k]++J):=by rw[ej,ov,cU];rfl
     have qk:ef ⟨.int .i64,1,8,[.int .i64 0]⟩ (bL (wy++[(v,k)])++J) ((0+Int.toNat 0*2)+(IntKind.i64.wrap ((((IntKind.i64.wrap (((wy.length+1:Nat):Int)-1)).toNat-Int.toNat 0:Nat):Int)-1)).toNat*2+0)=some (.int .i64 u):=gD rfl (by rw[yT,nR];exact rJ rfl);have fJ:0≤u∧u<(n:Int):=hF.tj.node u (hF.tj.sub.subset (by rw[ej];simp));have iG:AV.af bw (0+Int.toNat 0*2) ((IntKind.i64.wrap (((wy.length+1:Nat):Int)-1)).toNat-Int.toNat 0) 2=.af bw 0 (w'.length+1) 2:=by rw[iX];rfl
     have KQ:AV.af bw 0 (w'.length+1) 2=AV.af bw (0+Int.toNat 0*2) ((IntKind.i64.wrap (((wy.length+1:Nat):Int)-1)).toNat-Int.toNat 0) 2:=iG.symm;refine ai (p:=(0:Int)<(((IntKind.i64.wrap (((wy.length+1:Nat):Int)-1)).toNat-Int.toNat 0:Nat):Int)) (fun c3=>?_) (fun c3=>?_);rotate_left
     ·rw[iX]at c3;omega
     have x9:2=2∧0≤IntKind.i64.wrap ((((IntKind.i64.wrap (((wy.length+1:Nat):Int)-1)).toNat-Int.toNat 0:Nat):Int)-1)∧IntKind.i64.wrap ((((IntKind.i64.wrap (((wy.length+1:Nat):Int)-1)).toNat-Int.toNat 0:Nat):Int)-1)<(((IntKind.i64.wrap (((wy.length+1:Nat):Int)-1)).toNat-Int.toNat 0:Nat):Int):=⟨rfl,by rw[nI];omega,by rw[nI,iX];omega⟩
     refine aF.mk x9 ?_;refine aS 6 rfl qk ?_;refine .sched [] (upto [] 23 0) (by kernel_rfl) ?_;refine aa 0 ?_;refine aa 0 ?_;refine aH ?_;refine aS 2 rfl (eZ rfl fJ.1 (by rw[hF.ll];omega)) ?_;refine aa 0 ?_;refine aa 4 ?_;refine aH ?_;refine aS 2 rfl (eZ rfl eC.1 (by rw[hF.ll];omega)) ?_;refine aH ?_;refine bM 2 rfl (lL rfl _ fJ.1 (by rw[hF.ll];omega)) ?_;have jk:(if lo.getD v.toNat 0<lo.getD u.toNat 0 then lo.getD v.toNat 0 else lo.getD u.toNat 0)=min (lo.getD u.toNat 0) (lo.getD v.toNat 0):=by split <;> omega
     have hU:=FI.up (ej▸hF) (by omega) he;have hE:(w,dA (ck n l) bi bl bo n (.af bs 0 st.length 1) aR vp)::(bi,aj ix)::(bl,aj (lo.set u.toNat (if lo.getD v.toNat 0<lo.getD u.toNat 0 then lo.getD v.toNat 0 else lo.getD u.toNat 0)))::(bo,bG (on))::(bs,aj st++Js)::(bw,bL (wy++[(v,k)])++J)::(eJ++σ)=(w,dA (ck n l) bi bl bo n (.af bs 0 st.length 1) aR vp)::(bi,aj ix)::(bl,aj (lo.set u.toNat (min (lo.getD u.toNat 0) (lo.getD v.toNat 0))))::(bo,bG (on))::(bs,aj st++Js)::(bw,bL (w'++[(u,i)])++([.int .i64 v,.int .i64 k]++J))::(eJ++σ):=by rw[jk,nR]
     refine .mk ((ix,lo.set u.toNat (min (lo.getD u.toNat 0) (lo.getD v.toNat 0)),on,st,aR,P),(bs,Js,vp,eJ),(w',u,i),(bw,[AV.int .i64 v,.int .i64 k]++J)) rfl ?_ ⟨⟨hU,hP⟩,hA,hM⟩ ⟨rfl,iG,trivial⟩ (.drop 4 1 (aL hE));show iU (au n l) (w'++[(u,i)])+im (au n l) ix n<iU (au n l) (wy++[(v,k)])+im (au n l) ix n;rw[ej,lG (au n l) (w'++[(u,i)])];omega
 ·intro hr
  obtain⟨ix,lo,on,hF,hA,hM,heq,MP⟩:∃ix lo on,FI n (au n l) ix lo on [a] (dQ+1) P0 [(a,0)]∧ix.getD a.toNat 0≠0∧(∀b:Nat,lp.getD b 0≠0→ix.getD b 0≠0)∧lo.getD a.toNat 0=ix.getD a.toNat 0∧∀ρ,ACalls Tryz.prog 314 [.ptr w 0,.int .i64 a] ((w,dA (ck n l) bi bl bo n tz dQ fR)::(bi,aj lp)::(bl,aj ve)::(bo,bG u0)::(uG++ρ))
    (fun r σ'=>r=.agg [.int .i64 a,.int .i64 0]∧∃bs Js,σ'=(w,dA (ck n l) bi bl bo n (.af bs 0 [a].length 1) (dQ+1) fR)::(bi,aj ix)::(bl,aj lo)::(bo,bG on)::(bs,aj [a]++Js)::ρ):=by
   have h1:=h.enter (way2:=[]) ha hf (fun v hv=>by cases hv) rfl (fun t ht=>by cases ht) (fun t ht=>by cases ht);refine⟨_,_,_,h1,?_,?_,?_,fun ρ=>(zQ w bi bl bo n (ck n l) lp ve [] u0 dQ tz fR uG a ρ ha.1 ha.2 h.li h.ll h.ko hs (aV _) (by omega)).mono ?_⟩
   ·rw[mc,az ⟨rfl,by rw[h.li];omega⟩];omega
   ·intro z hz;rw[mc];split
    ·omega
    ·exact hz
   ·rw[mc,mc,az ⟨rfl,by rw[h.ll];omega⟩,az ⟨rfl,by rw[h.li];omega⟩]
   ·rintro _ _ ⟨rfl,Aq,Cx,fj,rfl⟩;obtain⟨bs,Js,rfl,rfl,_⟩:=fj.pos (by show 0<1;decide);exact⟨rfl,bs,Js,rfl⟩
  clear hf hs h;have hle:=hF.zN;have AD:=vR n l a;refine .mk [] _ (MP (ik++σ)) ?_;rintro _ _ ⟨rfl,bs,Js,rfl⟩;intro bw;refine aF.mk ⟨rfl,by decide,by decide⟩ ?_;refine .quiet (by kernel_rfl) ?_;refine aa 0 ?_;refine aa 1 ?_;refine aa 0 ?_;refine aF.mk rfl ?_;refine aY.mk (au n l a) (by omega) (oE ha) ?_;refine ai (p:=(0:Int)<(au n l a).length) (fun ab=>?_) (fun ak=>?_)
  ·have ab:0<(au n l a).length:=by omega
   obtain⟨b,hb⟩:∃b,(au n l a)[0]=b:=⟨_,rfl⟩
   have sq:b∈au n l a:=hb▸bU ab;have dV:=(kD.1 sq).1;refine .quiet (by kernel_rfl) ?_;refine aa 1 ?_;refine aa 0 ?_;refine aF.mk rfl ?_;refine aY.mk (au n l a) (by omega) (oE ha) ?_;refine aa 0 ?_;refine aF.mk rfl ?_;refine aY.mk b (by decide) ((get_some ab).trans (congrArg some hb)) ?_;refine aa 0 ?_;refine ah 0 ?_;refine aa 1 ?_;refine aH ?_;refine aS 2 rfl (eZ rfl dV.1 (by rw[hF.li];omega)) ?_;refine ai (p:=ix.getD b.toNat 0=0) (fun c1=>?_) (fun c1=>?_)
   ·have hN:=FI.new (w:=[]) hF ab hb dV c1;refine .mk [5,5,5,5,5] _ (zQ w bi bl bo n (ck n l) ix lo [a] on (dQ+1) _ fR _ b ((bw,[.int .i64 a,.int .i64 1])::(ik++σ)) dV.1 dV.2 hF.li hF.ll hF.ko (.af bs 1 (aj [a]) Js rfl) (by show 1≤10000;decide) (by omega)) ?_;rintro _ _ ⟨rfl,Aq,Cx,fj,rfl⟩;obtain⟨lB,oo,rfl,rfl,_⟩:=fj.pos (by show 0<2;decide);intro ax;refine xK (k:=1) (n:=1) [_,_,_,_,_,_] (.af bw 1 (bL [(a,1)]) [] rfl) (.af 0 ax 0 1 _ rfl (cj rfl)) rfl (by decide) (by decide) (by decide) (fun v' aJ h'=>?_);obtain⟨om,J2,rfl,rfl,_⟩:=h'.pos (by decide);refine vV hr ((ix.set b.toNat ((dQ+1+1:Nat):Int),lo.set b.toNat ((dQ+1+1:Nat):Int),on.set b.toNat true,[a]++[b],dQ+1+1,P0),(lB,oo,fR,ik),([(a,1)],b,0),(om,J2)) ⟨rfl,⟨⟨hN,hp⟩,?_,?_⟩,⟨rfl,rfl,trivial⟩,.drop 0 1 (aL rfl)⟩
    ·show (ix.set b.toNat ((dQ+1+1:Nat):Int)).getD a.toNat 0≠0;rw[mc];split
     ·omega
     ·exact hA
    ·intro z hz;show (ix.set b.toNat ((dQ+1+1:Nat):Int)).getD z 0≠0;rw[mc];split
     ·omega
     ·exact hM z hz
   ·have c1:¬(ix.getD b.toNat 0=0):=c1;have pf:=hF.uZ b dV.1 dV.2;refine aa 1 ?_;refine aH ?_;refine ec.jG 4 _ _ rfl (qF rfl dV.1 (by rw[hF.ko];omega)) (fun c2=>?_) (fun c2=>?_)
    ·rw[pf]at c2;have hO:=FI.GM (w:=[]) hF ab hb (eX c2);refine .sched [] (upto [] 28 0) (by kernel_rfl) ?_;refine aa 1 ?_;refine aa 0 ?_;refine aa 1 ?_;refine aa 0 ?_;refine aH ?_;refine aS 3 rfl (eZ rfl ha.1 (by rw[hF.ll];omega)) ?_;refine aa 1 ?_;refine aH ?_;refine aS 2 rfl (eZ rfl dV.1 (by rw[hF.li];omega)) ?_;refine aH ?_;refine bM 3 rfl (lL rfl _ ha.1 (by rw[hF.ll];omega)) ?_;have jk:(if ix.getD b.toNat 0<lo.getD a.toNat 0 then ix.getD b.toNat 0 else lo.getD a.toNat 0)=min (lo.getD a.toNat 0) (ix.getD b.toNat 0):=by split <;> omega
     have hE:(w,dA (ck n l) bi bl bo n (.af bs 0 [a].length 1) (dQ+1) fR)::(bi,aj ix)::(bl,aj (lo.set a.toNat (if ix.getD b.toNat 0<lo.getD a.toNat 0 then ix.getD b.toNat 0 else lo.getD a.toNat 0)))::(bo,bG on)::(bs,aj [a]++Js)::(bw,bL [(a,1)]++[])::(ik++σ)=(w,dA (ck n l) bi bl bo n (.af bs 0 [a].length 1) (dQ+1) fR)::(bi,aj ix)::(bl,aj (lo.set a.toNat (min (lo.getD a.toNat 0) (ix.getD b.toNat 0))))::(bo,bG on)::(bs,aj [a]++Js)::(bw,bL [(a,1)]++[])::(ik++σ):=by rw[jk]
     exact vV hr ((ix,lo.set a.toNat (min (lo.getD a.toNat 0) (ix.getD b.toNat 0)),on,[a],dQ+1,P0),(bs,Js,fR,ik),([],a,1),(bw,[])) ⟨rfl,⟨⟨hO,hp⟩,hA,hM⟩,⟨rfl,rfl,trivial⟩,.pull [5,5,5,5,5] (aL hE)⟩
    ·rw[pf]at c2;have hO:=FI.off (w:=[]) hF ab hb dV.1 c1 (py c2);exact vV hr ((ix,lo,on,[a],dQ+1,P0),(bs,Js,fR,ik),([],a,1),(bw,[])) ⟨rfl,⟨⟨hO,hp⟩,hA,hM⟩,⟨rfl,rfl,trivial⟩,.pull [5,5,5,5,5] (aL rfl)⟩
  ·have ak:(au n l a).length=0:=by omega
   refine aa 0 ?_;intro ax;refine ah 0 ?_;refine aa 0 ?_;have hT:=FI.tell (w:=[]) (A:=[]) (B:=[]) (part:=fA [a]) hF (by omega) rfl heq (fun x y hy=>(kD.1 hy).1) (Bf [a]) (Et (by simp));have DJ:=EF hF.tj.prt
   have Lg:((w,dA (ck n l) bi bl bo n (.af bs 0 [a].length 1) (dQ+1) fR)::(bi,aj ix)::(bl,aj lo)::(bo,bG on)::(bs,aj [a]++Js)::(ik++((ax,[AV.int .i64 a,.int .i64 0])::(bw,[AV.int .i64 a,.int .i64 0])::σ))).Perm ((ax,[AV.int .i64 a,.int .i64 0])::(bw,[AV.int .i64 a,.int .i64 0])::(w,dA (ck n l) bi bl bo n (.af bs 0 [a].length 1) (dQ+1) fR)::(bi,aj ix)::(bl,aj lo)::(bo,bG on)::(bs,aj [a]++Js)::(ik++σ)):=by
    have h1:=vS [(w,dA (ck n l) bi bl bo n (.af bs 0 [a].length 1) (dQ+1) fR),(bi,aj ix),(bl,aj lo),(bo,bG on),(bs,aj [a]++Js)] ik σ (ax,[AV.int .i64 a,.int .i64 0]) (bw,[AV.int .i64 a,.int .i64 0]);exact h1.trans (List.Perm.cons _ (ns (l₁:=[(w,dA (ck n l) bi bl bo n (.af bs 0 [a].length 1) (dQ+1) fR),(bi,aj ix),(bl,aj lo),(bo,bG on),(bs,aj [a]++Js)])))
   refine .perm _ Lg (O6 w bi bl bo n (ck n l) ix lo [] [] on P0 (dQ+1) _ fR _ ik a _ ha.1 ha.2 hF.li hF.ll hF.ko heq (by simp) (fun x hx=>by rw[List.mem_singleton.1 hx];exact ha) (by show 1≤10000;decide) (by omega) (.af bs 1 (aj [a]) Js rfl) hp) ?_;rintro _ _ ⟨rfl,eG,iR,gu,gm,cC,sm,rfl⟩
   have gb:((ax,[AV.int .i64 a,.int .i64 0])::(w,dA (ck n l) bi bl bo n eG (dQ+1) gu)::(bi,aj ix)::(bl,aj lo)::(bo,bG (eU [a] on))::(bw,[AV.int .i64 a,.int .i64 0])::(iR++(gm++σ))).Perm ((w,dA (ck n l) bi bl bo n eG (dQ+1) gu)::(bi,aj ix)::(bl,aj lo)::(bo,bG (eU [a] on))::(iR++(gm++((ax,[AV.int .i64 a,.int .i64 0])::(bw,[AV.int .i64 a,.int .i64 0])::σ)))):=by
    have h1:=(vS [(w,dA (ck n l) bi bl bo n eG (dQ+1) gu),(bi,aj ix),(bl,aj lo),(bo,bG (eU [a] on))] (iR++gm) σ (ax,[AV.int .i64 a,.int .i64 0]) (bw,[AV.int .i64 a,.int .i64 0])).symm;rw[cU,cU]at h1;exact h1
   refine⟨_,gb,?_⟩;refine aF.mk (by decide) ?_;exact .drop 0 1 (.drop 4 1 (.done ⟨rfl,ix,lo,eU [a] on,dQ+1,P0++[fA [a]],eG,iR,gu,gm,hT,cC,sm,hA,hM,rfl⟩))
end Go.Proofs.YtnikdflhefijbaaGreat
