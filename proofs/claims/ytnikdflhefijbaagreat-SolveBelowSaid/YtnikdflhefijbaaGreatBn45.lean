import Derived.Test.YtnikdflhefijbaaGreatBn1
namespace Go.Proofs.YtnikdflhefijbaaGreat
set_option maxRecDepth 100000
set_option maxHeartbeats 4000000
namespace SX
structure AP where
 n:Nat
 W:Nat
 k:Nat
 nx:Nat→List Nat
 jw:Int→Int→Int
 out:Nat→List Int→List Int
 ok:Nat→Int→Prop
 CX:∀{v u},v<n→u∈nx v→u<n
 idem:∀{i x},ok i x→jw x x=x
 comm:∀{i x y},ok i x→ok i y→jw x y=jw y x
 assoc:∀{i x y z},ok i x→ok i y→ok i z→jw (jw x y) z=jw x (jw y z)
 M1:∀{i x y},ok i x→ok i y→ok i (jw x y)
 Hf:∀{v y},v<n→y.length=W→(∀i,i<W→ok i (y.getD i 0))→(out v y).length=W∧∀i,i<W→ok i ((out v y).getD i 0)
 mono:∀{v y z},v<n→y.length=W→z.length=W→(∀i,i<W→ok i (y.getD i 0))→(∀i,i<W→ok i (z.getD i 0))→(∀i,i<W→jw (y.getD i 0) (z.getD i 0)=z.getD i 0)→∀i,i<W→jw ((out v y).getD i 0) ((out v z).getD i 0)=(out v z).getD i 0
inductive Ph where
 |idle (d a:Nat)
 |held (v:Nat)
 |clear (v:Nat)
 |read (v:Nat) (y:List Int)
 |join (v:Nat) (o:List Int) (u:Nat) (r:List Nat) (at_:Nat) (ld:Option Int) (ch:Bool)
 |take (v:Nat) (o:List Int) (u:Nat) (r:List Nat)
 |add (v:Nat) (o:List Int) (u:Nat) (r:List Nat)
 |push (v:Nat) (o:List Int) (u:Nat) (r:List Nat) (a:Nat)
 |dT (v:Nat)
 |done
structure AS where
 cell:Nat→Nat→Int
 flag:Nat→Bool
 aG:Nat
 dq:List (List Nat)
 ph:List Ph
 ev:Nat
 jo:Nat
def fN(v:Nat)(o:List Int):List Nat→Ph
 | []=>.dT v
 |u::r=>.join v o u r 0 none false
def mw(A:AP)(c:Nat→Nat→Int)(v:Nat):List Int:=(List.range A.W).map (c v)
def eC(c:Nat→Nat→Int)(v i:Nat)(x:Int):Nat→Nat→Int:=fun v' i'=>if v'=v∧i'=i then x else c v' i'
def eV(A:AP)(v:Nat)(o:List Int)(u:Nat)(r:List Nat)(at_:Nat)(ch:Bool):Ph×Nat:=
 if at_+1<A.W then (.join v o u r (at_+1) none ch,0) else if ch=true then (.take v o u r,1) else (fN v o r,0)
inductive Tr(A:AP)(S:AS)(i:Nat):AS→Prop where
 |stay (h:S.ph[i]?=some .done∨S.ph[i]?=none):Tr A S i S
 |yF (a:Nat) (h:S.ph[i]?=some (.idle 0 a)) (ha:a<5):Tr A S i { S with ph:=S.ph.set i (.idle 0 (a+1)) }
 |yG (a:Nat) (h:S.ph[i]?=some (.idle 0 a)) (hd:S.dq[i]?=some []):Tr A S i { S with ph:=S.ph.set i (.idle (if A.k<2 then 2 else 1) 0) }
 |pop (v:Nat) (c:List Nat) (a:Nat) (h:S.ph[i]?=some (.idle 0 a)) (hd:S.dq[i]?=some (c++[v])):Tr A S i { S with dq:=S.dq.set i c,ph:=S.ph.set i (.clear v) }
 |cas (v:Nat) (a:Nat) (h:S.ph[i]?=some (.idle 0 a)) (hd:S.dq[i]?=some [v]):Tr A S i { S with dq:=S.dq.set i [],ph:=S.ph.set i (.held v) }
 |ze (v:Nat) (h:S.ph[i]?=some (.held v)):Tr A S i { S with ph:=S.ph.set i (.clear v) }
 |yf (a:Nat) (h:S.ph[i]?=some (.idle 1 a)) (ha:a<3):Tr A S i { S with ph:=S.ph.set i (.idle 1 (a+1)) }
 |yg (a:Nat) (h:S.ph[i]?=some (.idle 1 a)):Tr A S i { S with ph:=S.ph.set i (.idle 2 0) }
 |cu (j v:Nat) (c:List Nat) (a:Nat) (h:S.ph[i]?=some (.idle 1 a)) (hd:S.dq[j]?=some (v::c)):Tr A S i { S with dq:=S.dq.set j c,ph:=S.ph.set i (.clear v) }
 |ask (h:S.ph[i]?=some (.idle 2 0)) (hc:S.aG≠0):Tr A S i { S with ph:=S.ph.set i (.idle (if A.k<2 then 0 else 1) 0) }
 |clear (v:Nat) (h:S.ph[i]?=some (.clear v)):Tr A S i { S with flag:=fun z=>if z=v then false else S.flag z,ph:=S.ph.set i (.read v []) }
 |yo (v:Nat) (y:List Int) (h:S.ph[i]?=some (.read v y)) (hy:y.length+1<A.W):Tr A S i { S with ph:=S.ph.set i (.read v (y++[S.cell v y.length])) }
 |yp (v:Nat) (y y':List Int) (h:S.ph[i]?=some (.read v y)) (hy:(y.length+1=A.W∧y'=y++[S.cell v y.length])∨(A.W=0∧y'=[])):Tr A S i { S with ph:=S.ph.set i (fN v (A.out v y') (A.nx v)),ev:=S.ev+1 }
 |load (v:Nat) (o:List Int) (u:Nat) (r:List Nat) (at_:Nat) (ch:Bool) (h:S.ph[i]?=some (.join v o u r at_ none ch)) (ha:at_<A.W) (hx:A.jw (S.cell u at_) (o.getD at_ 0)≠S.cell u at_):Tr A S i { S with ph:=S.ph.set i (.join v o u r at_ (some (S.cell u at_)) ch) }
 |same (v:Nat) (o:List Int) (u:Nat) (r:List Nat) (at_:Nat) (ch:Bool) (h:S.ph[i]?=some (.join v o u r at_ none ch)) (ha:at_<A.W) (hx:A.jw (S.cell u at_) (o.getD at_ 0)=S.cell u at_):Tr A S i { S with ph:=S.ph.set i (eV A v o u r at_ ch).1,jo:=S.jo+(eV A v o u r at_ ch).2 }
 |lost (v:Nat) (o:List Int) (u:Nat) (r:List Nat) (at_:Nat) (ch:Bool) (x:Int) (h:S.ph[i]?=some (.join v o u r at_ (some x) ch)) (ha:at_<A.W) (hx:S.cell u at_≠x):Tr A S i { S with ph:=S.ph.set i (.join v o u r at_ none ch) }
 |yT (v:Nat) (o:List Int) (u:Nat) (r:List Nat) (at_:Nat) (ch:Bool) (h:S.ph[i]?=some (.join v o u r at_ (some (S.cell u at_)) ch)) (ha:at_<A.W) (hx:A.jw (S.cell u at_) (o.getD at_ 0)≠S.cell u at_):Tr A S i { S with cell:=eC S.cell u at_ (A.jw (S.cell u at_) (o.getD at_ 0)),ph:=S.ph.set i (eV A v o u r at_ true).1,jo:=S.jo+(eV A v o u r at_ true).2 }
 |none (v:Nat) (o:List Int) (u:Nat) (r:List Nat) (h:S.ph[i]?=some (.join v o u r 0 none false)) (ha:A.W=0):Tr A S i { S with ph:=S.ph.set i (fN v o r) }
 |flag (v:Nat) (o:List Int) (u:Nat) (r:List Nat) (h:S.ph[i]?=some (.take v o u r)) (hf:S.flag u=false):Tr A S i { S with flag:=fun z=>if z=u then true else S.flag z,ph:=S.ph.set i (.add v o u r) }
 |yJ (v:Nat) (o:List Int) (u:Nat) (r:List Nat) (h:S.ph[i]?=some (.take v o u r)) (hf:S.flag u=true):Tr A S i { S with ph:=S.ph.set i (fN v o r) }
 |add (v:Nat) (o:List Int) (u:Nat) (r:List Nat) (h:S.ph[i]?=some (.add v o u r)):Tr A S i { S with aG:=S.aG+1,ph:=S.ph.set i (.push v o u r 0) }
 |yq (v:Nat) (o:List Int) (u:Nat) (r:List Nat) (a:Nat) (h:S.ph[i]?=some (.push v o u r a)) (ha:a<3):Tr A S i { S with ph:=S.ph.set i (.push v o u r (a+1)) }
 |push (v:Nat) (o:List Int) (u:Nat) (r:List Nat) (c:List Nat) (h:S.ph[i]?=some (.push v o u r 3)) (hd:S.dq[i]?=some c):Tr A S i { S with dq:=S.dq.set i (c++[u]),ph:=S.ph.set i (fN v o r) }
 |dT (v:Nat) (h:S.ph[i]?=some (.dT v)):Tr A S i { S with aG:=S.aG-1,ph:=S.ph.set i (.idle 0 0) }
 |yD (h:S.ph[i]?=some (.idle 2 0)) (hc:S.aG=0):Tr A S i { S with ph:=S.ph.set i .done }
def aK{α:Type}(f:α→Nat)(l:List α):Nat:=(l.map f).sum
theorem fF{α:Type}(f:α→Nat):∀(l:List α) (i:Nat) (x y:α),l[i]?=some x→aK f (l.set i y)+f x=aK f l+f y
 |a::l,0,x,y,h=>by
  simp at h;subst h
  show f y+aK f l+f a=f a+aK f l+f y
  omega
 |a::l,i+1,x,y,h=>by
  have:=fF f l i x y (by simpa using h)
  show f a+aK f (l.set i y)+f x=f a+aK f l+f y
  omega
theorem Cl{α:Type}(f:α→Nat):∀(l:List α) (i:Nat) (x:α),l[i]?=some x→f x≤aK f l
 |a::l,0,x,h=>by
  simp at h;subst h
  show f a≤f a+aK f l
  omega
 |a::l,i+1,x,h=>by
  have:=Cl f l i x (by simpa using h)
  show f x≤f a+aK f l
  omega
def qb:Ph→List Nat
 |.held v | .clear v=>[v]
 |.add _ _ u _ | .push _ _ u _ _=>[u]
 |_=>[]
def iZ(z:Nat)(p:Ph):Nat:=(qb p).count z
def tok(S:AS)(v:Nat):Nat:=aK (fun l=>l.count v) S.dq+aK (iZ v) S.ph
def cw:Ph→Nat
 |.idle _ _ | .done=>0
 |.push .. => 2
 |_=>1
def nodes:Ph→List Nat
 |.idle _ _ | .done=>[]
 |.held v | .clear v | .read v _ | .dT v=>[v]
 |.join v _ u r _ _ _ | .take v _ u r | .add v _ u r | .push v _ u r _=>v::u::r
structure TI(A:AP)(S:AS):Prop where
 tok:∀v,tok S v=if S.flag v then 1 else 0
 aG:S.aG=aK List.length S.dq+aK cw S.ph
 nG:∀c∈S.dq,∀v∈c,v<A.n
 sf:∀p∈S.ph,∀v∈nodes p,v<A.n
theorem Cy(v:Nat)(o:List Int)(r:List Nat):cw (fN v o r)=1:=by cases r <;> rfl
theorem Cd(v:Nat)(o:List Int)(r:List Nat):qb (fN v o r)=[]:=by cases r <;> rfl
theorem BH{v:Nat}{o:List Int}{r:List Nat}{z:Nat}(h:z∈nodes (fN v o r)):z=v∨z∈r:=by
 cases r with
 |nil=>simp[fN,nodes]at h;exact .inl h
 |cons u r=>simp[fN,nodes]at h;simp;omega
theorem RY(A:AP)(v:Nat)(o:List Int)(u:Nat)(r:List Nat)(at_:Nat)(ch:Bool):cw (eV A v o u r at_ ch).1=1:=by
 unfold eV;split
 ·rfl
 ·split
  ·rfl
  ·exact Cy _ _ _
theorem QI(A:AP)(v:Nat)(o:List Int)(u:Nat)(r:List Nat)(at_:Nat)(ch:Bool):qb (eV A v o u r at_ ch).1=[]:=by
 unfold eV;split
 ·rfl
 ·split
  ·rfl
  ·exact Cd _ _ _
theorem Pf{A:AP}{v:Nat}{o:List Int}{u:Nat}{r:List Nat}{at_:Nat}{ch:Bool}{z:Nat}(h:z∈nodes (eV A v o u r at_ ch).1):z∈v::u::r:=by
 revert h
 unfold eV;split
 ·exact id
 ·split
  ·exact id
  ·intro h
   rcases BH h with h | h <;> simp[h]
theorem TI.ph{A:AP}{S:AS}(h:TI A S){i:Nat}{p q:Ph}(hi:S.ph[i]?=some p)(ht:qb q=qb p)(hc:cw q=cw p)(hn:∀z∈nodes q,z<A.n){S':AS}(e1:S'.flag=S.flag)(e2:S'.aG=S.aG)(e3:S'.dq=S.dq)(e4:S'.ph=S.ph.set i q):TI A S':=by
 refine⟨fun v=>?_,?_,?_,?_⟩
 ·have:=fF (iZ v) S.ph i p q hi
  have e0:iZ v q=iZ v p:=by unfold iZ;rw[ht]
  have h1:=h.tok v
  unfold SX.tok at h1 ⊢
  rw[e1,e3,e4]
  omega
 ·have:=fF cw S.ph i p q hi
  have h1:=h.aG
  rw[e2,e3,e4]
  omega
 ·rw[e3];exact h.nG
 ·rw[e4]
  intro x hx v hv
  rcases qD hx with hx | rfl
  ·exact h.sf x hx v hv
  ·exact hn v hv
theorem TI.at_{A:AP}{S:AS}(h:TI A S){i:Nat}{p:Ph}(hi:S.ph[i]?=some p){v:Nat}(hv:v∈nodes p):v<A.n:=h.sf p (cq hi) v hv
theorem vW{S:AS}{A:AP}(h:∀p∈S.ph,∀v∈nodes p,v<A.n){i:Nat}{q:Ph}(hn:∀z∈nodes q,z<A.n):∀p∈S.ph.set i q,∀v∈nodes p,v<A.n:=by
 intro x hx v hv
 rcases qD hx with hx | rfl
 ·exact h x hx v hv
 ·exact hn v hv
theorem Fj{S:AS}{A:AP}(h:∀c∈S.dq,∀v∈c,v<A.n){i:Nat}{c:List Nat}(hn:∀z∈c,z<A.n):∀c'∈S.dq.set i c,∀v∈c',v<A.n:=by
 intro x hx v hv
 rcases qD hx with hx | rfl
 ·exact h x hx v hv
 ·exact hn v hv
theorem zT(a b:Nat):[a].count b=if a=b then 1 else 0:=by
 rw[List.count_singleton]
 by_cases h:a=b <;> simp[h]
theorem TI.step{A:AP}{S S':AS}{i:Nat}(h:TI A S)(hs:Tr A S i S'):TI A S':=by
 cases hs with
 |stay=>exact h
 |yF a hp ha=>exact h.ph (q:=.idle 0 (a+1)) hp rfl rfl (by simp[nodes]) rfl rfl rfl rfl
 |yG a hp hd=>exact h.ph (q:=.idle (if A.k<2 then 2 else 1) 0) hp rfl rfl (by simp[nodes]) rfl rfl rfl rfl
 |yf a hp ha=>exact h.ph (q:=.idle 1 (a+1)) hp rfl rfl (by simp[nodes]) rfl rfl rfl rfl
 |yg a hp=>exact h.ph (q:=.idle 2 0) hp rfl rfl (by simp[nodes]) rfl rfl rfl rfl
 |ask hp hc=>exact h.ph (q:=.idle (if A.k<2 then 0 else 1) 0) hp rfl rfl (by simp[nodes]) rfl rfl rfl rfl
 |yq v o u r a hp ha=>exact h.ph (q:=.push v o u r (a+1)) hp rfl rfl (fun z hz=>h.at_ hp hz) rfl rfl rfl rfl
 |pop v c a hp hd=>
  have hv:v<A.n:=h.nG _ (List.mem_of_getElem? hd) v (by simp)
  refine⟨fun z=>?_,?_,Fj h.nG (fun z hz=>h.nG _ (List.mem_of_getElem? hd) z (by simp[hz])),vW h.sf (by simpa [nodes]using hv)⟩
  ·have k1:=fF (iZ z) S.ph i _ (.clear v) hp
   have k2:=fF (fun l=>l.count z) S.dq i _ c hd
   have k3:=h.tok z
   unfold SX.tok at k3 ⊢
   simp only[iZ,qb,List.count_append,zT,Ey]at k1 k2
   show aK _ (S.dq.set i c)+aK _ (S.ph.set i (.clear v))=if S.flag z then 1 else 0
   omega
  ·have k1:=fF cw S.ph i _ (.clear v) hp
   have k2:=fF List.length S.dq i _ c hd
   have k3:=h.aG
   simp only[cw,bQ,sF]at k1 k2
   show S.aG=aK List.length (S.dq.set i c)+aK cw (S.ph.set i (.clear v))
   omega
 |cas v a hp hd=>
  have hv:v<A.n:=h.nG _ (List.mem_of_getElem? hd) v (by simp)
  refine⟨fun z=>?_,?_,Fj h.nG (fun z hz=>by cases hz),vW h.sf (by simpa [nodes]using hv)⟩
  ·have k1:=fF (iZ z) S.ph i _ (.held v) hp
   have k2:=fF (fun l=>l.count z) S.dq i _ [] hd
   have k3:=h.tok z
   unfold SX.tok at k3 ⊢
   simp only[iZ,qb,zT,Ey]at k1 k2
   show aK _ (S.dq.set i [])+aK _ (S.ph.set i (.held v))=if S.flag z then 1 else 0
   omega
  ·have k1:=fF cw S.ph i _ (.held v) hp
   have k2:=fF List.length S.dq i _ [] hd
   have k3:=h.aG
   simp only[cw,List.length_nil,sF]at k1 k2
   show S.aG=aK List.length (S.dq.set i [])+aK cw (S.ph.set i (.held v))
   omega
 |ze v hp=>exact h.ph (q:=.clear v) hp rfl rfl (by have:=h.at_ hp (v:=v) (by simp[nodes]);simpa [nodes]using this) rfl rfl rfl rfl
 |cu j v c a hp hd=>
  have hv:v<A.n:=h.nG _ (List.mem_of_getElem? hd) v (by simp)
  refine⟨fun z=>?_,?_,Fj h.nG (fun z hz=>h.nG _ (List.mem_of_getElem? hd) z (by simp[hz])),vW h.sf (by simpa [nodes]using hv)⟩
  ·have k1:=fF (iZ z) S.ph i _ (.clear v) hp
   have k2:=fF (fun l=>l.count z) S.dq j _ c hd
   have k3:=h.tok z
   unfold SX.tok at k3 ⊢
   have k4:(v::c).count z=[v].count z+c.count z:=by rw[← List.count_append];rfl
   simp only[iZ,qb,zT,Ey,k4]at k1 k2
   show aK _ (S.dq.set j c)+aK _ (S.ph.set i (.clear v))=if S.flag z then 1 else 0
   omega
  ·have k1:=fF cw S.ph i _ (.clear v) hp
   have k2:=fF List.length S.dq j _ c hd
   have k3:=h.aG
   simp only[cw,ie]at k1 k2
   show S.aG=aK List.length (S.dq.set j c)+aK cw (S.ph.set i (.clear v))
   omega
 |clear v hp=>
  have hv:=h.at_ hp (v:=v) (by simp[nodes])
  refine⟨fun z=>?_,?_,h.nG,vW h.sf (by simpa [nodes]using hv)⟩
  ·have k1:=fF (iZ z) S.ph i _ (.read v []) hp
   have k3:=h.tok z
   have k5:=Cl (iZ z) S.ph i _ hp
   unfold SX.tok at k3 ⊢
   simp only[iZ,qb,zT,Ey]at k1 k5
   show aK _ S.dq+aK _ (S.ph.set i (.read v []))=if (if z=v then false else S.flag z) then 1 else 0
   by_cases hz:v=z
   ·subst hz
    simp only[if_true]at k1 k5 ⊢
    split at k3 <;> simp <;> omega
   ·have ez:(if z=v then false else S.flag z)=S.flag z:=ah fun e=>hz e.symm
    rw[ez]
    simp only[ah hz]at k1
    omega
  ·have k1:=fF cw S.ph i _ (.read v []) hp
   have k3:=h.aG
   simp only[cw]at k1
   show S.aG=aK List.length S.dq+aK cw (S.ph.set i (.read v []))
   omega
 |yo v y hp hy=>exact h.ph (q:=.read v (y++[S.cell v y.length])) hp rfl rfl (by have:=h.at_ hp (v:=v) (by simp[nodes]);simpa [nodes]using this) rfl rfl rfl rfl
 |yp v y y' hp hy=>
  have hv:=h.at_ hp (v:=v) (by simp[nodes])
  exact h.ph (q:=fN v (A.out v y') (A.nx v)) hp (Cd _ _ _) (Cy _ _ _) (fun z hz=>by
   rcases BH hz with rfl | hz
   ·exact hv
   ·exact A.CX hv hz) rfl rfl rfl rfl
 |load v o u r at_ ch hp ha hx=>exact h.ph (q:=.join v o u r at_ (some (S.cell u at_)) ch) hp rfl rfl (fun z hz=>h.at_ hp hz) rfl rfl rfl rfl
 |same v o u r at_ ch hp ha hx=>exact h.ph (q:=(eV A v o u r at_ ch).1) hp (QI ..) (RY ..) (fun z hz=>h.at_ hp (Pf hz)) rfl rfl rfl rfl
 |lost v o u r at_ ch x hp ha hx=>exact h.ph (q:=.join v o u r at_ none ch) hp rfl rfl (fun z hz=>h.at_ hp hz) rfl rfl rfl rfl
 |yT v o u r at_ ch hp ha hx=>exact h.ph (q:=(eV A v o u r at_ true).1) hp (QI ..) (RY ..) (fun z hz=>h.at_ hp (Pf hz)) rfl rfl rfl rfl
 |none v o u r hp ha=>exact h.ph (q:=fN v o r) hp (Cd _ _ _) (Cy _ _ _) (fun z hz=>h.at_ hp (by rcases BH hz with hz | hz <;> simp[nodes,hz])) rfl rfl rfl rfl
 |flag v o u r hp hf=>
  refine⟨fun z=>?_,?_,h.nG,vW h.sf (fun z hz=>h.at_ hp hz)⟩
  ·have k1:=fF (iZ z) S.ph i _ (.add v o u r) hp
   have k3:=h.tok z
   unfold SX.tok at k3 ⊢
   simp only[iZ,qb,zT,Ey]at k1
   show aK _ S.dq+aK _ (S.ph.set i (.add v o u r))=if (if z=u then true else S.flag z) then 1 else 0
   by_cases hz:u=z
   ·subst hz
    rw[hf]at k3
    simp at k1 k3 ⊢
    omega
   ·have ez:(if z=u then true else S.flag z)=S.flag z:=ah fun e=>hz e.symm
    rw[ez]
    simp only[ah hz]at k1
    omega
  ·have k1:=fF cw S.ph i _ (.add v o u r) hp
   have k3:=h.aG
   simp only[cw]at k1
   show S.aG=aK List.length S.dq+aK cw (S.ph.set i (.add v o u r))
   omega
 |yJ v o u r hp hf=>exact h.ph (q:=fN v o r) hp (Cd _ _ _) (Cy _ _ _) (fun z hz=>h.at_ hp (by rcases BH hz with hz | hz <;> simp[nodes,hz])) rfl rfl rfl rfl
 |add v o u r hp=>
  refine⟨fun z=>?_,?_,h.nG,vW h.sf (fun z hz=>h.at_ hp hz)⟩
  ·have k1:=fF (iZ z) S.ph i _ (.push v o u r 0) hp
   have k3:=h.tok z
   unfold SX.tok at k3 ⊢
   simp only[iZ,qb]at k1
   show aK _ S.dq+aK _ (S.ph.set i (.push v o u r 0))=if S.flag z then 1 else 0
   omega
  ·have k1:=fF cw S.ph i _ (.push v o u r 0) hp
   have k3:=h.aG
   simp only[cw]at k1
   show S.aG+1=aK List.length S.dq+aK cw (S.ph.set i (.push v o u r 0))
   omega
 |push v o u r c hp hd=>
  have hu:=h.at_ hp (v:=u) (by simp[nodes])
  refine⟨fun z=>?_,?_,Fj h.nG (fun z hz=>?_),vW h.sf (fun z hz=>h.at_ hp (by rcases BH hz with hz | hz <;> simp[nodes,hz]))⟩
  ·have k1:=fF (iZ z) S.ph i _ (fN v o r) hp
   have k2:=fF (fun l=>l.count z) S.dq i _ (c++[u]) hd
   have k3:=h.tok z
   unfold SX.tok at k3 ⊢
   have e0:iZ z (fN v o r)=0:=by unfold iZ;rw[Cd];rfl
   rw[e0]at k1
   simp only[iZ,qb,List.count_append,zT]at k1 k2
   show aK _ (S.dq.set i (c++[u]))+aK _ (S.ph.set i (fN v o r))=if S.flag z then 1 else 0
   omega
  ·have k1:=fF cw S.ph i _ (fN v o r) hp
   have k2:=fF List.length S.dq i _ (c++[u]) hd
   have k3:=h.aG
   rw[Cy]at k1
   simp only[cw,bQ,sF]at k1 k2
   show S.aG=aK List.length (S.dq.set i (c++[u]))+aK cw (S.ph.set i (fN v o r))
   omega
  ·rcases bO.1 hz with hz | hz
   ·exact h.nG _ (cq hd) z hz
   ·rw[bh.1 hz];exact hu
 |dT v hp=>
  refine⟨fun z=>?_,?_,h.nG,vW h.sf (by simp[nodes])⟩
  ·have k1:=fF (iZ z) S.ph i _ (.idle 0 0) hp
   have k3:=h.tok z
   unfold SX.tok at k3 ⊢
   simp only[iZ,qb]at k1
   show aK _ S.dq+aK _ (S.ph.set i (.idle 0 0))=if S.flag z then 1 else 0
   omega
  ·have k1:=fF cw S.ph i _ (.idle 0 0) hp
   have k3:=h.aG
   simp only[cw]at k1
   show S.aG-1=aK List.length S.dq+aK cw (S.ph.set i (.idle 0 0))
   omega
 |yD hp hc=>exact h.ph (q:=.done) hp rfl rfl (by simp[nodes]) rfl rfl rfl rfl
end SX
end Go.Proofs.YtnikdflhefijbaaGreat
namespace Go.Proofs.YtnikdflhefijbaaGreat
set_option maxRecDepth 100000
set_option maxHeartbeats 4000000
namespace SX
variable {A:AP}
theorem le_trans{i:Nat}{x y z:Int}(hx:A.ok i x)(hy:A.ok i y)(hz:A.ok i z)(h1:A.jw x y=y)(h2:A.jw y z=z):A.jw x z=z:=by
 rw[← h2,← A.assoc hx hy hz,h1]
theorem K5{i:Nat}{x y:Int}(hx:A.ok i x)(hy:A.ok i y):A.jw x (A.jw x y)=A.jw x y:=by
 rw[← A.assoc hx hx hy,A.idem hx]
theorem RS{i:Nat}{x y:Int}(hx:A.ok i x)(hy:A.ok i y):A.jw y (A.jw x y)=A.jw x y:=by
 rw[A.comm hx hy,← A.assoc hy hy hx,A.idem hy]
theorem aci{i:Nat}{x y z:Int}(hx:A.ok i x)(hy:A.ok i y)(hz:A.ok i z)(h1:A.jw x z=z)(h2:A.jw y z=z):A.jw (A.jw x y) z=z:=by
 rw[A.assoc hx hy hz,h2,h1]
theorem FM(c:Nat→Nat→Int)(v:Nat):(mw A c v).length=A.W:=by simp[mw]
theorem BX(c:Nat→Nat→Int)(v:Nat){i:Nat}(h:i<A.W):(mw A c v).getD i 0=c v i:=by
 unfold mw
 rw[aW,fo,tU h];rfl
theorem zW(c:Nat→Nat→Int)(v i:Nat)(x:Int):eC c v i x v i=x:=by simp[eC]
theorem uw{c:Nat→Nat→Int}{v i:Nat}{x:Int}{v' i':Nat}(h:¬(v'=v∧i'=i)):eC c v i x v' i'=c v' i':=by simp only[eC,ah h]
theorem Za{c:Nat→Nat→Int}{v i:Nat}{x:Int}{v':Nat}(h:v'≠v):mw A (eC c v i x) v'=mw A c v':=by
 unfold mw
 refine xD fun j _=>?_
 exact uw fun e=>h e.1
structure Df(A:AP)(b:Nat→Nat→Int)(v:Nat)(o:List Int):Prop where
 len:o.length=A.W
 ok:∀i,i<A.W→A.ok i (o.getD i 0)
 low:∀u∈A.nx v,∀i,i<A.W→A.jw (o.getD i 0) (b u i)=b u i
def u0(A:AP)(b cell:Nat→Nat→Int):Ph→Prop
 |.read v y=>(y.length<A.W∨(A.W=0∧y=[]))∧∀i,i<y.length→A.ok i (y.getD i 0)∧A.jw (y.getD i 0) (cell v i)=cell v i
 |.join v o u r at_ ld _=>Df A b v o∧u∈A.nx v∧(∀z∈r,z∈A.nx v)∧(∀i,i<at_→i<A.W→A.jw (o.getD i 0) (cell u i)=cell u i)∧(∀x,ld=some x→at_<A.W)
 |.take v o u r | .add v o u r | .push v o u r _=>Df A b v o∧u∈A.nx v∧(∀z∈r,z∈A.nx v)∧(∀i,i<A.W→A.jw (o.getD i 0) (cell u i)=cell u i)
 |_=>True
structure VN(A:AP)(b:Nat→Nat→Int):Prop where
 ok:∀v i,v<A.n→i<A.W→A.ok i (b v i)
 out:∀v,v<A.n→∀u∈A.nx v,∀i,i<A.W→A.jw ((A.out v (mw A b v)).getD i 0) (b u i)=b u i
structure VI(A:AP)(b:Nat→Nat→Int)(S:AS):Prop where
 ok:∀v i,v<A.n→i<A.W→A.ok i (S.cell v i)
 low:∀v i,v<A.n→i<A.W→A.jw (S.cell v i) (b v i)=b v i
 ph:∀p∈S.ph,u0 A b S.cell p
theorem u0.afo{b cell Au:Nat→Nat→Int}{p:Ph}(h:u0 A b cell p)(hn:∀v∈nodes p,v<A.n)(h0:∀v i,v<A.n→i<A.W→A.ok i (cell v i))(h1:∀v i,v<A.n→i<A.W→A.ok i (Au v i))(h2:∀v i,v<A.n→i<A.W→A.jw (cell v i) (Au v i)=Au v i):u0 A b Au p:=by
 have key:∀{v:Nat} {o:List Int} {u:Nat} {m:Nat},Df A b v o→u<A.n→(∀i,i<m→i<A.W→A.jw (o.getD i 0) (cell u i)=cell u i)→∀i,i<m→i<A.W→A.jw (o.getD i 0) (Au u i)=Au u i:=by
  intro v o u m ho hu hj i hi hw
  exact le_trans (ho.ok i hw) (h0 u i hu hw) (h1 u i hu hw) (hj i hi hw) (h2 u i hu hw)
 cases p with
 |read v y=>
  obtain⟨h3,h4⟩:=h
  refine⟨h3,fun i hi=>⟨(h4 i hi).1,?_⟩⟩
  have hw:i<A.W:=by (rcases h3 with h3 | ⟨_,rfl⟩);exact Ev hi h3;cases hi
  have hv:=hn v (by simp[nodes])
  exact le_trans (h4 i hi).1 (h0 v i hv hw) (h1 v i hv hw) (h4 i hi).2 (h2 v i hv hw)
 |join v o u r at_ ld ch=>
  obtain⟨h3,h4,h5,h6,h7⟩:=h
  exact⟨h3,h4,h5,key h3 (hn u (by simp[nodes])) h6,h7⟩
 |take v o u r=>
  obtain⟨h3,h4,h5,h6⟩:=h
  exact⟨h3,h4,h5,fun i hi=>key (m:=A.W) h3 (hn u (by simp[nodes])) (fun i _ hw=>h6 i hw) i hi hi⟩
 |add v o u r=>
  obtain⟨h3,h4,h5,h6⟩:=h
  exact⟨h3,h4,h5,fun i hi=>key (m:=A.W) h3 (hn u (by simp[nodes])) (fun i _ hw=>h6 i hw) i hi hi⟩
 |push v o u r a=>
  obtain⟨h3,h4,h5,h6⟩:=h
  exact⟨h3,h4,h5,fun i hi=>key (m:=A.W) h3 (hn u (by simp[nodes])) (fun i _ hw=>h6 i hw) i hi hi⟩
 |_=>trivial
theorem Cw{b cell:Nat→Nat→Int}{v:Nat}{o:List Int}{r:List Nat}(h:Df A b v o)(hr:∀z∈r,z∈A.nx v):u0 A b cell (fN v o r):=by
 cases r with
 |nil=>trivial
 |cons u r=>exact⟨h,hr u (by simp),fun z hz=>hr z (by simp[hz]),fun i hi=>absurd hi (Nat.not_lt_zero _),fun x hx=>by cases hx⟩
theorem RW{b cell:Nat→Nat→Int}{v:Nat}{o:List Int}{u:Nat}{r:List Nat}{at_:Nat}{ch:Bool}(h:Df A b v o)(hu:u∈A.nx v)(hr:∀z∈r,z∈A.nx v)(hj:∀i,i<at_+1→i<A.W→A.jw (o.getD i 0) (cell u i)=cell u i):u0 A b cell (eV A v o u r at_ ch).1:=by
 unfold eV
 split
 ·exact⟨h,hu,hr,hj,fun x hx=>by cases hx⟩
 ·split
  ·exact⟨h,hu,hr,fun i hi=>hj i (by omega) hi⟩
  ·exact Cw h hr
theorem FK(y:List Int)(x:Int)(i:Nat):(y++[x]).getD i 0=if i<y.length then y.getD i 0 else if i=y.length then x else 0:=by
 simp only[aW]
 by_cases h:i<y.length
 ·rw[ai h,kf h]
 ·rw[ah h,iJ (by omega)]
  by_cases h2:i=y.length
  ·simp[h2]
  ·rw[if_neg h2,List.getElem?_eq_none (by simp;omega)];rfl
theorem VI.step{b:Nat→Nat→Int}{S S':AS}{i:Nat}(hb:VN A b)(ht:TI A S)(h:VI A b S)(hs:Tr A S i S'):VI A b S'∧∀v j,v<A.n→j<A.W→A.jw (S.cell v j) (S'.cell v j)=S'.cell v j:=by
 have hrefl:∀v j,v<A.n→j<A.W→A.jw (S.cell v j) (S.cell v j)=S.cell v j:=fun v j hv hj=>A.idem (h.ok v j hv hj)
 have jG:∀{q:Ph} {S':AS},S'.cell=S.cell→S'.ph=S.ph.set i q→u0 A b S.cell q→VI A b S'∧∀v j,v<A.n→j<A.W→A.jw (S.cell v j) (S'.cell v j)=S'.cell v j:=by
  intro q S' e1 e2 hq
  refine⟨⟨by rw[e1];exact h.ok,by rw[e1];exact h.low,?_⟩,by rw[e1];exact hrefl⟩
  rw[e1,e2]
  intro p hp
  rcases qD hp with hp | rfl
  ·exact h.ph p hp
  ·exact hq
 have at_:∀{p:Ph},S.ph[i]?=some p→u0 A b S.cell p:=fun hp=>h.ph _ (cq hp)
 cases hs with
 |stay=>exact⟨h,hrefl⟩
 |yF a hp ha=>exact jG rfl rfl trivial
 |yG a hp hd=>exact jG rfl rfl trivial
 |yf a hp ha=>exact jG rfl rfl trivial
 |yg a hp=>exact jG rfl rfl trivial
 |ask hp hc=>exact jG rfl rfl trivial
 |yq v o u r a hp ha=>
  obtain⟨h1,h2,h3,h4⟩:=at_ hp
  exact jG rfl rfl ⟨h1,h2,h3,h4⟩
 |pop v c a hp hd=>exact jG rfl rfl trivial
 |cas v a hp hd=>exact jG rfl rfl trivial
 |ze v hp=>exact jG rfl rfl trivial
 |cu j v c a hp hd=>exact jG rfl rfl trivial
 |clear v hp=>exact jG rfl rfl ⟨(tT A.W).elim (fun h=>.inr ⟨h,rfl⟩) .inl,fun i hi=>by cases hi⟩
 |yo v y hp hy=>
  obtain⟨h1,h2⟩:=at_ hp
  have hv:=ht.at_ hp (v:=v) (by simp[nodes])
  refine jG rfl rfl ⟨.inl (by simp;omega),fun j hj=>?_⟩
  simp at hj
  rw[FK]
  by_cases ic:j<y.length
  ·rw[ai ic];exact h2 j ic
  ·have:j=y.length:=by omega
   subst this
   rw[ah (by omega),ai rfl]
   exact⟨h.ok v _ hv (by omega),hrefl v _ hv (by omega)⟩
 |yp v y y' hp hy=>
  obtain⟨h1,h2⟩:=at_ hp
  have hv:=ht.at_ hp (v:=v) (by simp[nodes])
  have tF:y'.length=A.W∧∀j,j<A.W→A.ok j (y'.getD j 0)∧A.jw (y'.getD j 0) (S.cell v j)=S.cell v j:=by
   rcases hy with ⟨hl,rfl⟩ | ⟨hw,rfl⟩
   ·refine⟨by simpa using hl,fun j hj=>?_⟩
    rw[FK]
    by_cases ic:j<y.length
    ·rw[ai ic];exact h2 j ic
    ·have:j=y.length:=by omega
     subst this
     rw[ah (by omega),ai rfl]
     exact⟨h.ok v _ hv (by omega),hrefl v _ hv (by omega)⟩
   ·exact⟨hw.symm,fun j hj=>by omega⟩
  obtain⟨k1,k2⟩:=A.Hf hv tF.1 fun j hj=>(tF.2 j hj).1
  have oI:=FM (A:=A) b v
  obtain⟨m1,m2⟩:=A.Hf hv oI fun j hj=>by rw[BX b v hj];exact hb.ok v j hv hj
  have aeS:=A.mono hv tF.1 oI (fun j hj=>(tF.2 j hj).1) (fun j hj=>by rw[BX b v hj];exact hb.ok v j hv hj) fun j hj=>by
   rw[BX b v hj]
   exact le_trans (tF.2 j hj).1 (h.ok v j hv hj) (hb.ok v j hv hj) (tF.2 j hj).2 (h.low v j hv hj)
  refine jG rfl rfl (Cw ⟨k1,k2,fun u hu j hj=>?_⟩ fun z hz=>hz)
  exact le_trans (k2 j hj) (m2 j hj) (hb.ok u j (A.CX hv hu) hj) (aeS j hj) (hb.out v hv u hu j hj)
 |load v o u r a ch hp ha hx=>
  obtain⟨h1,h2,h3,h4,_⟩:=at_ hp
  exact jG rfl rfl ⟨h1,h2,h3,h4,fun _ _=>ha⟩
 |same v o u r a ch hp ha hx=>
  obtain⟨h1,h2,h3,h4,_⟩:=at_ hp
  have hu:=ht.at_ hp (v:=u) (by simp[nodes])
  refine jG rfl rfl (RW h1 h2 h3 fun j hj hw=>?_)
  rcases Bl (EE hj) with hj | rfl
  ·exact h4 j hj hw
  ·rw[A.comm (h1.ok j hw) (h.ok u j hu hw),hx]
 |lost v o u r a ch x hp ha hx=>
  obtain⟨h1,h2,h3,h4,_⟩:=at_ hp
  exact jG rfl rfl ⟨h1,h2,h3,h4,fun _ hx=>by cases hx⟩
 |yT v o u r a ch hp ha hx=>
  obtain⟨h1,h2,h3,h4,_⟩:=at_ hp
  have hu:=ht.at_ hp (v:=u) (by simp[nodes])
  have xk:=h1.ok a ha
  have oH:=h.ok u a hu ha
  have bH:∀v' j,v'<A.n→j<A.W→A.ok j (eC S.cell u a (A.jw (S.cell u a) (o.getD a 0)) v' j):=fun v' j ox hj=>by
   by_cases he:v'=u∧j=a
   ·obtain⟨rfl,rfl⟩:=he
    rw[zW];exact A.M1 oH xk
   ·rw[uw he];exact h.ok v' j ox hj
  have Hi:∀v' j,v'<A.n→j<A.W→A.jw (S.cell v' j) (eC S.cell u a (A.jw (S.cell u a) (o.getD a 0)) v' j)=eC S.cell u a (A.jw (S.cell u a) (o.getD a 0)) v' j:=fun v' j ox hj=>by
   by_cases he:v'=u∧j=a
   ·obtain⟨rfl,rfl⟩:=he
    rw[zW];exact K5 oH xk
   ·rw[uw he];exact hrefl v' j ox hj
  refine⟨⟨bH,fun v' j ox hj=>?_,?_⟩,Hi⟩
  ·show A.jw (eC S.cell u a (A.jw (S.cell u a) (o.getD a 0)) v' j) (b v' j)=b v' j
   by_cases he:v'=u∧j=a
   ·obtain⟨rfl,rfl⟩:=he
    rw[zW]
    exact aci oH xk (hb.ok _ _ hu ha) (h.low _ _ hu ha) (h1.low _ h2 _ ha)
   ·rw[uw he];exact h.low v' j ox hj
  ·intro p nw
   rcases qD nw with nw | rfl
   ·exact (h.ph p nw).afo (ht.sf p nw) h.ok bH Hi
   ·refine RW h1 h2 h3 fun j hj hw=>?_
    show A.jw (o.getD j 0) (eC S.cell u a (A.jw (S.cell u a) (o.getD a 0)) u j)=eC S.cell u a (A.jw (S.cell u a) (o.getD a 0)) u j
    rcases Bl (EE hj) with hj | rfl
    ·rw[uw (fun e=>by omega)];exact h4 j hj hw
    ·rw[zW];exact RS oH xk
 |none v o u r hp ha=>
  obtain⟨h1,h2,h3,h4,_⟩:=at_ hp
  exact jG rfl rfl (Cw h1 h3)
 |flag v o u r hp hf=>
  obtain⟨h1,h2,h3,h4⟩:=at_ hp
  exact jG rfl rfl ⟨h1,h2,h3,h4⟩
 |yJ v o u r hp hf=>
  obtain⟨h1,h2,h3,h4⟩:=at_ hp
  exact jG rfl rfl (Cw h1 h3)
 |add v o u r hp=>
  obtain⟨h1,h2,h3,h4⟩:=at_ hp
  exact jG rfl rfl ⟨h1,h2,h3,h4⟩
 |push v o u r c hp hd=>
  obtain⟨h1,h2,h3,h4⟩:=at_ hp
  exact jG rfl rfl (Cw h1 h3)
 |dT v hp=>exact jG rfl rfl trivial
 |yD hp hc=>exact jG rfl rfl trivial
end SX
end Go.Proofs.YtnikdflhefijbaaGreat
