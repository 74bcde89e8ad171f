import Derived.Test.YtnikdflhefijbaaGreatBn45
namespace Go.Proofs.YtnikdflhefijbaaGreat
set_option maxRecDepth 100000
set_option maxHeartbeats 4000000
namespace SX
variable {A:AP}
def He(v:Nat):Ph→Prop
 |.join _ _ u _ _ _ ch=>u=v∧ch=true
 |.take _ _ u _=>u=v
 |_=>False
def Hd(cell:Nat→Nat→Int)(v:Nat):Ph→Prop
 |.read z y=>z=v∧∀i,i<y.length→y.getD i 0=cell v i
 |_=>False
def AI(A:AP)(cell:Nat→Nat→Int)(v u:Nat):Ph→Prop
 |.join z o u' r _ _ _=>z=v∧o=A.out v (mw A cell v)∧(u=u'∨u∈r)
 |.take z o _ r | .add z o _ r | .push z o _ r _=>z=v∧o=A.out v (mw A cell v)∧u∈r
 |_=>False
def DW(A:AP)(cell:Nat→Nat→Int)(v u:Nat):Prop:=∀i,i<A.W→A.jw ((A.out v (mw A cell v)).getD i 0) (cell u i)=cell u i
def xI(A:AP)(S:AS)(v:Nat):Prop:=
 S.flag v=true∨(∃p∈S.ph,He v p)∨(∃p∈S.ph,Hd S.cell v p)∨∀u∈A.nx v,DW A S.cell v u∨∃p∈S.ph,AI A S.cell v u p
theorem PS{α:Type}{l:List α}{i:Nat}{p q x:α}(hi:l[i]?=some p)(hx:x∈l):x=p∨x∈l.set i q:=by
 obtain⟨j,hj⟩:=rF.1 hx
 by_cases h:i=j
 ·subst h;rw[hi]at hj;exact .inl (Option.some.inj hj).symm
 ·right
  refine rF.2 ⟨j,?_⟩
  rw[eR,ah h];exact hj
theorem O2{α:Type}{l:List α}{i:Nat}{p q:α}(hi:l[i]?=some p):q∈l.set i q:=by
 refine rF.2 ⟨i,?_⟩
 rw[eR,ai rfl,ai (cf.1 hi).1]
theorem xI.keep{S S':AS}{i:Nat}{p q:Ph}{v:Nat}(h:xI A S v)(hi:S.ph[i]?=some p)(e1:S'.cell=S.cell)(e2:S'.ph=S.ph.set i q)
  (hf:S.flag v=true→S'.flag v=true∨Hd S.cell v q) (hp:He v p→He v q∨S'.flag v=true) (hr:Hd S.cell v p→Hd S.cell v q∨∀u∈A.nx v,AI A S.cell v u q) (hc:∀u,AI A S.cell v u p→AI A S.cell v u q∨DW A S.cell v u):xI A S' v:=by
 have hq:q∈S'.ph:=by rw[e2];exact O2 hi
 have hm:∀x∈S.ph,x=p∨x∈S'.ph:=fun x hx=>by rw[e2];exact PS hi hx
 rcases h with h | ⟨x,hx,h⟩ | ⟨x,hx,h⟩ | h
 ·rcases hf h with h | h
  ·exact .inl h
  ·exact .inr (.inr (.inl ⟨q,hq,by rw[e1];exact h⟩))
 ·rcases hm x hx with rfl | hx
  ·rcases hp h with h | h
   ·exact .inr (.inl ⟨q,hq,h⟩)
   ·exact .inl h
  ·exact .inr (.inl ⟨x,hx,h⟩)
 ·rcases hm x hx with rfl | hx
  ·rcases hr h with h | h
   ·exact .inr (.inr (.inl ⟨q,hq,by rw[e1];exact h⟩))
   ·exact .inr (.inr (.inr fun u hu=>.inr ⟨q,hq,by rw[e1];exact h u hu⟩))
  ·exact .inr (.inr (.inl ⟨x,hx,by rw[e1];exact h⟩))
 ·refine .inr (.inr (.inr fun u hu=>?_))
  rw[e1]
  rcases h u hu with h | ⟨x,hx,h⟩
  ·exact .inl h
  ·rcases hm x hx with rfl | hx
   ·rcases hc u h with h | h
    ·exact .inr ⟨q,hq,h⟩
    ·exact .inl h
   ·exact .inr ⟨x,hx,h⟩
theorem Ce{cell:Nat→Nat→Int}{v z:Nat}{o:List Int}{r:List Nat}{u:Nat}(h1:z=v)(h2:o=A.out v (mw A cell v))(h3:u∈r):AI A cell v u (fN z o r):=by
 cases r with
 |nil=>cases h3
 |cons w r=>exact⟨h1,h2,by simpa using h3⟩
theorem PU{v z:Nat}{o:List Int}{u:Nat}{r:List Nat}{at_:Nat}{ch:Bool}(h:u=v∧ch=true):He v (eV A z o u r at_ ch).1:=by
 obtain⟨h1,rfl⟩:=h
 unfold eV
 split
 ·exact⟨h1,rfl⟩
 ·rw[ai rfl];exact h1
theorem QJ{cell:Nat→Nat→Int}{v z:Nat}{o:List Int}{u w:Nat}{r:List Nat}{at_:Nat}{ch:Bool}(h1:z=v)(h2:o=A.out v (mw A cell v))(h3:w=u∨w∈r)(hj:∀i,i<at_+1→i<A.W→A.jw (o.getD i 0) (cell u i)=cell u i):AI A cell v w (eV A z o u r at_ ch).1∨DW A cell v w:=by
 unfold eV
 split
 ·exact .inl ⟨h1,h2,h3⟩
 ·rename_i hw
  rcases h3 with rfl | h3
  ·exact .inr fun i hi=>by rw[← h2];exact hj i (by omega) hi
  ·split
   ·exact .inl ⟨h1,h2,h3⟩
   ·exact .inl (Ce h1 h2 h3)
theorem OV{y z:List Int}(hl:y.length=z.length)(h:∀i,i<y.length→y.getD i 0=z.getD i 0):y=z:=by
 refine EO hl fun i h1 h2=>?_
 have:=h i h1
 simpa [List.getD_eq_getElem?_getD,h1,h2]using this
theorem xI.step{b:Nat→Nat→Int}{S S':AS}{i:Nat}(ht:TI A S)(hv:VI A b S)(hs:Tr A S i S'){v:Nat}(dm:v<A.n)(h:xI A S v):xI A S' v:=by
 have at_:∀{p:Ph},S.ph[i]?=some p→u0 A b S.cell p:=fun hp=>hv.ph _ (cq hp)
 cases hs with
 |stay=>exact h
 |yF a hp ha=>exact h.keep hp rfl rfl .inl (fun h=>h.elim) (fun h=>h.elim) fun u h=>h.elim
 |yG a hp hd=>exact h.keep hp rfl rfl .inl (fun h=>h.elim) (fun h=>h.elim) fun u h=>h.elim
 |yf a hp ha=>exact h.keep hp rfl rfl .inl (fun h=>h.elim) (fun h=>h.elim) fun u h=>h.elim
 |yg a hp=>exact h.keep hp rfl rfl .inl (fun h=>h.elim) (fun h=>h.elim) fun u h=>h.elim
 |ask hp hc=>exact h.keep hp rfl rfl .inl (fun h=>h.elim) (fun h=>h.elim) fun u h=>h.elim
 |yq z o u r a hp ha=>exact h.keep hp rfl rfl .inl (fun h=>h.elim) (fun h=>h.elim) fun u h=>.inl h
 |pop z c a hp hd=>exact h.keep hp rfl rfl .inl (fun h=>h.elim) (fun h=>h.elim) fun u h=>h.elim
 |cas z a hp hd=>exact h.keep hp rfl rfl .inl (fun h=>h.elim) (fun h=>h.elim) fun u h=>h.elim
 |ze z hp=>exact h.keep hp rfl rfl .inl (fun h=>h.elim) (fun h=>h.elim) fun u h=>h.elim
 |cu j z c a hp hd=>exact h.keep hp rfl rfl .inl (fun h=>h.elim) (fun h=>h.elim) fun u h=>h.elim
 |clear z hp=>
  refine h.keep hp rfl rfl (fun hf=>?_) (fun h=>h.elim) (fun h=>h.elim) fun u h=>h.elim
  by_cases hz:v=z
  ·exact .inr ⟨hz.symm,fun i hi=>absurd hi (nE _)⟩
  ·left;show (if v=z then false else S.flag v)=true;rw[ah hz];exact hf
 |yo z y hp hy=>
  refine h.keep hp rfl rfl .inl (fun h=>h.elim) (fun h=>.inl ?_) fun u h=>h.elim
  obtain⟨rfl,h2⟩:=h
  refine⟨rfl,fun j hj=>?_⟩
  simp at hj
  rw[FK]
  by_cases ic:j<y.length
  ·rw[ai ic];exact h2 j ic
  ·rw[ah ic,ai (by omega),show j=y.length by omega]
 |yp z y y' hp hy=>
  refine h.keep hp rfl rfl .inl (fun h=>h.elim) (fun h=>.inr fun u hu=>?_) fun u h=>h.elim
  obtain⟨rfl,h2⟩:=h
  have e:y'=mw A S.cell z:=by
   rcases hy with ⟨hl,rfl⟩ | ⟨hw,rfl⟩
   ·refine OV (by rw[FM];simpa using hl) fun j hj=>?_
    simp at hj
    rw[BX _ _ (by omega),FK]
    by_cases ic:j<y.length
    ·rw[ai ic];exact h2 j ic
    ·rw[ah ic,ai (by omega),show j=y.length by omega]
   ·exact OV (by rw[FM];exact hw.symm) fun j hj=>absurd hj (nE _)
  exact Ce rfl (by rw[e]) hu
 |load z o u r a ch hp ha hx=>exact h.keep hp rfl rfl .inl .inl (fun h=>h.elim) fun u h=>.inl h
 |same z o u r a ch hp ha hx=>
  obtain⟨h1,h2,h3,h4,_⟩:=at_ hp
  have hu:=ht.at_ hp (v:=u) (by simp[nodes])
  refine h.keep hp rfl rfl .inl (fun h=>.inl (PU h)) (fun h=>h.elim) fun w hw=>?_
  obtain⟨k1,k2,k3⟩:=hw
  refine QJ k1 k2 k3 fun j hj hw=>?_
  rcases Bl (EE hj) with hj | rfl
  ·exact h4 j hj hw
  ·rw[A.comm (h1.ok j hw) (hv.ok u j hu hw),hx]
 |lost z o u r a ch x hp ha hx=>exact h.keep hp rfl rfl .inl .inl (fun h=>h.elim) fun u h=>.inl h
 |yT z o u r a ch hp ha hx=>
  obtain⟨h1,h2,h3,h4,_⟩:=at_ hp
  have hu:=ht.at_ hp (v:=u) (by simp[nodes])
  have xk:=h1.ok a ha
  have oH:=hv.ok u a hu ha
  have hq:(eV A z o u r a true).1∈(S.ph.set i (eV A z o u r a true).1):=O2 hp
  by_cases Io:v=u
  ·exact .inr (.inl ⟨_,hq,PU ⟨Io.symm,rfl⟩⟩)
  ·have lv:∀j,eC S.cell u a (A.jw (S.cell u a) (o.getD a 0)) v j=S.cell v j:=fun j=>uw fun e=>Io e.1
   have hL:mw A (eC S.cell u a (A.jw (S.cell u a) (o.getD a 0))) v=mw A S.cell v:=Za Io
   have hle:∀w∈A.nx v,DW A S.cell v w→DW A (eC S.cell u a (A.jw (S.cell u a) (o.getD a 0))) v w:=fun w hw hl j hj=>by
    rw[hL]
    have hwn:=A.CX dm hw
    by_cases he:w=u∧j=a
    ·obtain⟨rfl,rfl⟩:=he
     rw[zW]
     obtain⟨m1,m2⟩:=A.Hf dm (FM (A:=A) S.cell v) fun j hj=>by rw[BX _ _ hj];exact hv.ok v j dm hj
     exact le_trans (m2 _ hj) oH (A.M1 oH xk) (hl _ hj) (K5 oH xk)
    ·rw[uw he];exact hl j hj
   have hm:∀x∈S.ph,x=.join z o u r a (some (S.cell u a)) ch∨x∈S.ph.set i (eV A z o u r a true).1:=fun x hx=>PS hp hx
   rcases h with h | ⟨x,jL,h⟩ | ⟨x,jL,h⟩ | h
   ·exact .inl h
   ·rcases hm x jL with rfl | jL
    ·exact absurd h.1.symm Io
    ·exact .inr (.inl ⟨x,jL,h⟩)
   ·rcases hm x jL with rfl | jL
    ·exact h.elim
    ·refine .inr (.inr (.inl ⟨x,jL,?_⟩))
     cases x with
     |read z' y=>exact⟨h.1,fun j hj=>by rw[h.2 j hj];exact (lv j).symm⟩
     |_=>exact h.elim
   ·refine .inr (.inr (.inr fun w hw=>?_))
    rcases h w hw with h | ⟨x,jL,h⟩
    ·exact .inl (hle w hw h)
    ·rcases hm x jL with rfl | jL
     ·obtain⟨k1,k2,k3⟩:=h
      have hwn:=A.CX dm hw
      have:=QJ (A:=A) (cell:=eC S.cell u a (A.jw (S.cell u a) (o.getD a 0))) (r:=r) (at_:=a) (ch:=true) k1 (k2.trans (by rw[hL])) k3 fun j hj hw=>by
       rcases Bl (EE hj) with hj | rfl
       ·rw[uw (fun e=>by omega)];exact h4 j hj hw
       ·rw[zW];exact RS oH xk
      rcases this with h | h
      ·exact .inr ⟨_,hq,h⟩
      ·exact .inl h
     ·right
      refine⟨x,jL,?_⟩
      cases x with
      |join z' o' u' r' a' ld' ch'=>exact⟨h.1,h.2.1.trans (by rw[hL]),h.2.2⟩
      |take z' o' u' r'=>exact⟨h.1,h.2.1.trans (by rw[hL]),h.2.2⟩
      |add z' o' u' r'=>exact⟨h.1,h.2.1.trans (by rw[hL]),h.2.2⟩
      |push z' o' u' r' a'=>exact⟨h.1,h.2.1.trans (by rw[hL]),h.2.2⟩
      |_=>exact h.elim
 |none z o u r hp ha=>
  obtain⟨h1,h2,h3,h4,_⟩:=at_ hp
  refine h.keep hp rfl rfl .inl (fun h=>by cases h.2) (fun h=>h.elim) fun w hw=>?_
  obtain⟨k1,k2,k3⟩:=hw
  rcases k3 with rfl | k3
  ·exact .inr fun i hi=>by omega
  ·exact .inl (Ce k1 k2 k3)
 |flag z o u r hp hf=>
  refine h.keep hp rfl rfl (fun h=>.inl ?_) (fun h=>.inr ?_) (fun h=>h.elim) fun u h=>.inl h
  ·show (if v=u then true else S.flag v)=true;(split);rfl;exact h
  ·have h:u=v:=h
   show (if v=u then true else S.flag v)=true;rw[ai h.symm]
 |yJ z o u r hp hf=>
  refine h.keep hp rfl rfl .inl (fun h=>.inr ?_) (fun h=>h.elim) fun w hw=>.inl (Ce hw.1 hw.2.1 hw.2.2)
  have h:u=v:=h
  rw[← h];exact hf
 |add z o u r hp=>exact h.keep hp rfl rfl .inl (fun h=>h.elim) (fun h=>h.elim) fun u h=>.inl h
 |push z o u r c hp hd=>exact h.keep hp rfl rfl .inl (fun h=>h.elim) (fun h=>h.elim) fun w hw=>.inl (Ce hw.1 hw.2.1 hw.2.2)
 |dT z hp=>exact h.keep hp rfl rfl .inl (fun h=>h.elim) (fun h=>h.elim) fun u h=>h.elim
 |yD hp hc=>exact h.keep hp rfl rfl .inl (fun h=>h.elim) (fun h=>h.elim) fun u h=>h.elim
theorem zt{α:Type}{f:α→Nat}:∀{l:List α},(∀x∈l,f x=0)→aK f l=0
 | [],_=>rfl
 |a::l,h=>by
  show f a+aK f l=0
  rw[h a (cm ..),zt fun x hx=>h x (cY _ hx)]
def Rest(S:AS):Prop:=.done∈S.ph→S.aG=0
theorem Rest.step{S S':AS}{i:Nat}(ht:TI A S)(h:Rest S)(hs:Tr A S i S'):Rest S':=by
 have key:∀{p q:Ph},S.ph[i]?=some p→q≠.done→Ph.done∈S.ph.set i q→S.aG=0:=fun hp hq hd=>by
  rcases qD hd with hd | hd
  ·exact h hd
  ·exact absurd hd.symm hq
 have hj:∀v o u r a ch,(eV A v o u r a ch).1≠.done:=fun v o u r a ch=>by
  unfold eV;split
  ·exact fun h=>by cases h
  ·split
   ·exact fun h=>by cases h
   ·cases r <;> exact fun h=>by cases h
 have hf:∀v o r,fN v o r≠.done:=fun v o r=>by cases r <;> exact fun h=>by cases h
 intro hd
 cases hs with
 |stay=>exact h hd
 |yF a hp ha=>exact key hp (fun h=>by cases h) hd
 |yG a hp ha=>exact key hp (fun h=>by cases h) hd
 |yf a hp ha=>exact key hp (fun h=>by cases h) hd
 |yg a hp=>exact key hp (fun h=>by cases h) hd
 |ask hp hc=>exact key hp (fun h=>by cases h) hd
 |yq v o u r a hp ha=>exact key hp (fun h=>by cases h) hd
 |pop v c a hp h2=>exact key hp (fun h=>by cases h) hd
 |cas v a hp h2=>exact key hp (fun h=>by cases h) hd
 |ze v hp=>exact key hp (fun h=>by cases h) hd
 |cu j v c a hp h2=>exact key hp (fun h=>by cases h) hd
 |clear v hp=>exact key hp (fun h=>by cases h) hd
 |yo v y hp hy=>exact key hp (fun h=>by cases h) hd
 |yp v y y' hp hy=>exact key hp (hf _ _ _) hd
 |load v o u r a ch hp ha hx=>exact key hp (fun h=>by cases h) hd
 |same v o u r a ch hp ha hx=>exact key hp (hj _ _ _ _ _ _) hd
 |lost v o u r a ch x hp ha hx=>exact key hp (fun h=>by cases h) hd
 |yT v o u r a ch hp ha hx=>exact key hp (hj _ _ _ _ _ _) hd
 |none v o u r hp ha=>exact key hp (hf _ _ _) hd
 |flag v o u r hp h2=>exact key hp (fun h=>by cases h) hd
 |yJ v o u r hp h2=>exact key hp (hf _ _ _) hd
 |add v o u r hp=>
  have h0:=key hp (fun h=>by cases h) hd
  have:=ht.aG
  have:=Cl cw S.ph i _ hp
  simp[cw]at this
  omega
 |push v o u r c hp h2=>exact key hp (hf _ _ _) hd
 |dT v hp=>show S.aG-1=0;rw[key hp (fun h=>by cases h) hd]
 |yD hp hc=>exact hc
def gT:Ph→Nat
 |.held _ | .clear _ | .read .. | .take .. | .add .. | .push .. => 1
 |_=>0
theorem Cx(v:Nat)(o:List Int)(r:List Nat):gT (fN v o r)=0:=by cases r <;> rfl
theorem RX(A:AP)(v:Nat)(o:List Int)(u:Nat)(r:List Nat)(at_:Nat)(ch:Bool):gT (eV A v o u r at_ ch).1=(eV A v o u r at_ ch).2:=by
 unfold eV;split
 ·rfl
 ·split
  ·rfl
  ·exact Cx _ _ _
def EI(S:AS)(n:Nat):Prop:=S.ev+aK List.length S.dq+aK gT S.ph≤n+S.jo
theorem EI.step{S S':AS}{i n:Nat}(h:EI S n)(hs:Tr A S i S'):EI S' n:=by
 unfold EI at h ⊢
 have key:=fun p q (hp:S.ph[i]?=some p)=>fF gT S.ph i p q hp
 have HF:=fun j (c d:List Nat) (hp:S.dq[j]?=some c)=>fF List.length S.dq j c d hp
 cases hs with
 |stay=>exact h
 |yF a hp ha=>have:=key _ (.idle 0 (a+1)) hp;simp only[gT]at *;omega
 |yG a hp ha=>have:=key _ (.idle (if A.k<2 then 2 else 1) 0) hp;simp only[gT]at *;omega
 |yf a hp ha=>have:=key _ (.idle 1 (a+1)) hp;simp only[gT]at *;omega
 |yg a hp=>have:=key _ (.idle 2 0) hp;simp only[gT]at *;omega
 |ask hp hc=>have:=key _ (.idle (if A.k<2 then 0 else 1) 0) hp;simp only[gT]at *;omega
 |yq v o u r a hp ha=>have:=key _ (.push v o u r (a+1)) hp;simp only[gT]at *;omega
 |pop v c a hp hd=>have:=key _ (.clear v) hp;have:=HF _ _ c hd;simp[gT]at *;omega
 |cas v a hp hd=>have:=key _ (.held v) hp;have:=HF _ _ [] hd;simp[gT]at *;omega
 |ze v hp=>have:=key _ (.clear v) hp;simp[gT]at *;omega
 |cu j v c a hp hd=>have:=key _ (.clear v) hp;have:=HF _ _ c hd;simp[gT]at *;omega
 |clear v hp=>have:=key _ (.read v []) hp;simp[gT]at *;omega
 |yo v y hp hy=>have:=key _ (.read v (y++[S.cell v y.length])) hp;simp only[gT]at *;omega
 |yp v y y' hp hy=>have:=key _ (fN v (A.out v y') (A.nx v)) hp;rw[Cx]at this;simp only[gT]at *;omega
 |load v o u r a ch hp ha hx=>have:=key _ (.join v o u r a (some (S.cell u a)) ch) hp;simp only[gT]at *;omega
 |same v o u r a ch hp ha hx=>have:=key _ (eV A v o u r a ch).1 hp;rw[RX]at this;simp only[gT]at *;omega
 |lost v o u r a ch x hp ha hx=>have:=key _ (.join v o u r a none ch) hp;simp only[gT]at *;omega
 |yT v o u r a ch hp ha hx=>have:=key _ (eV A v o u r a true).1 hp;rw[RX]at this;simp only[gT]at *;omega
 |none v o u r hp ha=>have:=key _ (fN v o r) hp;rw[Cx]at this;simp only[gT]at *;omega
 |flag v o u r hp hf=>have:=key _ (.add v o u r) hp;simp only[gT]at *;omega
 |yJ v o u r hp hf=>have:=key _ (fN v o r) hp;rw[Cx]at this;simp only[gT]at *;omega
 |add v o u r hp=>have:=key _ (.push v o u r 0) hp;simp only[gT]at *;omega
 |push v o u r c hp hd=>have:=key _ (fN v o r) hp;rw[Cx]at this;have:=HF _ _ (c++[u]) hd;simp only[gT,bQ,sF]at *;omega
 |dT v hp=>have:=key _ (.idle 0 0) hp;simp only[gT]at *;omega
 |yD hp hc=>have:=key _ .done hp;simp only[gT]at *;omega
def fE:Ph→Nat
 |.join _ _ _ _ _ _ true=>1
 |_=>0
theorem Cz(v:Nat)(o:List Int)(r:List Nat):fE (fN v o r)=0:=by cases r <;> rfl
theorem RZ(A:AP)(v:Nat)(o:List Int)(u:Nat)(r:List Nat)(at_:Nat)(ch:Bool):fE (eV A v o u r at_ ch).1+(eV A v o u r at_ ch).2=if ch then 1 else 0:=by
 unfold eV;split
 ·cases ch <;> rfl
 ·cases ch with
  |true=>rfl
  |false=>show fE (fN v o r)+0=0;rw[Cz]
structure VM(A:AP)(Us:List Nat)(rk:(Nat→Int)→Nat):Prop where
 nodup:Us.Nodup
 all:∀v,v<A.n→∀u∈A.nx v,u∈Us
 up:∀(c:Nat→Int) (i:Nat) (x:Int),i<A.W→(∀j,j<A.W→A.ok j (c j))→A.ok i x→A.jw (c i) x≠c i→rk c+1≤rk fun j=>if j=i then A.jw (c i) x else c j
def JI(S:AS)(Us:List Nat)(rk:(Nat→Int)→Nat):Prop:=S.jo+aK fE S.ph≤aK (fun u=>rk (S.cell u)) Us
theorem BM{α:Type}{f g:α→Nat}:∀{l:List α},(∀x∈l,f x=g x)→aK f l=aK g l
 | [],_=>rfl
 |a::l,h=>by
  show f a+aK f l=g a+aK g l
  rw[h a (cm ..),BM fun x hx=>h x (cY _ hx)]
theorem KS{f g:Nat→Nat}{u:Nat}:∀{l:List Nat},l.Nodup→u∈l→(∀x∈l,x≠u→f x=g x)→aK f l+g u=aK g l+f u
 |a::l,hn,hu,h=>by
  obtain⟨h1,h2⟩:=mc.1 hn
  show f a+aK f l+g u=g a+aK g l+f u
  rcases eG.1 hu with rfl | hu
  ·rw[BM (f:=f) (g:=g) (l:=l) fun x hx=>h x (cY _ hx) fun e=>h1 (e▸hx)]
   omega
  ·have:=KS h2 hu fun x hx=>h x (cY _ hx)
   rw[h a (cm ..) fun e=>h1 (e▸hu)]
   omega
theorem JI.step{b:Nat→Nat→Int}{S S':AS}{i:Nat}{Us:List Nat}{rk:(Nat→Int)→Nat}(hr:VM A Us rk)(ht:TI A S)(hv:VI A b S)(h:JI S Us rk)(hs:Tr A S i S'):JI S' Us rk:=by
 unfold JI at h ⊢
 have key:=fun p q (hp:S.ph[i]?=some p)=>fF fE S.ph i p q hp
 cases hs with
 |stay=>exact h
 |yF a hp ha=>have:=key _ (.idle 0 (a+1)) hp;simp only[fE]at *;omega
 |yG a hp ha=>have:=key _ (.idle (if A.k<2 then 2 else 1) 0) hp;simp only[fE]at *;omega
 |yf a hp ha=>have:=key _ (.idle 1 (a+1)) hp;simp only[fE]at *;omega
 |yg a hp=>have:=key _ (.idle 2 0) hp;simp only[fE]at *;omega
 |ask hp hc=>have:=key _ (.idle (if A.k<2 then 0 else 1) 0) hp;simp only[fE]at *;omega
 |yq v o u r a hp ha=>have:=key _ (.push v o u r (a+1)) hp;simp only[fE]at *;omega
 |pop v c a hp hd=>have:=key _ (.clear v) hp;simp only[fE]at *;omega
 |cas v a hp hd=>have:=key _ (.held v) hp;simp only[fE]at *;omega
 |ze v hp=>have:=key _ (.clear v) hp;simp only[fE]at *;omega
 |cu j v c a hp hd=>have:=key _ (.clear v) hp;simp only[fE]at *;omega
 |clear v hp=>have:=key _ (.read v []) hp;simp only[fE]at *;omega
 |yo v y hp hy=>have:=key _ (.read v (y++[S.cell v y.length])) hp;simp only[fE]at *;omega
 |yp v y y' hp hy=>have:=key _ (fN v (A.out v y') (A.nx v)) hp;rw[Cz]at this;simp only[fE]at *;omega
 |load v o u r a ch hp ha hx=>
  have:=key _ (.join v o u r a (some (S.cell u a)) ch) hp
  have e:fE (.join v o u r a (some (S.cell u a)) ch)=fE (.join v o u r a none ch):=by cases ch <;> rfl
  rw[e]at this
  show S.jo+aK fE (S.ph.set i _)≤aK (fun u=>rk (S.cell u)) Us
  omega
 |same v o u r a ch hp ha hx=>
  have:=key _ (eV A v o u r a ch).1 hp
  have e:=RZ A v o u r a ch
  have e2:fE (.join v o u r a none ch)=if ch then 1 else 0:=by cases ch <;> rfl
  rw[e2]at this
  show S.jo+(eV A v o u r a ch).2+aK fE (S.ph.set i _)≤aK (fun u=>rk (S.cell u)) Us
  omega
 |lost v o u r a ch x hp ha hx=>
  have:=key _ (.join v o u r a none ch) hp
  have e:fE (.join v o u r a (some x) ch)=fE (.join v o u r a none ch):=by cases ch <;> rfl
  rw[e]at this
  show S.jo+aK fE (S.ph.set i _)≤aK (fun u=>rk (S.cell u)) Us
  omega
 |yT v o u r a ch hp ha hx=>
  obtain⟨h1,h2,h3,h4,_⟩:=hv.ph _ (cq hp)
  have e8:=ht.at_ hp (v:=u) (by simp[nodes])
  have dm:=ht.at_ hp (v:=v) (by simp[nodes])
  have:=key _ (eV A v o u r a true).1 hp
  have e:=RZ A v o u r a true
  rw[ai rfl]at e
  have l6:=hr.up (S.cell u) a (o.getD a 0) ha (fun j hj=>hv.ok u j e8 hj) (h1.ok a ha) hx
  have oa:=KS (f:=fun z=>rk (eC S.cell u a (A.jw (S.cell u a) (o.getD a 0)) z)) (g:=fun z=>rk (S.cell z)) hr.nodup (hr.all v dm u h2) fun z _ hz=>by
   show rk _=rk _
   congr 1
   funext j
   exact uw fun e=>hz e.1
  have e3:(eC S.cell u a (A.jw (S.cell u a) (o.getD a 0)) u)=fun j=>if j=a then A.jw (S.cell u a) (o.getD a 0) else S.cell u j:=by
   funext j;simp[eC]
  simp only[e3]at oa
  have hone':aK (fun z=>rk (eC S.cell u a (A.jw (S.cell u a) (o.getD a 0)) z)) Us+rk (S.cell u)=aK (fun z=>rk (S.cell z)) Us+rk (fun j=>if j=a then A.jw (S.cell u a) (o.getD a 0) else S.cell u j):=oa
  show S.jo+(eV A v o u r a true).2+aK fE (S.ph.set i _)≤aK (fun z=>rk (eC S.cell u a (A.jw (S.cell u a) (o.getD a 0)) z)) Us
  omega
 |none v o u r hp ha=>have:=key _ (fN v o r) hp;rw[Cz]at this;simp only[fE]at *;omega
 |flag v o u r hp hf=>have:=key _ (.add v o u r) hp;simp only[fE]at *;omega
 |yJ v o u r hp hf=>have:=key _ (fN v o r) hp;rw[Cz]at this;simp only[fE]at *;omega
 |add v o u r hp=>have:=key _ (.push v o u r 0) hp;simp only[fE]at *;omega
 |push v o u r c hp hd=>have:=key _ (fN v o r) hp;rw[Cz]at this;simp only[fE]at *;omega
 |dT v hp=>have:=key _ (.idle 0 0) hp;simp only[fE]at *;omega
 |yD hp hc=>have:=key _ .done hp;simp only[fE]at *;omega
end SX
end Go.Proofs.YtnikdflhefijbaaGreat
