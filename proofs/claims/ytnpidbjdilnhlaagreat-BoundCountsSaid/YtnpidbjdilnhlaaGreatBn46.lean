import Derived.Test.YtnpidbjdilnhlaaGreatBn45
namespace Go.Proofs.YtnpidbjdilnhlaaGreat
set_option maxRecDepth 100000
set_option maxHeartbeats 4000000
namespace SX
variable {A:AP}
def D2(v:Nat):Ph→Prop
 | .join _ _ u _ _ _ ch=>u=v∧ch=true
 | .take _ _ u _=>u=v
 | _=>False
def tV(cell:Nat→Nat→Int)(v:Nat):Ph→Prop
 | .read z y=>z=v∧∀i,i<y.length→y.getD i 0=cell v i
 | _=>False
def yo(A:AP)(cell:Nat→Nat→Int)(v u:Nat):Ph→Prop
 | .join z o u' r _ _ _=>z=v∧o=A.out v (kE A cell v)∧(u=u'∨u∈r)
 | .take z o _ r | .add z o _ r | .push z o _ r _=>z=v∧o=A.out v (kE A cell v)∧u∈r
 | _=>False
def Bw(A:AP)(cell:Nat→Nat→Int)(v u:Nat):Prop:=∀i,i<A.W→A.jw ((A.out v (kE A cell v)).getD i 0) (cell u i)=cell u i
def uS(A:AP)(S:AS)(v:Nat):Prop:=
 S.flag v=true∨(∃p∈S.ph,D2 v p)∨(∃p∈S.ph,tV S.cell v p)∨∀u∈A.nx v,Bw A S.cell v u∨∃p∈S.ph,yo A S.cell v u p
theorem LB{α:Type}{l:List α}{i:Nat}{p q x:α}(hi:l[i]?=some p)(hx:x∈l):x=p∨x∈l.set i q:=by
 obtain⟨j,hj⟩:=List.mem_iff_getElem?.1 hx
 by_cases h:i=j
 ·subst h;rw[hi]at hj;exact .inl (Option.some.inj hj).symm
 ·right
  refine List.mem_iff_getElem?.2 ⟨j,?_⟩
  rw[List.getElem?_set,if_neg h];exact hj
theorem KL{α:Type}{l:List α}{i:Nat}{p q:α}(hi:l[i]?=some p):q∈l.set i q:=by
 refine List.mem_iff_getElem?.2 ⟨i,?_⟩
 rw[List.getElem?_set,if_pos rfl,if_pos (List.getElem?_eq_some_iff.1 hi).1]
theorem uS.keep{S S':AS}{i:Nat}{p q:Ph}{v:Nat}(h:uS A S v)(hi:S.ph[i]?=some p)(e1:S'.cell=S.cell)(e2:S'.ph=S.ph.set i q)
  (hf:S.flag v=true→S'.flag v=true∨tV S.cell v q) (hp:D2 v p→D2 v q∨S'.flag v=true) (hr:tV S.cell v p→tV S.cell v q∨∀u∈A.nx v,yo A S.cell v u q) (hc:∀u,yo A S.cell v u p→yo A S.cell v u q∨Bw A S.cell v u):uS A S' v:=by
 have hq:q∈S'.ph:=by rw[e2];exact KL hi
 have hm:∀x∈S.ph,x=p∨x∈S'.ph:=fun x hx=>by rw[e2];exact LB hi hx
 rcases h with h | ⟨x,hx,h⟩ | ⟨x,hx,h⟩ | h
 ·rcases hf h with h | h
  ·exact .inl h
  ·exact .inr (.inr (.inl ⟨q,hq,by rw[e1];exact h⟩))
 ·rcases hm x hx with rfl | hx
  ·rcases hp h with h | h
   ·exact .inr (.inl ⟨q,hq,h⟩)
   ·exact .inl h
  ·exact .inr (.inl ⟨x,hx,h⟩)
 ·rcases hm x hx with rfl | hx
  ·rcases hr h with h | h
   ·exact .inr (.inr (.inl ⟨q,hq,by rw[e1];exact h⟩))
   ·exact .inr (.inr (.inr fun u hu=>.inr ⟨q,hq,by rw[e1];exact h u hu⟩))
  ·exact .inr (.inr (.inl ⟨x,hx,by rw[e1];exact h⟩))
 ·refine .inr (.inr (.inr fun u hu =>?_))
  rw[e1]
  rcases h u hu with h | ⟨x,hx,h⟩
  ·exact .inl h
  ·rcases hm x hx with rfl | hx
   ·rcases hc u h with h | h
    ·exact .inr ⟨q,hq,h⟩
    ·exact .inl h
   ·exact .inr ⟨x,hx,h⟩
theorem zJ{cell:Nat→Nat→Int}{v z:Nat}{o:List Int}{r:List Nat}{u:Nat}(h1:z=v)(h2:o=A.out v (kE A cell v))(h3:u∈r):yo A cell v u (eP z o r):=by
 cases r with
 | nil=>cases h3
 | cons w r=>exact⟨h1,h2,by simpa using h3⟩
theorem LD{v z:Nat}{o:List Int}{u:Nat}{r:List Nat}{at_:Nat}{ch:Bool}(h:u=v∧ch=true):D2 v (dU A z o u r at_ ch).1:=by
 obtain⟨h1,rfl⟩:=h
 unfold dU
 split
 ·exact⟨h1,rfl⟩
 ·rw[if_pos rfl];exact h1
theorem Mo{cell:Nat→Nat→Int}{v z:Nat}{o:List Int}{u w:Nat}{r:List Nat}{at_:Nat}{ch:Bool}(h1:z=v)(h2:o=A.out v (kE A cell v))(h3:w=u∨w∈r)(hj:∀i,i<at_+1→i<A.W→A.jw (o.getD i 0) (cell u i)=cell u i):yo A cell v w (dU A z o u r at_ ch).1∨Bw A cell v w:=by
 unfold dU
 split
 ·exact .inl ⟨h1,h2,h3⟩
 ·rename_i hw
  rcases h3 with rfl | h3
  ·exact .inr fun i hi=>by rw[← h2];exact hj i (by omega) hi
  ·split
   ·exact .inl ⟨h1,h2,h3⟩
   ·exact .inl (zJ h1 h2 h3)
theorem KG{y z:List Int}(hl:y.length=z.length)(h:∀i,i<y.length→y.getD i 0=z.getD i 0):y=z:=by
 refine List.ext_getElem hl fun i h1 h2 =>?_
 have:=h i h1
 simpa [List.getD_eq_getElem?_getD,h1,h2]using this
theorem uS.step{b:Nat→Nat→Int}{S S':AS}{i:Nat}(ht:TI A S)(hv:VI A b S)(hs:Tr A S i S'){v:Nat}(cm:v<A.n)(h:uS A S v):uS A S' v:=by
 have at_:∀{p:Ph},S.ph[i]?=some p→sH A b S.cell p:=fun hp=>hv.ph _ (List.mem_of_getElem? hp)
 cases hs with
 | stay=>exact h
 | vY a hp ha=>exact h.keep hp rfl rfl .inl (fun h=>h.elim) (fun h=>h.elim) fun u h=>h.elim
 | vZ a hp hd=>exact h.keep hp rfl rfl .inl (fun h=>h.elim) (fun h=>h.elim) fun u h=>h.elim
 | vD a hp ha=>exact h.keep hp rfl rfl .inl (fun h=>h.elim) (fun h=>h.elim) fun u h=>h.elim
 | vE a hp=>exact h.keep hp rfl rfl .inl (fun h=>h.elim) (fun h=>h.elim) fun u h=>h.elim
 | ask hp hc=>exact h.keep hp rfl rfl .inl (fun h=>h.elim) (fun h=>h.elim) fun u h=>h.elim
 | vO z o u r a hp ha=>exact h.keep hp rfl rfl .inl (fun h=>h.elim) (fun h=>h.elim) fun u h=>.inl h
 | pop z c a hp hd=>exact h.keep hp rfl rfl .inl (fun h=>h.elim) (fun h=>h.elim) fun u h=>h.elim
 | cas z a hp hd=>exact h.keep hp rfl rfl .inl (fun h=>h.elim) (fun h=>h.elim) fun u h=>h.elim
 | wS z hp=>exact h.keep hp rfl rfl .inl (fun h=>h.elim) (fun h=>h.elim) fun u h=>h.elim
 | bE j z c a hp hd=>exact h.keep hp rfl rfl .inl (fun h=>h.elim) (fun h=>h.elim) fun u h=>h.elim
 | clear z hp =>
  refine h.keep hp rfl rfl (fun hf =>?_) (fun h=>h.elim) (fun h=>h.elim) fun u h=>h.elim
  by_cases hz:v=z
  ·exact .inr ⟨hz.symm,fun i hi=>absurd hi (Nat.not_lt_zero _)⟩
  ·left;show (if v=z then false else S.flag v)=true;rw[if_neg hz];exact hf
 | vM z y hp hy =>
  refine h.keep hp rfl rfl .inl (fun h=>h.elim) (fun h=>.inl ?_) fun u h=>h.elim
  obtain⟨rfl,h2⟩:=h
  refine⟨rfl,fun j hj =>?_⟩
  simp at hj
  rw[CL]
  by_cases gL:j<y.length
  ·rw[if_pos gL];exact h2 j gL
  ·rw[if_neg gL,if_pos (by omega),show j=y.length by omega]
 | vN z y y' hp hy =>
  refine h.keep hp rfl rfl .inl (fun h=>h.elim) (fun h=>.inr fun u hu =>?_) fun u h=>h.elim
  obtain⟨rfl,h2⟩:=h
  have e:y'=kE A S.cell z:=by
   rcases hy with ⟨hl,rfl⟩ | ⟨hw,rfl⟩
   ·refine KG (by rw[CO];simpa using hl) fun j hj =>?_
    simp at hj
    rw[zp _ _ (by omega),CL]
    by_cases gL:j<y.length
    ·rw[if_pos gL];exact h2 j gL
    ·rw[if_neg gL,if_pos (by omega),show j=y.length by omega]
   ·exact KG (by rw[CO];exact hw.symm) fun j hj=>absurd hj (Nat.not_lt_zero _)
  exact zJ rfl (by rw[e]) hu
 | load z o u r a ch hp ha hx=>exact h.keep hp rfl rfl .inl .inl (fun h=>h.elim) fun u h=>.inl h
 | same z o u r a ch hp ha hx =>
  obtain⟨h1,h2,h3,h4,_⟩:=at_ hp
  have hu:=ht.at_ hp (v:=u) (by simp[nodes])
  refine h.keep hp rfl rfl .inl (fun h=>.inl (LD h)) (fun h=>h.elim) fun w hw =>?_
  obtain⟨k1,k2,k3⟩:=hw
  refine Mo k1 k2 k3 fun j hj hw =>?_
  rcases Nat.lt_or_eq_of_le (Nat.le_of_lt_succ hj) with hj | rfl
  ·exact h4 j hj hw
  ·rw[A.comm (h1.ok j hw) (hv.ok u j hu hw),hx]
 | lost z o u r a ch x hp ha hx=>exact h.keep hp rfl rfl .inl .inl (fun h=>h.elim) fun u h=>.inl h
 | wA z o u r a ch hp ha hx =>
  obtain⟨h1,h2,h3,h4,_⟩:=at_ hp
  have hu:=ht.at_ hp (v:=u) (by simp[nodes])
  have uD:=h1.ok a ha
  have mw:=hv.ok u a hu ha
  have hq:(dU A z o u r a true).1∈(S.ph.set i (dU A z o u r a true).1):=KL hp
  by_cases Fb:v=u
  ·exact .inr (.inl ⟨_,hq,LD ⟨Fb.symm,rfl⟩⟩)
  ·have jP:∀j,dF S.cell u a (A.jw (S.cell u a) (o.getD a 0)) v j=S.cell v j:=fun j=>sb fun e=>Fb e.1
   have hL:kE A (dF S.cell u a (A.jw (S.cell u a) (o.getD a 0))) v=kE A S.cell v:=Vc Fb
   have hle:∀w∈A.nx v,Bw A S.cell v w→Bw A (dF S.cell u a (A.jw (S.cell u a) (o.getD a 0))) v w:=fun w hw hl j hj=>by
    rw[hL]
    have hwn:=A.Aw cm hw
    by_cases he:w=u∧j=a
    ·obtain⟨rfl,rfl⟩:=he
     rw[xD]
     obtain⟨m1,m2⟩:=A.D3 cm (CO (A:=A) S.cell v) fun j hj=>by rw[zp _ _ hj];exact hv.ok v j cm hj
     exact le_trans (m2 _ hj) mw (A.Jp mw uD) (hl _ hj) (Hu mw uD)
    ·rw[sb he];exact hl j hj
   have hm:∀x∈S.ph,x=.join z o u r a (some (S.cell u a)) ch∨x∈S.ph.set i (dU A z o u r a true).1:=fun x hx=>LB hp hx
   rcases h with h | ⟨x,jW,h⟩ | ⟨x,jW,h⟩ | h
   ·exact .inl h
   ·rcases hm x jW with rfl | jW
    ·exact absurd h.1.symm Fb
    ·exact .inr (.inl ⟨x,jW,h⟩)
   ·rcases hm x jW with rfl | jW
    ·exact h.elim
    ·refine .inr (.inr (.inl ⟨x,jW,?_⟩))
     cases x with
     | read z' y=>exact⟨h.1,fun j hj=>by rw[h.2 j hj];exact (jP j).symm⟩
     | _=>exact h.elim
   ·refine .inr (.inr (.inr fun w hw =>?_))
    rcases h w hw with h | ⟨x,jW,h⟩
    ·exact .inl (hle w hw h)
    ·rcases hm x jW with rfl | jW
     ·obtain⟨k1,k2,k3⟩:=h
      have hwn:=A.Aw cm hw
      have:=Mo (A:=A) (cell:=dF S.cell u a (A.jw (S.cell u a) (o.getD a 0))) (r:=r) (at_:=a) (ch:=true) k1 (k2.trans (by rw[hL])) k3 fun j hj hw=>by
       rcases Nat.lt_or_eq_of_le (Nat.le_of_lt_succ hj) with hj | rfl
       ·rw[sb (fun e=>by omega)];exact h4 j hj hw
       ·rw[xD];exact Nv mw uD
      rcases this with h | h
      ·exact .inr ⟨_,hq,h⟩
      ·exact .inl h
     ·right
      refine⟨x,jW,?_⟩
      cases x with
      | join z' o' u' r' a' ld' ch'=>exact⟨h.1,h.2.1.trans (by rw[hL]),h.2.2⟩
      | take z' o' u' r'=>exact⟨h.1,h.2.1.trans (by rw[hL]),h.2.2⟩
      | add z' o' u' r'=>exact⟨h.1,h.2.1.trans (by rw[hL]),h.2.2⟩
      | push z' o' u' r' a'=>exact⟨h.1,h.2.1.trans (by rw[hL]),h.2.2⟩
      | _=>exact h.elim
 | none z o u r hp ha =>
  obtain⟨h1,h2,h3,h4,_⟩:=at_ hp
  refine h.keep hp rfl rfl .inl (fun h=>by cases h.2) (fun h=>h.elim) fun w hw =>?_
  obtain⟨k1,k2,k3⟩:=hw
  rcases k3 with rfl | k3
  ·exact .inr fun i hi=>by omega
  ·exact .inl (zJ k1 k2 k3)
 | flag z o u r hp hf =>
  refine h.keep hp rfl rfl (fun h=>.inl ?_) (fun h=>.inr ?_) (fun h=>h.elim) fun u h=>.inl h
  ·show (if v=u then true else S.flag v)=true;(split);rfl;exact h
  ·have h:u=v:=h
   show (if v=u then true else S.flag v)=true;rw[if_pos h.symm]
 | we z o u r hp hf =>
  refine h.keep hp rfl rfl .inl (fun h=>.inr ?_) (fun h=>h.elim) fun w hw=>.inl (zJ hw.1 hw.2.1 hw.2.2)
  have h:u=v:=h
  rw[← h];exact hf
 | add z o u r hp=>exact h.keep hp rfl rfl .inl (fun h=>h.elim) (fun h=>h.elim) fun u h=>.inl h
 | push z o u r c hp hd=>exact h.keep hp rfl rfl .inl (fun h=>h.elim) (fun h=>h.elim) fun w hw=>.inl (zJ hw.1 hw.2.1 hw.2.2)
 | cX z hp=>exact h.keep hp rfl rfl .inl (fun h=>h.elim) (fun h=>h.elim) fun u h=>h.elim
 | vW hp hc=>exact h.keep hp rfl rfl .inl (fun h=>h.elim) (fun h=>h.elim) fun u h=>h.elim
theorem wZ{α:Type}{f:α→Nat}:∀{l:List α},(∀x∈l,f x=0)→aE f l=0
 | [],_=>rfl
 | a::l,h=>by
  show f a+aE f l=0
  rw[h a (List.mem_cons_self ..),wZ fun x hx=>h x (List.mem_cons_of_mem _ hx)]
def Rest(S:AS):Prop:=.done∈S.ph→S.aB=0
theorem Rest.step{S S':AS}{i:Nat}(ht:TI A S)(h:Rest S)(hs:Tr A S i S'):Rest S':=by
 have key:∀{p q:Ph},S.ph[i]?=some p→q≠.done→Ph.done∈S.ph.set i q→S.aB=0:=fun hp hq hd=>by
  rcases List.mem_or_eq_of_mem_set hd with hd | hd
  ·exact h hd
  ·exact absurd hd.symm hq
 have hj:∀v o u r a ch,(dU A v o u r a ch).1≠.done:=fun v o u r a ch=>by
  unfold dU;split
  ·exact fun h=>by cases h
  ·split
   ·exact fun h=>by cases h
   ·cases r <;> exact fun h=>by cases h
 have hf:∀v o r,eP v o r≠.done:=fun v o r=>by cases r <;> exact fun h=>by cases h
 intro hd
 cases hs with
 | stay=>exact h hd
 | vY a hp ha=>exact key hp (fun h=>by cases h) hd
 | vZ a hp ha=>exact key hp (fun h=>by cases h) hd
 | vD a hp ha=>exact key hp (fun h=>by cases h) hd
 | vE a hp=>exact key hp (fun h=>by cases h) hd
 | ask hp hc=>exact key hp (fun h=>by cases h) hd
 | vO v o u r a hp ha=>exact key hp (fun h=>by cases h) hd
 | pop v c a hp h2=>exact key hp (fun h=>by cases h) hd
 | cas v a hp h2=>exact key hp (fun h=>by cases h) hd
 | wS v hp=>exact key hp (fun h=>by cases h) hd
 | bE j v c a hp h2=>exact key hp (fun h=>by cases h) hd
 | clear v hp=>exact key hp (fun h=>by cases h) hd
 | vM v y hp hy=>exact key hp (fun h=>by cases h) hd
 | vN v y y' hp hy=>exact key hp (hf _ _ _) hd
 | load v o u r a ch hp ha hx=>exact key hp (fun h=>by cases h) hd
 | same v o u r a ch hp ha hx=>exact key hp (hj _ _ _ _ _ _) hd
 | lost v o u r a ch x hp ha hx=>exact key hp (fun h=>by cases h) hd
 | wA v o u r a ch hp ha hx=>exact key hp (hj _ _ _ _ _ _) hd
 | none v o u r hp ha=>exact key hp (hf _ _ _) hd
 | flag v o u r hp h2=>exact key hp (fun h=>by cases h) hd
 | we v o u r hp h2=>exact key hp (hf _ _ _) hd
 | add v o u r hp =>
  have h0:=key hp (fun h=>by cases h) hd
  have:=ht.aB
  have:=zR cw S.ph i _ hp
  simp[cw]at this
  omega
 | push v o u r c hp h2=>exact key hp (hf _ _ _) hd
 | cX v hp=>show S.aB-1=0;rw[key hp (fun h=>by cases h) hd]
 | vW hp hc=>exact hc
def fL:Ph→Nat
 | .held _ | .clear _ | .read .. | .take .. | .add .. | .push .. => 1
 | _=>0
theorem Aa(v:Nat)(o:List Int)(r:List Nat):fL (eP v o r)=0:=by cases r <;> rfl
theorem NB(A:AP)(v:Nat)(o:List Int)(u:Nat)(r:List Nat)(at_:Nat)(ch:Bool):fL (dU A v o u r at_ ch).1=(dU A v o u r at_ ch).2:=by
 unfold dU;split
 ·rfl
 ·split
  ·rfl
  ·exact Aa _ _ _
def EI(S:AS)(n:Nat):Prop:=S.ev+aE List.length S.dq+aE fL S.ph≤n+S.jo
theorem EI.step{S S':AS}{i n:Nat}(h:EI S n)(hs:Tr A S i S'):EI S' n:=by
 unfold EI at h ⊢
 have key:=fun p q (hp:S.ph[i]?=some p)=>eD fL S.ph i p q hp
 have Eu:=fun j (c d:List Nat) (hp:S.dq[j]?=some c)=>eD List.length S.dq j c d hp
 cases hs with
 | stay=>exact h
 | vY a hp ha=>have:=key _ (.idle 0 (a+1)) hp;simp only[fL]at *;omega
 | vZ a hp ha=>have:=key _ (.idle (if A.k<2 then 2 else 1) 0) hp;simp only[fL]at *;omega
 | vD a hp ha=>have:=key _ (.idle 1 (a+1)) hp;simp only[fL]at *;omega
 | vE a hp=>have:=key _ (.idle 2 0) hp;simp only[fL]at *;omega
 | ask hp hc=>have:=key _ (.idle (if A.k<2 then 0 else 1) 0) hp;simp only[fL]at *;omega
 | vO v o u r a hp ha=>have:=key _ (.push v o u r (a+1)) hp;simp only[fL]at *;omega
 | pop v c a hp hd=>have:=key _ (.clear v) hp;have:=Eu _ _ c hd;simp[fL]at *;omega
 | cas v a hp hd=>have:=key _ (.held v) hp;have:=Eu _ _ [] hd;simp[fL]at *;omega
 | wS v hp=>have:=key _ (.clear v) hp;simp[fL]at *;omega
 | bE j v c a hp hd=>have:=key _ (.clear v) hp;have:=Eu _ _ c hd;simp[fL]at *;omega
 | clear v hp=>have:=key _ (.read v []) hp;simp[fL]at *;omega
 | vM v y hp hy=>have:=key _ (.read v (y++[S.cell v y.length])) hp;simp only[fL]at *;omega
 | vN v y y' hp hy=>have:=key _ (eP v (A.out v y') (A.nx v)) hp;rw[Aa]at this;simp only[fL]at *;omega
 | load v o u r a ch hp ha hx=>have:=key _ (.join v o u r a (some (S.cell u a)) ch) hp;simp only[fL]at *;omega
 | same v o u r a ch hp ha hx=>have:=key _ (dU A v o u r a ch).1 hp;rw[NB]at this;simp only[fL]at *;omega
 | lost v o u r a ch x hp ha hx=>have:=key _ (.join v o u r a none ch) hp;simp only[fL]at *;omega
 | wA v o u r a ch hp ha hx=>have:=key _ (dU A v o u r a true).1 hp;rw[NB]at this;simp only[fL]at *;omega
 | none v o u r hp ha=>have:=key _ (eP v o r) hp;rw[Aa]at this;simp only[fL]at *;omega
 | flag v o u r hp hf=>have:=key _ (.add v o u r) hp;simp only[fL]at *;omega
 | we v o u r hp hf=>have:=key _ (eP v o r) hp;rw[Aa]at this;simp only[fL]at *;omega
 | add v o u r hp=>have:=key _ (.push v o u r 0) hp;simp only[fL]at *;omega
 | push v o u r c hp hd=>have:=key _ (eP v o r) hp;rw[Aa]at this;have:=Eu _ _ (c++[u]) hd;simp only[fL,List.length_append,List.length_singleton]at *;omega
 | cX v hp=>have:=key _ (.idle 0 0) hp;simp only[fL]at *;omega
 | vW hp hc=>have:=key _ .done hp;simp only[fL]at *;omega
def eC:Ph→Nat
 | .join _ _ _ _ _ _ true=>1
 | _=>0
theorem Ac(v:Nat)(o:List Int)(r:List Nat):eC (eP v o r)=0:=by cases r <;> rfl
theorem NF(A:AP)(v:Nat)(o:List Int)(u:Nat)(r:List Nat)(at_:Nat)(ch:Bool):eC (dU A v o u r at_ ch).1+(dU A v o u r at_ ch).2=if ch then 1 else 0:=by
 unfold dU;split
 ·cases ch <;> rfl
 ·cases ch with
  | true=>rfl
  | false=>show eC (eP v o r)+0=0;rw[Ac]
structure Rc(A:AP)(Us:List Nat)(rk:(Nat→Int)→Nat):Prop where
 nodup:Us.Nodup
 all:∀v,v<A.n→∀u∈A.nx v,u∈Us
 up:∀(c:Nat→Int) (i:Nat) (x:Int),i<A.W→(∀j,j<A.W→A.ok j (c j))→A.ok i x→A.jw (c i) x≠c i→rk c+1≤rk fun j=>if j=i then A.jw (c i) x else c j
def JI(S:AS)(Us:List Nat)(rk:(Nat→Int)→Nat):Prop:=S.jo+aE eC S.ph≤aE (fun u=>rk (S.cell u)) Us
theorem zh{α:Type}{f g:α→Nat}:∀{l:List α},(∀x∈l,f x=g x)→aE f l=aE g l
 | [],_=>rfl
 | a::l,h=>by
  show f a+aE f l=g a+aE g l
  rw[h a (List.mem_cons_self ..),zh fun x hx=>h x (List.mem_cons_of_mem _ hx)]
theorem Hk{f g:Nat→Nat}{u:Nat}:∀{l:List Nat},l.Nodup→u∈l→(∀x∈l,x≠u→f x=g x)→aE f l+g u=aE g l+f u
 | a::l,hn,hu,h=>by
  obtain⟨h1,h2⟩:=List.nodup_cons.1 hn
  show f a+aE f l+g u=g a+aE g l+f u
  rcases List.mem_cons.1 hu with rfl | hu
  ·rw[zh (f:=f) (g:=g) (l:=l) fun x hx=>h x (List.mem_cons_of_mem _ hx) fun e=>h1 (e▸hx)]
   omega
  ·have:=Hk h2 hu fun x hx=>h x (List.mem_cons_of_mem _ hx)
   rw[h a (List.mem_cons_self ..) fun e=>h1 (e▸hu)]
   omega
theorem JI.step{b:Nat→Nat→Int}{S S':AS}{i:Nat}{Us:List Nat}{rk:(Nat→Int)→Nat}(hr:Rc A Us rk)(ht:TI A S)(hv:VI A b S)(h:JI S Us rk)(hs:Tr A S i S'):JI S' Us rk:=by
 unfold JI at h ⊢
 have key:=fun p q (hp:S.ph[i]?=some p)=>eD eC S.ph i p q hp
 cases hs with
 | stay=>exact h
 | vY a hp ha=>have:=key _ (.idle 0 (a+1)) hp;simp only[eC]at *;omega
 | vZ a hp ha=>have:=key _ (.idle (if A.k<2 then 2 else 1) 0) hp;simp only[eC]at *;omega
 | vD a hp ha=>have:=key _ (.idle 1 (a+1)) hp;simp only[eC]at *;omega
 | vE a hp=>have:=key _ (.idle 2 0) hp;simp only[eC]at *;omega
 | ask hp hc=>have:=key _ (.idle (if A.k<2 then 0 else 1) 0) hp;simp only[eC]at *;omega
 | vO v o u r a hp ha=>have:=key _ (.push v o u r (a+1)) hp;simp only[eC]at *;omega
 | pop v c a hp hd=>have:=key _ (.clear v) hp;simp only[eC]at *;omega
 | cas v a hp hd=>have:=key _ (.held v) hp;simp only[eC]at *;omega
 | wS v hp=>have:=key _ (.clear v) hp;simp only[eC]at *;omega
 | bE j v c a hp hd=>have:=key _ (.clear v) hp;simp only[eC]at *;omega
 | clear v hp=>have:=key _ (.read v []) hp;simp only[eC]at *;omega
 | vM v y hp hy=>have:=key _ (.read v (y++[S.cell v y.length])) hp;simp only[eC]at *;omega
 | vN v y y' hp hy=>have:=key _ (eP v (A.out v y') (A.nx v)) hp;rw[Ac]at this;simp only[eC]at *;omega
 | load v o u r a ch hp ha hx =>
  have:=key _ (.join v o u r a (some (S.cell u a)) ch) hp
  have e:eC (.join v o u r a (some (S.cell u a)) ch)=eC (.join v o u r a none ch):=by cases ch <;> rfl
  rw[e]at this
  show S.jo+aE eC (S.ph.set i _)≤aE (fun u=>rk (S.cell u)) Us
  omega
 | same v o u r a ch hp ha hx =>
  have:=key _ (dU A v o u r a ch).1 hp
  have e:=NF A v o u r a ch
  have e2:eC (.join v o u r a none ch)=if ch then 1 else 0:=by cases ch <;> rfl
  rw[e2]at this
  show S.jo+(dU A v o u r a ch).2+aE eC (S.ph.set i _)≤aE (fun u=>rk (S.cell u)) Us
  omega
 | lost v o u r a ch x hp ha hx =>
  have:=key _ (.join v o u r a none ch) hp
  have e:eC (.join v o u r a (some x) ch)=eC (.join v o u r a none ch):=by cases ch <;> rfl
  rw[e]at this
  show S.jo+aE eC (S.ph.set i _)≤aE (fun u=>rk (S.cell u)) Us
  omega
 | wA v o u r a ch hp ha hx =>
  obtain⟨h1,h2,h3,h4,_⟩:=hv.ph _ (List.mem_of_getElem? hp)
  have ef:=ht.at_ hp (v:=u) (by simp[nodes])
  have cm:=ht.at_ hp (v:=v) (by simp[nodes])
  have:=key _ (dU A v o u r a true).1 hp
  have e:=NF A v o u r a true
  rw[if_pos rfl]at e
  have kj:=hr.up (S.cell u) a (o.getD a 0) ha (fun j hj=>hv.ok u j ef hj) (h1.ok a ha) hx
  have mb:=Hk (f:=fun z=>rk (dF S.cell u a (A.jw (S.cell u a) (o.getD a 0)) z)) (g:=fun z=>rk (S.cell z)) hr.nodup (hr.all v cm u h2) fun z _ hz=>by
   show rk _=rk _
   congr 1
   funext j
   exact sb fun e=>hz e.1
  have e3:(dF S.cell u a (A.jw (S.cell u a) (o.getD a 0)) u)=fun j=>if j=a then A.jw (S.cell u a) (o.getD a 0) else S.cell u j:=by
   funext j;simp[dF]
  simp only[e3]at mb
  have hone':aE (fun z=>rk (dF S.cell u a (A.jw (S.cell u a) (o.getD a 0)) z)) Us+rk (S.cell u)=aE (fun z=>rk (S.cell z)) Us+rk (fun j=>if j=a then A.jw (S.cell u a) (o.getD a 0) else S.cell u j):=mb
  show S.jo+(dU A v o u r a true).2+aE eC (S.ph.set i _)≤aE (fun z=>rk (dF S.cell u a (A.jw (S.cell u a) (o.getD a 0)) z)) Us
  omega
 | none v o u r hp ha=>have:=key _ (eP v o r) hp;rw[Ac]at this;simp only[eC]at *;omega
 | flag v o u r hp hf=>have:=key _ (.add v o u r) hp;simp only[eC]at *;omega
 | we v o u r hp hf=>have:=key _ (eP v o r) hp;rw[Ac]at this;simp only[eC]at *;omega
 | add v o u r hp=>have:=key _ (.push v o u r 0) hp;simp only[eC]at *;omega
 | push v o u r c hp hd=>have:=key _ (eP v o r) hp;rw[Ac]at this;simp only[eC]at *;omega
 | cX v hp=>have:=key _ (.idle 0 0) hp;simp only[eC]at *;omega
 | vW hp hc=>have:=key _ .done hp;simp only[eC]at *;omega
end SX
end Go.Proofs.YtnpidbjdilnhlaaGreat
