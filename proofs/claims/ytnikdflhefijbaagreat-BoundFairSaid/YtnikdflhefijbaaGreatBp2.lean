import Derived.Test.YtnikdflhefijbaaGreatBp1
import Derived.Laws.ComplexArith
import Derived.RangeFuncRecord
import Derived.MapFrom
namespace Go.Proofs.YtnikdflhefijbaaGreat
set_option maxRecDepth 100000
set_option maxHeartbeats 4000000
namespace SX
def W1(A:AP):Nat:=max A.W 1
theorem VM(A:AP):1≤W1 A∧A.W≤W1 A:=by unfold W1;omega
def dR(A:AP)(v:Nat):Nat:=W1 A+9+(A.nx v).length*W1 A
def gC(A:AP)(r:List Nat):Nat:=r.length*W1 A+8
def sg(A:AP)(u:Nat)(ch:Bool):Nat:=if ch=true then 6+dR A u else 0
def cQ(A:AP)(c:Nat→Nat→Int):Ph→Nat
 |.idle d a=>if d=0 then 6-a+1 else 0
 |.held v=>dR A v+1
 |.clear v=>dR A v
 |.read v y=>W1 A-y.length+gC A (A.nx v)
 |.join _ _ u r at_ ld ch=>(match ld with
  |none=>W1 A-at_
  |some x=>(W1 A-at_-1)+(if x=c u at_ then 0 else 2))+(gC A r+sg A u ch)
 |.take _ _ u r=>6+dR A u+gC A r
 |.add _ _ u r=>5+dR A u+gC A r
 |.push _ _ u r a=>4-a+dR A u+gC A r
 |.dA _=>8
 |.done=>0
def kR(A:AP)(c:List Nat):Nat:=aF (dR A) c
def mr(A:AP)(Us:List Nat)(rk:(Nat→Int)→Nat)(h:Nat)(S:AS):Nat:=
 aF (fun u=>(h-rk (S.cell u))*(2*A.k+5+dR A u)) Us+aF (kR A) S.dq+aF (cQ A S.cell) S.ph
theorem Av{α:Type}(f:α→Nat)(a:α)(l:List α):aF f (a::l)=f a+aF f l:=rfl
theorem Lm{α:Type}(f:α→Nat):∀(l m:List α),aF f (l++m)=aF f l+aF f m
 | [],m=>(dK _).symm
 |a::l,m=>by
  rw[Cc,Av,Av,Lm f l m,Ci]
theorem LZ{α:Type}{f g:α→Nat}:∀{l:List α},(∀x∈l,f x≤g x)→aF f l≤aF g l
 | [],_=>aM _
 |a::l,h=>by
  have h1:=h a (bV ..)
  have h2:=LZ (l:=l) fun x hx=>h x (cE _ hx)
  rw[Av,Av];omega
theorem TY{α:Type}{f f':α→Nat}(h:∀x,f' x≤f x+2):∀(l:List α) (i:Nat) (p q:α),l[i]?=some p→aF f' (l.set i q)+f p+2≤aF f l+f' q+2*l.length
 |a::l,0,p,q,hp=>by
  simp at hp;subst hp
  have h1:aF f' l≤aF f l+2*l.length:=by
   clear q a
   induction l with
   |nil=>exact aM _
   |cons a l ih=>rw[Av,Av,fO];have:=h a;omega
  show f' q+aF f' l+f a+2≤f a+aF f l+f' q+2*(l.length+1)
  omega
 |a::l,i+1,p,q,hp=>by
  have h1:=TY h l i p q (by simpa using hp)
  have h2:=h a
  show f' a+aF f' (l.set i q)+f p+2≤f a+aF f l+f' q+2*(l.length+1)
  omega
theorem CT(A:AP)(c:Nat→Nat→Int)(v:Nat)(o:List Int)(r:List Nat):cQ A c (eB v o r)=gC A r:=by
 cases r with
 |nil=>show 8=0*W1 A+8;omega
 |cons u r=>
  show W1 A-0+(r.length*W1 A+8+0)=(r.length+1)*W1 A+8
  rw[lh];omega
theorem QS(A:AP)(c:Nat→Nat→Int)(v:Nat)(o:List Int)(u:Nat)(r:List Nat)(at_:Nat)(ch:Bool):cQ A c (dI A v o u r at_ ch).1≤(W1 A-at_-1)+(gC A r+sg A u ch):=by
 unfold dI;split
 ·show W1 A-(at_+1)+(gC A r+sg A u ch)≤_
  omega
 ·split
  ·next h=>rw[h];show 6+dR A u+gC A r≤_+(gC A r+(6+dR A u));omega
  ·rw[CT];omega
def busy:Ph→Prop
 |.idle d _=>d=0
 |.done=>False
 |_=>True
structure Bz(A:AP)(S:AS):Prop where
 len:S.ph.length=A.k
 dl:S.dq.length=A.k
 rest:∀(i:Nat) (p:Ph) (c:List Nat),S.ph[i]?=some p→S.dq[i]?=some c→¬busy p→c=[]
 a5:∀p∈S.ph,∀a,p=.idle 0 a→a≤5
variable {A:AP}
theorem yU(v:Nat)(o:List Int)(r:List Nat):busy (eB v o r):=by cases r <;> trivial
theorem QT(A:AP)(v:Nat)(o:List Int)(u:Nat)(r:List Nat)(at_:Nat)(ch:Bool):busy (dI A v o u r at_ ch).1:=by
 unfold dI;split
 ·trivial
 ·split
  ·trivial
  ·exact yU _ _ _
theorem Bz.set{S S':AS}(h:Bz A S){i:Nat}{p q:Ph}(_hp:S.ph[i]?=some p)(e:S'.ph=S.ph.set i q)(hl:S'.dq.length=S.dq.length)(ha:∀a,q=.idle 0 a→a≤5)
  (hd:∀j c,S'.dq[j]?=some c→(∃x,S.dq[j]?=some x∧(x=[]→c=[]))∨j=i∧busy q) (hq:¬busy q→∀c,S'.dq[i]?=some c→c=[]):Bz A S':=by
 refine⟨by rw[e,ck];exact h.len,hl.trans h.dl,fun j p' c hj hc hb=>?_,fun p' hm a ea=>?_⟩
 ·rw[e,dY]at hj
  by_cases eQ:i=j
  ·subst eQ
   rw[ag rfl]at hj
   split at hj
   ·cases hj;exact hq hb c hc
   ·cases hj
  ·rw[ah eQ]at hj
   rcases hd j c hc with ⟨x,hx,h2⟩ | h2
   ·exact h2 (h.rest j p' x hj hx hb)
   ·exact absurd h2.1.symm eQ
 ·rw[e]at hm
  rcases qb hm with hm | rfl
  ·exact h.a5 p' hm a ea
  ·exact ha a ea
theorem Bz.step{S S':AS}{i:Nat}(h:Bz A S)(hs:Tr A S i S'):Bz A S':=by
 have same:∀{p q:Ph} {S':AS},S.ph[i]?=some p→S'.ph=S.ph.set i q→S'.dq=S.dq→(∀a,q=.idle 0 a→a≤5)→(¬busy q→¬busy p∨∀c,S.dq[i]?=some c→c=[])→Bz A S':=fun {p q S'} hp e ed ha hq=>
  h.set hp e (by rw[ed]) ha (fun j c hc=>.inl ⟨c,by rw[← ed];exact hc,id⟩) fun hb c hc=>by
   rw[ed]at hc
   rcases hq hb with h1 | h1
   ·exact h.rest i p c hp hc h1
   ·exact h1 c hc
 cases hs with
 |stay=>exact h
 |uc a hp ha=>exact same (q:=.idle 0 (a+1)) hp rfl rfl (fun b e=>by cases e;omega) fun hb=>absurd rfl hb
 |ud a hp hd=>exact same (q:=.idle (if A.k<2 then 2 else 1) 0) hp rfl rfl (fun b e=>by injection e with e1 e2;omega) fun _=>.inr fun c hc=>by rw[hd]at hc;cases hc;rfl
 |tG a hp ha=>exact same (q:=.idle 1 (a+1)) hp rfl rfl (fun b e=>by cases e) fun _=>.inl (by intro e;cases e)
 |tH a hp=>exact same (q:=.idle 2 0) hp rfl rfl (fun b e=>by cases e) fun _=>.inl (by intro e;cases e)
 |ask hp hc=>exact same (q:=.idle (if A.k<2 then 0 else 1) 0) hp rfl rfl (fun b e=>by injection e with e1 e2;omega) fun _=>.inl (by intro e;cases e)
 |tQ v o u r a hp ha=>exact same (q:=.push v o u r (a+1)) hp rfl rfl (fun b e=>by cases e) fun hb=>absurd trivial hb
 |pop v c a hp hd=>exact h.set (q:=.clear v) hp rfl (ck ..) (fun b e=>by cases e) (fun j c' hc=>by
   by_cases hj:j=i
   ·exact .inr ⟨hj,trivial⟩
   ·have hc:(S.dq.set i c)[j]?=some c':=hc
    rw[dY,ah (fun e=>hj e.symm)]at hc
    exact .inl ⟨c',hc,id⟩) fun hb=>absurd trivial hb
 |cas v a hp hd=>exact h.set (q:=.held v) hp rfl (ck ..) (fun b e=>by cases e) (fun j c' hc=>by
   by_cases hj:j=i
   ·exact .inr ⟨hj,trivial⟩
   ·have hc:(S.dq.set i [])[j]?=some c':=hc
    rw[dY,ah (fun e=>hj e.symm)]at hc
    exact .inl ⟨c',hc,id⟩) fun hb=>absurd trivial hb
 |uM v hp=>exact same (q:=.clear v) hp rfl rfl (fun b e=>by cases e) fun hb=>absurd trivial hb
 |cc j v c a hp hd=>exact h.set (q:=.clear v) hp rfl (ck ..) (fun b e=>by cases e) (fun z c' hc=>by
   have hc:(S.dq.set j c)[z]?=some c':=hc
   rw[dY]at hc
   by_cases hj:j=z
   ·subst hj
    rw[ag rfl]at hc
    exact .inl ⟨v::c,hd,fun e=>by cases e⟩
   ·rw[ah hj]at hc
    exact .inl ⟨c',hc,id⟩) fun hb=>absurd trivial hb
 |clear v hp=>exact same (q:=.read v []) hp rfl rfl (fun b e=>by cases e) fun hb=>absurd trivial hb
 |tO v y hp hy=>exact same (q:=.read v (y++[S.cell v y.length])) hp rfl rfl (fun b e=>by cases e) fun hb=>absurd trivial hb
 |tP v y y' hp hy=>exact same (q:=eB v (A.out v y') (A.nx v)) hp rfl rfl (fun b e=>by have:=yU v (A.out v y') (A.nx v);revert e;cases A.nx v <;> intro e <;> cases e) fun hb=>absurd (yU _ _ _) hb
 |load v o u r a ch hp ha hx=>exact same (q:=.join v o u r a (some (S.cell u a)) ch) hp rfl rfl (fun b e=>by cases e) fun hb=>absurd trivial hb
 |same v o u r a ch hp ha hx=>exact same (q:=(dI A v o u r a ch).1) hp rfl rfl (fun b e=>by
   revert e;unfold dI;split
   ·intro e;cases e
   ·split
    ·intro e;cases e
    ·cases r <;> intro e <;> cases e) fun hb=>absurd (QT ..) hb
 |lost v o u r a ch x hp ha hx=>exact same (q:=.join v o u r a none ch) hp rfl rfl (fun b e=>by cases e) fun hb=>absurd trivial hb
 |uo v o u r a ch hp ha hx=>exact same (q:=(dI A v o u r a true).1) hp rfl rfl (fun b e=>by
   revert e;unfold dI;split
   ·intro e;cases e
   ·rw[ag rfl];intro e;cases e) fun hb=>absurd (QT ..) hb
 |none v o u r hp ha=>exact same (q:=eB v o r) hp rfl rfl (fun b e=>by revert e;cases r <;> intro e <;> cases e) fun hb=>absurd (yU _ _ _) hb
 |flag v o u r hp hf=>exact same (q:=.add v o u r) hp rfl rfl (fun b e=>by cases e) fun hb=>absurd trivial hb
 |uf v o u r hp hf=>exact same (q:=eB v o r) hp rfl rfl (fun b e=>by revert e;cases r <;> intro e <;> cases e) fun hb=>absurd (yU _ _ _) hb
 |add v o u r hp=>exact same (q:=.push v o u r 0) hp rfl rfl (fun b e=>by cases e) fun hb=>absurd trivial hb
 |push v o u r c hp hd=>exact h.set (q:=eB v o r) hp rfl (ck ..) (fun b e=>by revert e;cases r <;> intro e <;> cases e) (fun j c' hc=>by
   by_cases hj:j=i
   ·exact .inr ⟨hj,yU _ _ _⟩
   ·have hc:(S.dq.set i (c++[u]))[j]?=some c':=hc
    rw[dY,ah (fun e=>hj e.symm)]at hc
    exact .inl ⟨c',hc,id⟩) fun hb=>absurd (yU _ _ _) hb
 |dA v hp=>exact same (q:=.idle 0 0) hp rfl rfl (fun b e=>by cases e;omega) fun hb=>absurd rfl hb
 |ua hp hc=>exact same (q:=.done) hp rfl rfl (fun b e=>by cases e) fun _=>.inl (by intro e;cases e)
section
variable {Us:List Nat} {rk:(Nat→Int)→Nat} {h:Nat}
theorem Db{S S':AS}{i:Nat}{p q:Ph}(hp:S.ph[i]?=some p)(e1:S'.cell=S.cell)(e2:S'.ph=S.ph.set i q):mr A Us rk h S'+aF (kR A) S.dq+cQ A S.cell p=mr A Us rk h S+aF (kR A) S'.dq+cQ A S.cell q:=by
 have:=eW (cQ A S.cell) S.ph i p q hp
 unfold mr
 rw[e1,e2]
 omega
theorem lr{S S':AS}{i:Nat}{p q:Ph}(hp:S.ph[i]?=some p)(e1:S'.cell=S.cell)(e2:S'.ph=S.ph.set i q)(e3:S'.dq=S.dq):mr A Us rk h S'+cQ A S.cell p=mr A Us rk h S+cQ A S.cell q:=by
 have:=Db (A:=A) (Us:=Us) (rk:=rk) (h:=h) hp e1 e2
 rw[e3]at this
 omega
theorem ZV(c c':Nat→Nat→Int)(p:Ph):cQ A c' p≤cQ A c p+2:=by
 cases p with
 |join v o u r a ld ch=>
  cases ld with
  |none=>show W1 A-a+_≤W1 A-a+_+2;omega
  |some x=>
   show (W1 A-a-1)+(if x=c' u a then 0 else 2)+(gC A r+sg A u ch)≤(W1 A-a-1)+(if x=c u a then 0 else 2)+(gC A r+sg A u ch)+2
   split <;> split <;> omega
 |_=>exact FN _ _
theorem mr.step{b:Nat→Nat→Int}{S S':AS}{i:Nat}(hr:I1 A Us rk)(hh:∀c,rk c≤h)(ht:TI A S)(hv:VI A b S)(hz:Bz A S)(hs:Tr A S i S'):mr A Us rk h S'≤mr A Us rk h S∧∀p,S.ph[i]?=some p→busy p→mr A Us rk h S'<mr A Us rk h S:=by
 have dec:∀{X Y:Nat},X<Y→X≤Y∧∀p,S.ph[i]?=some p→busy p→X<Y:=fun h=>⟨Nat.le_of_lt h,fun _ _ _=>h⟩
 have nd:∀{X Y:Nat} {P:Ph},S.ph[i]?=some P→¬busy P→X≤Y→X≤Y∧∀p,S.ph[i]?=some p→busy p→X<Y:=fun hp hn h=>⟨h,fun p hq hb=>by rw[hp]at hq;cases hq;exact absurd hb hn⟩
 have hw:=VM A
 cases hs with
 |stay hp=>
  refine⟨aM _,fun p hq hb=>?_⟩
  rcases hp with hp | hp
  ·rw[hp]at hq;cases hq;exact hb.elim
  ·rw[hp]at hq;cases hq
 |uc a hp ha=>
  have e:=lr (A:=A) (Us:=Us) (rk:=rk) (h:=h) (S':= { S with ph:=S.ph.set i (.idle 0 (a+1)) }) hp rfl rfl rfl
  rw[show cQ A S.cell (.idle 0 a)=6-a+1 from rfl,show cQ A S.cell (.idle 0 (a+1))=6-(a+1)+1 from rfl]at e
  exact dec (by omega)
 |ud a hp hd=>
  have e:=lr (A:=A) (Us:=Us) (rk:=rk) (h:=h) (S':= { S with ph:=S.ph.set i (.idle (if A.k<2 then 2 else 1) 0) }) hp rfl rfl rfl
  rw[show cQ A S.cell (.idle 0 a)=6-a+1 from rfl,show cQ A S.cell (.idle (if A.k<2 then 2 else 1) 0)=0 by by_cases hk:A.k<2 <;> simp[cQ,hk]]at e
  exact dec (by omega)
 |tG a hp ha=>
  have e:=lr (A:=A) (Us:=Us) (rk:=rk) (h:=h) (S':= { S with ph:=S.ph.set i (.idle 1 (a+1)) }) hp rfl rfl rfl
  rw[show cQ A S.cell (.idle 1 a)=0 from rfl,show cQ A S.cell (.idle 1 (a+1))=0 from rfl]at e
  exact nd hp (by intro e;cases e) (by omega)
 |tH a hp=>
  have e:=lr (A:=A) (Us:=Us) (rk:=rk) (h:=h) (S':= { S with ph:=S.ph.set i (.idle 2 0) }) hp rfl rfl rfl
  rw[show cQ A S.cell (.idle 1 a)=0 from rfl,show cQ A S.cell (.idle 2 0)=0 from rfl]at e
  exact nd hp (by intro e;cases e) (by omega)
 |ask hp hc=>
  have e:=lr (A:=A) (Us:=Us) (rk:=rk) (h:=h) (S':= { S with ph:=S.ph.set i (.idle (if A.k<2 then 0 else 1) 0) }) hp rfl rfl rfl
  rw[show cQ A S.cell (.idle 2 0)=0 from rfl]at e
  by_cases hk:A.k<2
  ·refine absurd ?_ hc
   have h1:=ht.aD
   have hl:=hz.len
   have hd:=hz.dl
   have hi:=(bQ.1 hp).1
   have h2:aF List.length S.dq=0:=qY fun c qP=>by
    obtain⟨j,hj⟩:=kI.1 qP
    have wG:=(bQ.1 hj).1
    have:j=i:=by omega
    subst this
    rw[hz.rest j _ c hp hj (by intro e;cases e)];rfl
   have h3:aF cw S.ph=0:=qY fun p fw=>by
    obtain⟨j,hj⟩:=kI.1 fw
    have wG:=(bQ.1 hj).1
    have:j=i:=by omega
    subst this
    rw[hp]at hj;cases hj;rfl
   omega
  ·rw[show cQ A S.cell (.idle (if A.k<2 then 0 else 1) 0)=0 by rw[ah hk];rfl]at e
   exact nd hp (by intro e;cases e) (by omega)
 |tQ v o u r a hp ha=>
  have e:=lr (A:=A) (Us:=Us) (rk:=rk) (h:=h) (S':= { S with ph:=S.ph.set i (.push v o u r (a+1)) }) hp rfl rfl rfl
  rw[show cQ A S.cell (.push v o u r a)=4-a+dR A u+gC A r from rfl,show cQ A S.cell (.push v o u r (a+1))=4-(a+1)+dR A u+gC A r from rfl]at e
  exact dec (by omega)
 |pop v c a hp hd=>
  have e:=Db (A:=A) (Us:=Us) (rk:=rk) (h:=h) (S':= { S with dq:=S.dq.set i c,ph:=S.ph.set i (.clear v) }) hp rfl rfl
  dsimp only at e
  have e2:=eW (kR A) S.dq i _ c hd
  rw[show kR A (c++[v])=kR A c+dR A v from (Lm ..)]at e2
  rw[show cQ A S.cell (.idle 0 a)=6-a+1 from rfl,show cQ A S.cell (.clear v)=dR A v from rfl]at e
  exact dec (by omega)
 |cas v a hp hd=>
  have e:=Db (A:=A) (Us:=Us) (rk:=rk) (h:=h) (S':= { S with dq:=S.dq.set i [],ph:=S.ph.set i (.held v) }) hp rfl rfl
  dsimp only at e
  have e2:=eW (kR A) S.dq i _ [] hd
  rw[show kR A [v]=dR A v from rfl,show kR A []=0 from rfl]at e2
  have h5:=hz.a5 _ (bH hp) a rfl
  rw[show cQ A S.cell (.idle 0 a)=6-a+1 from rfl,show cQ A S.cell (.held v)=dR A v+1 from rfl]at e
  exact dec (by omega)
 |uM v hp=>
  have e:=lr (A:=A) (Us:=Us) (rk:=rk) (h:=h) (S':= { S with ph:=S.ph.set i (.clear v) }) hp rfl rfl rfl
  rw[show cQ A S.cell (.held v)=dR A v+1 from rfl,show cQ A S.cell (.clear v)=dR A v from rfl]at e
  exact dec (by omega)
 |cc j v c a hp hd=>
  have e:=Db (A:=A) (Us:=Us) (rk:=rk) (h:=h) (S':= { S with dq:=S.dq.set j c,ph:=S.ph.set i (.clear v) }) hp rfl rfl
  dsimp only at e
  have e2:=eW (kR A) S.dq j _ c hd
  rw[show kR A (v::c)=dR A v+kR A c from rfl]at e2
  rw[show cQ A S.cell (.idle 1 a)=0 from rfl,show cQ A S.cell (.clear v)=dR A v from rfl]at e
  exact nd hp (by intro e;cases e) (by omega)
 |clear v hp=>
  have e:=lr (A:=A) (Us:=Us) (rk:=rk) (h:=h) (S':= { S with flag:=fun z=>if z=v then false else S.flag z,ph:=S.ph.set i (.read v []) }) hp rfl rfl rfl
  rw[show cQ A S.cell (.clear v)=W1 A+9+(A.nx v).length*W1 A from rfl,show cQ A S.cell (.read v [])=W1 A-0+((A.nx v).length*W1 A+8) from rfl]at e
  exact dec (by omega)
 |tO v y hp hy=>
  have e:=lr (A:=A) (Us:=Us) (rk:=rk) (h:=h) (S':= { S with ph:=S.ph.set i (.read v (y++[S.cell v y.length])) }) hp rfl rfl rfl
  rw[show cQ A S.cell (.read v y)=W1 A-y.length+gC A (A.nx v) from rfl,show cQ A S.cell (.read v (y++[S.cell v y.length]))=W1 A-(y++[S.cell v y.length]).length+gC A (A.nx v) from rfl,bG,se]at e
  exact dec (by omega)
 |tP v y y' hp hy=>
  have e:=lr (A:=A) (Us:=Us) (rk:=rk) (h:=h) (S':= { S with ph:=S.ph.set i (eB v (A.out v y') (A.nx v)),ev:=S.ev+1 }) hp rfl rfl rfl
  rw[CT,show cQ A S.cell (.read v y)=W1 A-y.length+gC A (A.nx v) from rfl]at e
  have h1:y.length<W1 A:=by
   rcases (hv.ph _ (bH hp)).1 with h1 | ⟨_,rfl⟩
   ·omega
   ·exact hw.1
  exact dec (by omega)
 |load v o u r a ch hp ha hx=>
  have e:=lr (A:=A) (Us:=Us) (rk:=rk) (h:=h) (S':= { S with ph:=S.ph.set i (.join v o u r a (some (S.cell u a)) ch) }) hp rfl rfl rfl
  rw[show cQ A S.cell (.join v o u r a none ch)=W1 A-a+(gC A r+sg A u ch) from rfl,show cQ A S.cell (.join v o u r a (some (S.cell u a)) ch)=(W1 A-a-1)+(if S.cell u a=S.cell u a then 0 else 2)+(gC A r+sg A u ch) from rfl,ag rfl]at e
  exact dec (by omega)
 |same v o u r a ch hp ha hx=>
  have e:=lr (A:=A) (Us:=Us) (rk:=rk) (h:=h) (S':= { S with ph:=S.ph.set i (dI A v o u r a ch).1,jo:=S.jo+(dI A v o u r a ch).2 }) hp rfl rfl rfl
  rw[show cQ A S.cell (.join v o u r a none ch)=W1 A-a+(gC A r+sg A u ch) from rfl]at e
  have h1:=QS A S.cell v o u r a ch
  exact dec (by omega)
 |lost v o u r a ch x hp ha hx=>
  have e:=lr (A:=A) (Us:=Us) (rk:=rk) (h:=h) (S':= { S with ph:=S.ph.set i (.join v o u r a none ch) }) hp rfl rfl rfl
  rw[show cQ A S.cell (.join v o u r a none ch)=W1 A-a+(gC A r+sg A u ch) from rfl,show cQ A S.cell (.join v o u r a (some x) ch)=(W1 A-a-1)+(if x=S.cell u a then 0 else 2)+(gC A r+sg A u ch) from rfl,ah (fun e=>hx e.symm)]at e
  exact dec (by omega)
 |uo v o u r a ch hp ha hx=>
  obtain⟨h1,h2,h3,h4,_⟩:=hv.ph _ (bH hp)
  have eP:=ht.at_ hp (v:=u) (by simp[nodes])
  have cX:=ht.at_ hp (v:=v) (by simp[nodes])
  have lN:=hr.up (S.cell u) a (o.getD a 0) ha (fun j hj=>hv.ok u j eP hj) (h1.ok a ha) hx
  have mT:dm S.cell u a (A.jw (S.cell u a) (o.getD a 0)) u=fun j=>if j=a then A.jw (S.cell u a) (o.getD a 0) else S.cell u j:=by
   funext j
   unfold dm
   by_cases hj:j=a
   ·subst hj;rw[ag ⟨rfl,rfl⟩,ag rfl]
   ·rw[ah (fun e=>hj e.2),ah hj]
  have lH:=Hh (f:=fun z=>(h-rk (dm S.cell u a (A.jw (S.cell u a) (o.getD a 0)) z))*(2*A.k+5+dR A z)) (g:=fun z=>(h-rk (S.cell z))*(2*A.k+5+dR A z)) hr.nodup (hr.all v cX u h2) fun z _ hz=>by
   have:dm S.cell u a (A.jw (S.cell u a) (o.getD a 0)) z=S.cell z:=funext fun j=>tE fun e=>hz e.1
   show (h-rk (dm S.cell u a (A.jw (S.cell u a) (o.getD a 0)) z))*_=_
   rw[this]
  have hc:=TY (ZV (A:=A) S.cell (dm S.cell u a (A.jw (S.cell u a) (o.getD a 0)))) S.ph i _ (dI A v o u r a true).1 hp
  rw[show cQ A S.cell (.join v o u r a (some (S.cell u a)) ch)=(W1 A-a-1)+(if S.cell u a=S.cell u a then 0 else 2)+(gC A r+sg A u ch) from rfl,ag rfl,hz.len]at hc
  have hj:=QS A (dm S.cell u a (A.jw (S.cell u a) (o.getD a 0))) v o u r a true
  rw[show sg A u true=6+dR A u from rfl]at hj
  have lH:aF (fun z=>(h-rk (dm S.cell u a (A.jw (S.cell u a) (o.getD a 0)) z))*(2*A.k+5+dR A z)) Us+(h-rk (S.cell u))*(2*A.k+5+dR A u)=aF (fun z=>(h-rk (S.cell z))*(2*A.k+5+dR A z)) Us+(h-rk (dm S.cell u a (A.jw (S.cell u a) (o.getD a 0)) u))*(2*A.k+5+dR A u):=lH
  rw[mT]at lH
  have hb:=hh fun j=>if j=a then A.jw (S.cell u a) (o.getD a 0) else S.cell u j
  have hm:(h-rk fun j=>if j=a then A.jw (S.cell u a) (o.getD a 0) else S.cell u j)*(2*A.k+5+dR A u)+(2*A.k+5+dR A u)≤(h-rk (S.cell u))*(2*A.k+5+dR A u):=by
   rw[← lR]
   exact iR _ (by omega)
  refine dec ?_
  show aF (fun z=>(h-rk (dm S.cell u a (A.jw (S.cell u a) (o.getD a 0)) z))*(2*A.k+5+dR A z)) Us+aF (kR A) S.dq+aF (cQ A (dm S.cell u a (A.jw (S.cell u a) (o.getD a 0)))) (S.ph.set i (dI A v o u r a true).1)<aF (fun z=>(h-rk (S.cell z))*(2*A.k+5+dR A z)) Us+aF (kR A) S.dq+aF (cQ A S.cell) S.ph
  omega
 |none v o u r hp ha=>
  have e:=lr (A:=A) (Us:=Us) (rk:=rk) (h:=h) (S':= { S with ph:=S.ph.set i (eB v o r) }) hp rfl rfl rfl
  rw[CT,show cQ A S.cell (.join v o u r 0 none false)=W1 A-0+(gC A r+0) from rfl]at e
  exact dec (by omega)
 |flag v o u r hp hf=>
  have e:=lr (A:=A) (Us:=Us) (rk:=rk) (h:=h) (S':= { S with flag:=fun z=>if z=u then true else S.flag z,ph:=S.ph.set i (.add v o u r) }) hp rfl rfl rfl
  rw[show cQ A S.cell (.take v o u r)=6+dR A u+gC A r from rfl,show cQ A S.cell (.add v o u r)=5+dR A u+gC A r from rfl]at e
  exact dec (by omega)
 |uf v o u r hp hf=>
  have e:=lr (A:=A) (Us:=Us) (rk:=rk) (h:=h) (S':= { S with ph:=S.ph.set i (eB v o r) }) hp rfl rfl rfl
  rw[CT,show cQ A S.cell (.take v o u r)=6+dR A u+gC A r from rfl]at e
  exact dec (by omega)
 |add v o u r hp=>
  have e:=lr (A:=A) (Us:=Us) (rk:=rk) (h:=h) (S':= { S with aD:=S.aD+1,ph:=S.ph.set i (.push v o u r 0) }) hp rfl rfl rfl
  rw[show cQ A S.cell (.add v o u r)=5+dR A u+gC A r from rfl,show cQ A S.cell (.push v o u r 0)=4-0+dR A u+gC A r from rfl]at e
  exact dec (by omega)
 |push v o u r c hp hd=>
  have e:=Db (A:=A) (Us:=Us) (rk:=rk) (h:=h) (S':= { S with dq:=S.dq.set i (c++[u]),ph:=S.ph.set i (eB v o r) }) hp rfl rfl
  dsimp only at e
  have e2:=eW (kR A) S.dq i _ (c++[u]) hd
  rw[show kR A (c++[u])=kR A c+dR A u from (Lm ..)]at e2
  rw[CT,show cQ A S.cell (.push v o u r 3)=4-3+dR A u+gC A r from rfl]at e
  exact dec (by omega)
 |dA v hp=>
  have e:=lr (A:=A) (Us:=Us) (rk:=rk) (h:=h) (S':= { S with aD:=S.aD-1,ph:=S.ph.set i (.idle 0 0) }) hp rfl rfl rfl
  rw[show cQ A S.cell (.dA v)=8 from rfl,show cQ A S.cell (.idle 0 0)=7 from rfl]at e
  exact dec (by omega)
 |ua hp hc=>
  have e:=lr (A:=A) (Us:=Us) (rk:=rk) (h:=h) (S':= { S with ph:=S.ph.set i .done }) hp rfl rfl rfl
  rw[show cQ A S.cell (.idle 2 0)=0 from rfl,show cQ A S.cell .done=0 from rfl]at e
  exact nd hp (by intro e;cases e) (by omega)
end
theorem Bz.work{S:AS}(hz:Bz A S)(ht:TI A S)(hc:S.aD≠0):∃(j:Nat) (p:Ph),S.ph[j]?=some p∧busy p:=by
 apply Classical.byContradiction
 intro hn
 have cf:∀j p,S.ph[j]?=some p→¬busy p:=fun j p hp hb=>hn ⟨j,p,hp,hb⟩
 apply hc
 have h1:=ht.aD
 have h2:aF List.length S.dq=0:=qY fun c qP=>by
  obtain⟨j,hj⟩:=kI.1 qP
  have wG:=(bQ.1 hj).1
  have hp:S.ph[j]?=some (S.ph[j]'(by rw[hz.len,← hz.dl];exact wG)):=bc _
  rw[hz.rest j _ c hp hj (cf j _ hp)];rfl
 have h3:aF cw S.ph=0:=qY fun p fw=>by
  obtain⟨j,hj⟩:=kI.1 fw
  have:=cf j p hj
  cases p <;> first | rfl | exact absurd trivial this
 omega
theorem Tr.other{S S':AS}{i j:Nat}(hs:Tr A S i S')(eQ:i≠j):S'.ph[j]?=S.ph[j]?:=by
 cases hs <;> first | rfl | exact Pd eQ
def rM:Ph→Nat
 |.idle d a=>if d=0 then 6-a+5 else if d=1 then 3-a+2 else 1
 |_=>0
theorem U5(p:Ph):rM p≤11:=by
 cases p <;> simp only[rM] <;> (try split) <;> (try split) <;> omega
theorem QI{S S':AS}{i:Nat}(hz:Bz A S)(ht:TI A S)(h0:S.aD=0)(hs:Tr A S i S'):S'.aD=0∧∀p q,S.ph[i]?=some p→S'.ph[i]?=some q→(rM q+1≤rM p∨(p=.done∧q=.done)):=by
 obtain⟨h1,h2,h3⟩:=ht.quiet h0
 have j7:∀{q:Ph},∀{p},S.ph[i]?=some p→(S.ph.set i q)[i]?=some q:=fun hp=>by
  rw[dY,ag rfl,ag (bQ.1 hp).1]
 have key:∀{P Q:Ph} {p q:Ph},S.ph[i]?=some P→S.ph[i]?=some p→(S.ph.set i Q)[i]?=some q→rM Q+1≤rM P→(rM q+1≤rM p∨(p=.done∧q=.done)):=fun hP hp hq hr=>by
  rw[j7 hP]at hq
  rw[hP]at hp
  cases hp;cases hq;exact .inl hr
 have bad:∀{P:Ph},S.ph[i]?=some P→(∀d a,P≠.idle d a)→P≠.done→False:=fun hp hd he=>by
  rcases h2 _ (bH hp) with ⟨d,a,e⟩ | e
  ·exact hd d a e
  ·exact he e
 cases hs with
 |stay hp=>
  refine⟨h0,fun p q e1 e2=>?_⟩
  rw[e1]at e2;cases e2
  rcases hp with hp | hp
  ·rw[e1]at hp;cases hp;exact .inr ⟨rfl,rfl⟩
  ·rw[e1]at hp;cases hp
 |uc a hp ha=>exact⟨h0,fun p q e1 e2=>key (Q:=.idle 0 (a+1)) hp e1 e2 (by show 6-(a+1)+5+1≤6-a+5;omega)⟩
 |ud a hp hd=>
  have h5:=hz.a5 _ (bH hp) a rfl
  exact⟨h0,fun p q e1 e2=>key (Q:=.idle (if A.k<2 then 2 else 1) 0) hp e1 e2 (by show (if (if A.k<2 then 2 else 1)=0 then _ else if (if A.k<2 then 2 else 1)=1 then 3-0+2 else 1)+1≤6-a+5;rw[ah (by split <;> omega)];split <;> split <;> omega)⟩
 |tG a hp ha=>exact⟨h0,fun p q e1 e2=>key (Q:=.idle 1 (a+1)) hp e1 e2 (by show 3-(a+1)+2+1≤3-a+2;omega)⟩
 |tH a hp=>exact⟨h0,fun p q e1 e2=>key (Q:=.idle 2 0) hp e1 e2 (by show 1+1≤3-a+2;omega)⟩
 |ask hp hc=>exact absurd h0 hc
 |ua hp hc=>exact⟨h0,fun p q e1 e2=>key (Q:=.done) hp e1 e2 (by show 0+1≤1;omega)⟩
 |pop v c a hp hd=>
  have:=h1 _ (bH hd)
  simp at this
 |cas v a hp hd=>
  have:=h1 _ (bH hd)
  simp at this
 |cc j v c a hp hd=>
  have:=h1 _ (bH hd)
  simp at this
 |uM v hp=>exact (bad hp (fun _ _ e=>by cases e) (fun e=>by cases e)).elim
 |clear v hp=>exact (bad hp (fun _ _ e=>by cases e) (fun e=>by cases e)).elim
 |tO v y hp hy=>exact (bad hp (fun _ _ e=>by cases e) (fun e=>by cases e)).elim
 |tP v y y' hp hy=>exact (bad hp (fun _ _ e=>by cases e) (fun e=>by cases e)).elim
 |load v o u r a ch hp ha hx=>exact (bad hp (fun _ _ e=>by cases e) (fun e=>by cases e)).elim
 |same v o u r a ch hp ha hx=>exact (bad hp (fun _ _ e=>by cases e) (fun e=>by cases e)).elim
 |lost v o u r a ch x hp ha hx=>exact (bad hp (fun _ _ e=>by cases e) (fun e=>by cases e)).elim
 |uo v o u r a ch hp ha hx=>exact (bad hp (fun _ _ e=>by cases e) (fun e=>by cases e)).elim
 |none v o u r hp ha=>exact (bad hp (fun _ _ e=>by cases e) (fun e=>by cases e)).elim
 |flag v o u r hp hf=>exact (bad hp (fun _ _ e=>by cases e) (fun e=>by cases e)).elim
 |uf v o u r hp hf=>exact (bad hp (fun _ _ e=>by cases e) (fun e=>by cases e)).elim
 |add v o u r hp=>exact (bad hp (fun _ _ e=>by cases e) (fun e=>by cases e)).elim
 |tQ v o u r a hp ha=>exact (bad hp (fun _ _ e=>by cases e) (fun e=>by cases e)).elim
 |push v o u r c hp hd=>exact (bad hp (fun _ _ e=>by cases e) (fun e=>by cases e)).elim
 |dA v hp=>exact (bad hp (fun _ _ e=>by cases e) (fun e=>by cases e)).elim
inductive oM(A:AP):List Nat→AS→AS→Prop where
 |nil (S:AS):oM A [] S S
 |cons {i:Nat} {L:List Nat} {S S1 S2:AS} (h:Tr A S i S1) (hs:oM A L S1 S2):oM A (i::L) S S2
theorem oM.split:∀{L M:List Nat} {S S2:AS},oM A (L++M) S S2→∃S1,oM A L S S1∧oM A M S1 S2
 | [],M,S,S2,h=>⟨S,.nil _,h⟩
 |i::L,M,S,S2,h=>by
  cases h with
  |cons h hs=>
   obtain⟨S1,h1,h2⟩:=oM.split hs
   exact⟨S1,.cons h h1,h2⟩
structure qE(A:AP)(b:Nat→Nat→Int)(S:AS):Prop where
 ti:TI A S
 vi:VI A b S
 bz:Bz A S
section
variable {b:Nat→Nat→Int} {Us:List Nat} {rk:(Nat→Int)→Nat} {h:Nat} (hb:N5 A b) (hr:I1 A Us rk) (hh:∀c,rk c≤h)
include hb
theorem qE.step{S S':AS}{i:Nat}(hI:qE A b S)(hs:Tr A S i S'):qE A b S':=⟨hI.ti.step hs,(hI.vi.step hb hI.ti hs).1,hI.bz.step hs⟩
theorem qE.go{L:List Nat}{S S':AS}(hI:qE A b S)(hs:oM A L S S'):qE A b S':=by
 induction hs with
 |nil=>exact hI
 |cons h _ ih=>exact ih (hI.step hb h)
def Bd(A:AP)(Us:List Nat)(rk:(Nat→Int)→Nat)(h B:Nat)(S:AS):Prop:=(S.aD≠0∧mr A Us rk h S+11≤B)∨(S.aD=0∧∀p∈S.ph,rM p≤B)
include hr hh
omit hb in
theorem Bd.step{S S':AS}{i B:Nat}(hI:qE A b S)(hB:Bd A Us rk h B S)(hs:Tr A S i S'):Bd A Us rk h B S':=by
 rcases hB with ⟨h1,h2⟩ | ⟨h1,h2⟩
 ·have hp:=(mr.step hr hh hI.ti hI.vi hI.bz hs).1
  by_cases hc:S'.aD=0
  ·exact .inr ⟨hc,fun p _=>by have:=U5 p;omega⟩
  ·exact .inl ⟨hc,by omega⟩
 ·obtain⟨hc,hq⟩:=QI hI.bz hI.ti h1 hs
  refine .inr ⟨hc,fun p hp=>?_⟩
  obtain⟨j,hj⟩:=kI.1 hp
  by_cases eQ:i=j
  ·subst eQ
   have hl:i<S.ph.length:=by
    have h3:=(bQ.1 hj).1
    have h4:=hI.bz.len
    have h5:=(hI.bz.step hs).len
    omega
   have h6:S.ph[i]?=some S.ph[i]:=bc hl
   have h7:=h2 _ (bH h6)
   rcases hq _ p h6 hj with h8 | ⟨h8,rfl⟩
   ·omega
   ·show 0≤B;omega
  ·rw[hs.other eQ]at hj
   exact h2 p (bH hj)
theorem Bd.go{L:List Nat}{S S':AS}{B:Nat}(hI:qE A b S)(hB:Bd A Us rk h B S)(hs:oM A L S S'):Bd A Us rk h B S':=by
 induction hs with
 |nil=>exact hB
 |cons h _ ih=>exact ih (hI.step hb h) (Bd.step hr hh hI hB h)
theorem Bd.ahm{L:List Nat}{S S':AS}{B j:Nat}(hs:oM A L S S'):qE A b S→S.aD≠0→mr A Us rk h S+11≤B+1→(∃p,S.ph[j]?=some p∧busy p)→11≤B→j∈L→Bd A Us rk h B S':=by
 induction hs with
 |nil=>intro _ _ _ _ _ h;cases h
 | @cons i L S S1 S2 h1 hs ih=>
  rintro hI hc hP ⟨p,hp,B4⟩ h11 hj
  have O1:=hI.step hb h1
  obtain⟨k1,k2⟩:=mr.step hr hh hI.ti hI.vi hI.bz h1
  by_cases gU:S1.aD=0
  ·exact Bd.go hb hr hh O1 (.inr ⟨gU,fun p _=>by have:=U5 p;omega⟩) hs
  ·by_cases eQ:i=j
   ·subst eQ
    have:=k2 p hp B4
    exact Bd.go hb hr hh O1 (.inl ⟨gU,by omega⟩) hs
   ·refine ih O1 gU (by omega) ⟨p,by rw[h1.other eQ];exact hp,B4⟩ h11 ?_
    rcases da.1 hj with rfl | hj
    ·exact absurd rfl eQ
    ·exact hj
omit hr hh in
theorem Bd.agx{L:List Nat}{S S':AS}{B:Nat}(hs:oM A L S S'):∀(P:Nat→Prop),qE A b S→S.aD=0→(∀j p,S.ph[j]?=some p→rM p≤B∨(P j∧rM p≤B+1))→(∀j,j<A.k→P j→j∈L)→Bd A Us rk h B S':=by
 induction hs with
 |nil S=>
  intro P hI hc hP hL
  refine .inr ⟨hc,fun p hp=>?_⟩
  obtain⟨j,hj⟩:=kI.1 hp
  rcases hP j p hj with h1 | ⟨h1,h2⟩
  ·exact h1
  ·have:=hL j (by rw[← hI.bz.len];exact (bQ.1 hj).1) h1
   cases this
 | @cons i L S S1 S2 h1 hs ih=>
  intro P hI hc hP hL
  obtain⟨gU,hq⟩:=QI hI.bz hI.ti hc h1
  refine ih (fun j=>P j∧j≠i) (hI.step hb h1) gU (fun j p hj=>?_) fun j hj nR=>?_
  ·by_cases eQ:i=j
   ·subst eQ
    have hl:i<S.ph.length:=by
     have h3:=(bQ.1 hj).1
     have h4:=hI.bz.len
     have h5:=(hI.bz.step h1).len
     omega
    have h6:S.ph[i]?=some S.ph[i]:=bc hl
    rcases hq _ p h6 hj with h8 | ⟨h8,rfl⟩
    ·rcases hP i _ h6 with h9 | ⟨_,h9⟩ <;> exact .inl (by omega)
    ·exact .inl (bK _)
   ·rw[h1.other eQ]at hj
    rcases hP j p hj with h9 | ⟨h9,FB⟩
    ·exact .inl h9
    ·exact .inr ⟨⟨h9,fun e=>eQ e.symm⟩,FB⟩
  ·rcases da.1 (hL j hj nR.1) with h2 | h2
   ·exact absurd h2 nR.2
   ·exact h2
theorem Bd.af9{L:List Nat}{S S':AS}{B:Nat}(hI:qE A b S)(hB:Bd A Us rk h (B+1) S)(hL:∀j,j<A.k→j∈L)(hs:oM A L S S'):Bd A Us rk h B S':=by
 rcases hB with ⟨h1,h2⟩ | ⟨h1,h2⟩
 ·obtain⟨j,p,hp,B4⟩:=hI.bz.work hI.ti h1
  have hj:j<A.k:=by rw[← hI.bz.len];exact (bQ.1 hp).1
  refine Bd.ahm hb hr hh hs hI h1 h2 ⟨p,hp,B4⟩ ?_ (hL j hj)
  have h3:1≤cQ A S.cell p:=by
   have hw:=VM A
   have hv:=hI.vi.ph _ (bH hp)
   have h5:=hI.bz.a5 _ (bH hp)
   cases p with
   |idle d a=>rw[show d=0 from B4];show 1≤6-a+1;omega
   |held v=>exact Nat.le_add_left _ _
   |clear v=>show 1≤W1 A+9+_;omega
   |read v y=>show 1≤_+(_+8);omega
   |join v o u r a ld ch=>show 1≤_+(_+8+_);omega
   |take v o u r=>show 1≤6+_+_;omega
   |add v o u r=>show 1≤5+_+_;omega
   |push v o u r a=>show 1≤_+(_+8);omega
   |dA v=>show 1≤8;omega
   |done=>exact B4.elim
  have h4:=y4 (cQ A S.cell) S.ph j p hp
  unfold mr at h2
  omega
 ·exact Bd.agx hb hs (fun _=>True) hI h1 (fun j p hp=>.inr ⟨trivial,h2 p (bH hp)⟩) fun j hj _=>hL j hj
theorem Bd.TM{K B:Nat}:∀(m:Nat) {L:List Nat} {S S':AS},qE A b S→Bd A Us rk h (B+m) S→m*K≤L.length→(∀i,i+K≤L.length→∀j,j<A.k→j∈(L.drop i).take K)→oM A L S S'→Bd A Us rk h B S'
 | 0,L,S,S',hI,hB,_,_,hs=>Bd.go hb hr hh hI hB hs
 |m+1,L,S,S',hI,hB,hl,hf,hs=>by
  rw[lR]at hl
  rw[← yB K L]at hs
  obtain⟨S1,h1,h2⟩:=hs.split
  have hf0:=hf 0 (by omega)
  rw[iB]at hf0
  refine Bd.TM (K:=K) m (hI.go hb h1) (Bd.af9 hb hr hh hI hB hf0 h1) (by rw[JW];omega) (fun i hi j hj=>?_) h2
  rw[JW]at hi
  rw[B9]
  exact hf (K+i) (by omega) j hj
omit hb hr hh in
theorem Bd.zero{S:AS}(ht:TI A S)(hB:Bd A Us rk h 0 S):∀p∈S.ph,p=.done:=by
 rcases hB with ⟨h1,h2⟩ | ⟨h1,h2⟩
 ·omega
 ·intro p hp
  have h3:=h2 p hp
  rcases (ht.quiet h1).2.1 p hp with ⟨d,a,rfl⟩ | rfl
  ·exfalso
   simp only[rM]at h3
   split at h3
   ·omega
   ·split at h3 <;> omega
  ·rfl
end
end SX
inductive AV where
 |int (k:IntKind) (n:Int)
 |bool (b:Bool)
 |str (s:ByteArray)
 |ai (e:Sh) (l:List e.T)
 |kv
 |gz
 |aj
 |ae (b off len e:Nat)
 |cN
 |ptr (b off:Nat)
 |fV (cs:List AV)
 |agg (cs:List AV)
 |tup (vs:List AV)
 |iface (t:TypeId) (v:AV)
 |nilif
 |fn (f:Fn) (first cap:List AV)
 |iH
 |pK
 |gk (n:Int)
 |fR (n m:Int)
 |any
 |via (v:AV)
 |nz (b:Nat)
 |oE (l:List (Int×Int))
 |nJ (b:Nat)
 |sD (m c:Nat) (seen:List Nat)
 |mD (L:Loop) (t:Nat→AV)
abbrev Hp:Type:=List (Nat×List AV)
abbrev Tm:Type:=Nat→AV
def Sh.cells:(s:Sh)→s.T→List AV
 |.int k,(n:Int)=>[.int k n]
 |.bool,(b:Bool)=>[.bool b]
 |.str,(s:ByteArray)=>[.str s]
 |.slice e,(l:List e.T)=>[.ai e l]
 |.nil,_=>[]
 |.field f r,(d:f.T×r.T)=>f.cells d.1++r.cells d.2
def AV.leaf:AV→Bool
 |.agg _ | .tup _ | .any | .oE _ | .sD _ _ _ | .mD _ _=>false
 |_=>true
def AV.cells?:AV→Option (List AV)
 |.agg cs=>some cs
 |.tup _ | .any | .oE _ | .sD _ _ _ | .mD _ _=>none
 |v=>some [v]
inductive TK where
 |int (k:IntKind) | bool | str | slice (e:TypeId) | ptr (e:TypeId) | aV (fs:List (Nat×TypeId)) | arr (n:Nat) (e:TypeId) | iface | func | map (k e:TypeId) | gk | fR | other
structure TI where
 k:TK
 size:Nat
 bytes:Nat
 zero:List AV
def TI.wide(i:TI):Bool:=match i.k with | .aV _ | .arr _ _=>true | _=>false
def AX:Value→AV
 |.int k n=>.int k n
 |.bool b=>.bool b
 |.string s=>.str s
 |.pointer none=>.cN
 |.slice none 0 0=>.aj
 |.nilIface=>.nilif
 |.nilFunc=>.iH
 |.map none=>.pK
 |_=>.any
def VV:Value→AV
 |.agg cs=>match (cs.toList.map AX).all AV.leaf with | true=>.agg (cs.toList.map AX) | false=>.any
 |.tuple vs=>match vs.toList with | []=>.tup [] | _=>.any
 |v=>AX v
def ev(t:Tm):Operand→AV
 |.tmp i=>t i
 |.const v=>VV v
 |.global _=>.any
 |.func f=>.fn (.func f) [] []
def put(t:Tm)(d:Option Tmp)(v:AV):Tm:=
 match d with
 |none=>t
 |some d=>fun i=>match Nat.beq i d with | true=>v | false=>t i
def Ea(b:Bool)(A B:Prop):Prop:=match b with | true=>A | false=>B
theorem eG{b:Bool}{A B:Prop}(h1:b=true→A)(h2:b=false→B):Ea b A B:=by cases b;exact h2 rfl;exact h1 rfl
theorem aq{p:Prop}[Decidable p]{A B:Prop}(h1:p→A)(h2:¬p→B):Ea (decide p) A B:=by
 by_cases h:p
 ·simp only[h,decide_true];exact h1 h
 ·simp only[h,decide_false];exact h2 h
theorem KP{b:Bool}{A B:Prop}(h:b=true)(h1:A):Ea b A B:=by subst h;exact h1
theorem Yp{b:Bool}{A B:Prop}(h:b=false)(h1:B):Ea b A B:=by subst h;exact h1
def strict(v:AV)(K:AV→Prop):Prop:=
 match v with
 |.int k n=>K (.int k n)
 |.bool b=>K (.bool b)
 |.str s=>K (.str s)
 |.ai e l=>K (.ai e l)
 |.kv=>K .kv
 |.gz=>K .gz
 |.aj=>K .aj
 |.ae b o l e=>K (.ae b o l e)
 |.cN=>K .cN
 |.ptr b o=>K (.ptr b o)
 |.fV cs=>K (.fV cs)
 |.agg cs=>K (.agg cs)
 |.tup vs=>K (.tup vs)
 |.iface t v=>K (.iface t v)
 |.nilif=>K .nilif
 |.fn f a c=>K (.fn f a c)
 |.iH=>K .iH
 |.pK=>K .pK
 |.gk n=>K (.gk n)
 |.fR n m=>K (.fR n m)
 |.any=>K .any
 |.via v=>K (.via v)
 |.nz b=>K (.nz b)
 |.oE l=>K (.oE l)
 |.nJ b=>K (.nJ b)
 |.sD m c s=>K (.sD m c s)
 |.mD L t=>K (.mD L t)
theorem yT(v:AV)(K:AV→Prop):strict v K=K v:=by cases v <;> rfl
def bJ:AV→AV
 |.via v=>v
 |v=>v
structure aH(p:Prop)(X:Prop):Prop where
 fact:p
 go:X
def dP(i:TI)(cs:List AV)(off:Nat):Option AV:=
 match i.wide with
 |true=>match Nat.ble (off+i.size) cs.length with | true=>some (.agg ((cs.drop off).take i.size)) | false=>none
 |false=>cs[off]?
def e8(cs:List AV)(off:Nat):List AV→List AV
 | []=>cs
 |v::r=>e8 (cs.set off v) (off+1) r
def kn(i:TI)(cs:List AV)(off:Nat)(v:AV):Option (List AV):=
 match v.cells? with
 |some vs=>match Nat.beq vs.length i.size,Nat.ble (off+i.size) cs.length with | true,true=>some (e8 cs off vs) | _,_=>none
 |none=>none
inductive eO(i:TI)(σ:Hp)(b o:Nat)(K:AV→Prop):Prop where
 |mk (j:Nat) (cs:List AV) (v:AV) (h1:σ[j]?=some (b,cs)) (h2:dP i cs o=some v) (go:K v)
inductive HD(i:TI)(σ:Hp)(b o:Nat)(v:AV)(K:Hp→Prop):Prop where
 |mk (j:Nat) (cs cs':List AV) (h1:σ[j]?=some (b,cs)) (h2:kn i cs o v=some cs') (go:K (σ.set j (b,cs')))
theorem aT{i:TI}{σ:Hp}{b o:Nat}{K:AV→Prop}(j:Nat){cs:List AV}{v:AV}(h1:σ[j]?=some (b,cs))(h2:dP i cs o=some v)(go:K v):eO i σ b o K:=.mk j cs v h1 h2 go
theorem cU{i:TI}{σ:Hp}{b o:Nat}{v:AV}{K:Hp→Prop}(j:Nat){cs cs':List AV}(h1:σ[j]?=some (b,cs))(h2:kn i cs o v=some cs')(go:K (σ.set j (b,cs'))):HD i σ b o v K:=.mk j cs cs' h1 h2 go
theorem aa{i:TI}{σ:Hp}{b o:Nat}{K:AV→Prop}(j:Nat){cs:List AV}{v:AV}(go:K v)(h1:σ[j]?=some (b,cs):=by exact rfl)(h2:dP i cs o=some v:=by exact rfl):eO i σ b o K:=.mk j cs v h1 h2 go
theorem an{i:TI}{σ:Hp}{b o:Nat}{v:AV}{K:Hp→Prop}(j:Nat){cs cs':List AV}(go:K (σ.set j (b,cs')))(h1:σ[j]?=some (b,cs):=by exact rfl)(h2:kn i cs o v=some cs':=by exact rfl):HD i σ b o v K:=.mk j cs cs' h1 h2 go
theorem aU{p q r s X:Prop}(go:X)(h1:p:=by omega)(h2:q:=by omega)(h3:r:=by omega)(h4:s:=by decide):aH (p∧q∧r∧s) X:=.mk ⟨h1,h2,h3,h4⟩ go
theorem aK{p q r X:Prop}(go:X)(h1:p:=by exact rfl)(h2:q:=by omega)(h3:r:=by omega):aH (p∧q∧r) X:=.mk ⟨h1,h2,h3⟩ go
theorem iJ{p X:Prop}(go:X)(h1:p:=by omega):aH p X:=.mk h1 go
inductive cg{α:Type}(l:List α)(n:Int)(K:α→Prop):Prop where
 |mk (x:α) (h0:0≤n) (h1:l[n.toNat]?=some x) (go:K x)
def sA(Va:List (Nat×Nat))(cs:List AV):List (Nat×AV)→Option (List AV)
 | []=>some cs
 |(i,v)::r=>match Va[i]?,v.cells? with
  |some (off,size),some vs=>match Nat.beq vs.length size,Nat.ble (off+size) cs.length with | true,true=>sA Va (e8 cs off vs) r | _,_=>none
  |_,_=>none
def cz(z:List AV):Nat→List AV
 | 0=>[]
 |n+1=>z++cz z n
section
variable (P:Program) (TT:TypeId→Option TI)
def Dj:List (Nat×TypeId)→Option (List (Nat×Nat))
 | []=>some []
 |(off,t)::r=>match TT t,Dj r with | some i,some ps=>some ((off,i.size)::ps) | _,_=>none
def HV(t:TypeId)(parts:List (Nat×AV)):Option AV:=
 match TT t with
 |some ⟨.aV fs,_,_,z⟩=>match Dj TT fs with | some ps=>(sA ps z parts).map .agg | none=>none
 |some ⟨.arr n e,_,_,z⟩=>match TT e with | some i=>(sA ((List.range n).map fun j=>(j*i.size,i.size)) z parts).map .agg | none=>none
 |_=>none
def qo(i:TI)(a:AV)(σ:Hp)(K:AV→Prop):Prop:=
 match a with
 |.fV cs=>match dP i cs 0 with | some v=>K v | none=>False
 |.ptr b o=>eO i σ b o K
 |_=>False
def oK(b:Bool)(K:AV→Prop):Prop:=Ea b (K (.bool true)) (K (.bool false))
def A7(k:TK)(want:Bool)(x y:AV)(K:AV→Prop):Prop:=
 match k,x,y with
 |.ptr _,.cN,.cN=>K (.bool want)
 |.ptr _,.ptr _ _,.cN=>K (.bool !want)
 |.ptr _,.fV _,.cN=>K (.bool !want)
 |.slice _,.aj,.aj=>K (.bool want)
 |.slice _,.ae _ _ _ _,.aj=>K (.bool !want)
 |.slice _,.gz,.aj=>K (.bool !want)
 |.slice _,.ai _ l,.aj=>aH (0<l.length) (K (.bool !want))
 |.iface,.nilif,.nilif=>K (.bool want)
 |.iface,.iface _ _,.nilif=>K (.bool !want)
 |.func,.iH,.iH=>K (.bool want)
 |.func,.fn _ _ _,.iH=>K (.bool !want)
 |_,_,_=>False
def Ul:Operand→Bool
 |.const _=>true
 |_=>false
def Iz(op:BinOp)(k:IntKind)(a b:Int)(K:AV→Prop):Prop:=
 match op with
 |.add=>K (.int k (k.wrap (a+b)))
 |.sub=>K (.int k (k.wrap (a-b)))
 |.mul=>K (.int k (k.wrap (a*b)))
 |.quo=>aH (b≠0) (K (.int k (k.wrap (a.tdiv b))))
 |.rem=>aH (b≠0) (K (.int k (a.tmod b)))
 |.and | .or | .xor | .andNot=>K (.int k (bits op k a b))
 |.eql=>oK (decide (a=b)) K
 |.neq=>oK (!decide (a=b)) K
 |.lss=>oK (decide (a<b)) K
 |.leq=>oK (decide (a≤b)) K
 |.gtr=>oK (decide (b<a)) K
 |.geq=>oK (decide (b≤a)) K
 |_=>False
def HG(op:BinOp)(k:IntKind)(a b:Int)(K:AV→Prop):Prop:=
 match op with
 |.shl=>aH (0≤b) (K (.int k (k.wrap (a*2 ^ (min b.toNat k.bits)))))
 |.shr=>aH (0≤b) (K (.int k (a.fdiv (2 ^ (min b.toNat k.bits)))))
 |_=>False
def EG(op:BinOp)(t:TypeId)(y0:Operand)(x y:AV)(K:AV→Prop):Prop:=
 match x,y with
 |.int k a,.int k' b=>match op with
  |.shl | .shr=>HG op k a b K
  |_=>match decide (k=k') with | true=>Iz op k a b K | false=>False
 |.bool a,.bool b=>match TT t with
  |some ⟨.bool,_,_,_⟩=>(match op with | .eql=>oK (a == b) K | .neq=>oK (!(a == b)) K | _=>False)
  |_=>False
 |.str a,.str b=>match op with | .eql=>oK (a.toList == b.toList) K | .neq=>oK (!(a.toList == b.toList)) K | _=>False
 |x,y=>match Ul y0,TT t with
  |true,some i=>(match op with | .eql=>A7 i.k true x y K | .neq=>A7 i.k false x y K | _=>False)
  |_,_=>False
def afE:AV→AV→Bool
 |.int _ a,.int _ b=>decide (a=b)
 |.bool a,.bool b=>a == b
 |.str a,.str b=>a.toList == b.toList
 |_,_=>false
def tT(xs ys:List AV):List Bool:=List.zipWith afE xs ys
def fH(l:List Bool):Bool:=l.all id
def IJ(TT:TypeId→Option TI)(rec:TypeId→AV→AV→Option (List Bool))(xs ys:List AV):List Field→Option (List Bool)
 | []=>some []
 | f :: fs => match f.name == "_", TT f.type with
  |false,some i=>match dP i xs f.offset,dP i ys f.offset with
   |some a,some b=>match rec f.type a b,IJ TT rec xs ys fs with | some l,some l'=>some (l++l') | _,_=>none
   |_,_=>none
  |_,_=>none
def II(TT:TypeId→Option TI)(rec:TypeId→AV→AV→Option (List Bool))(e:TypeId)(c:Nat)(xs ys:List AV):List Nat→Option (List Bool)
 | []=>some []
 |k::ks=>match TT e with
  |some i=>match dP i xs (k*c),dP i ys (k*c) with
   |some a,some b=>match rec e a b,II TT rec e c xs ys ks with | some l,some l'=>some (l++l') | _,_=>none
   |_,_=>none
  |none=>none
def Af(P:Program)(TT:TypeId→Option TI):Nat→TypeId→AV→AV→Option (List Bool)
 | 0,_,_,_=>none
 |d+1,t,x,y=>match P.underlying t,x,y with
  |some .bool,.bool a,.bool b=>some [a == b]
  |some (.int _),.int k a,.int k' b=>(match decide (k=k') with | true=>some [decide (a=b)] | false=>none)
  |some .string,.str a,.str b=>some [a.toList == b.toList]
  |some (.struct fs),.agg xs,.agg ys=>(match P.stoodInHeld t with | true=>none | false=>IJ TT (Af P TT d) xs ys fs.toList)
  |some (.array n e),.agg xs,.agg ys=>(match TT e with | some _=>II TT (Af P TT d) e (P.cellsOf e) xs ys (List.range n) | none=>none)
  |_,_,_=>none
inductive EqAt(P:Program)(TT:TypeId→Option TI)(t:TypeId)(xs ys:List AV)(K:Bool→Prop):Prop where
 |mk (h1:P.eqGuardType P.depth t=false) (h2:Af P TT 8 t (.agg xs) (.agg ys)=some (tT xs ys)) (go:K (fH (tT xs ys))):EqAt P TT t xs ys K
def hG(n:Int):Prop:=n.natAbs<9007199254740992
def NY(op:BinOp)(a b c d:Int)(K:AV→Prop):Prop:=
 match op with
 |.add=>aH (hG (a+c)∧hG (b+d)) (K (.fR (a+c) (b+d)))
 |.sub=>aH (hG (a-c)∧hG (b-d)) (K (.fR (a-c) (b-d)))
 |.mul=>aH ((hG (a*c)∧hG (b*d)∧hG (a*c-b*d))∧hG (a*d)∧hG (b*c)∧hG (a*d+b*c)) (K (.fR (a*c-b*d) (a*d+b*c)))
 |_=>False
def D8(x y:AV)(K:AV→Prop):Prop:=match x,y with | .gk a,.gk b=>K (.fR a b) | _,_=>False
def DP(x:AV)(K:AV→Prop):Prop:=match x with | .fR a _=>K (.gk a) | _=>False
def DV(x:AV)(K:AV→Prop):Prop:=match x with | .fR _ b=>K (.gk b) | _=>False
def EH(P:Program)(TT:TypeId→Option TI)(op:BinOp)(t:TypeId)(y0:Operand)(x y:AV)(K:AV→Prop):Prop:=
 match x,y with
 |.agg xs,.agg ys=>match op with
  |.eql=>EqAt P TT t xs ys fun b=>oK b K
  |.neq=>EqAt P TT t xs ys fun b=>oK (!b) K
  |_=>False
 |.fR a b,.fR c d=>NY op a b c d K
 |x,y=>EG TT op t y0 x y K
def EN(op:UnOp)(x:AV)(K:AV→Prop):Prop:=
 match op,x with
 |.not,.bool b=>K (.bool !b)
 |.neg,.int k n=>K (.int k (k.wrap (0-n)))
 |.xor,.int k n=>K (.int k (bits .xor k (if k.signed then -1 else k.max) n))
 |.neg,.gk n=>K (.gk (-n))
 |_,_=>False
def D9(s d:TypeId)(x:AV)(K:AV→Prop):Prop:=
 match TT s,TT d,x with
 |some _,some ⟨.int k,_,_,_⟩,.int _ n=>K (.int k (k.wrap n))
 |some _,some ⟨.gk,_,_,_⟩,.int _ n=>aH (hG n) (K (.gk n))
 |some _,some ⟨.int k,_,_,_⟩,.gk n=>aH (k.min≤n∧n≤k.max) (K (.int k n))
 |_,_,_=>False
def tR:Option AV→Option Int
 |none=>some 0
 |some (.int _ n)=>some n
 |_=>none
def Be(len:Nat):Option AV→Option Int
 |none=>some len
 |some (.int _ n)=>some n
 |_=>none
def AU(t:TypeId)(x:AV)(lo hi mx:Option AV)(K:AV→Prop):Prop:=
 match TT t,mx with
 |some ⟨.slice e,_,_,_⟩,none=>match TT e,x with
  |some i,.ae b off len es=>match tR lo,Be len hi with
   |some l,some h=>aH (0≤l∧l≤h∧h≤len∧i.size=es) (K (.ae b (off+l.toNat*es) (h.toNat-l.toNat) es))
   |_,_=>False
  |some i,.ai s xs=>match tR lo,Be xs.length hi with
   |some l,some h=>aH (0≤l∧l≤h∧h≤xs.length∧i.size=s.size) (K (.ai s ((xs.drop l.toNat).take (h.toNat-l.toNat))))
   |_,_=>False
  |some _,.aj=>match tR lo,Be 0 hi with
   |some l,some h=>aH (0≤l∧l≤h∧h≤(0:Nat)) (K .aj)
   |_,_=>False
  |_,_=>False
 |some ⟨.slice e,_,_,_⟩,some (.int _ m)=>match TT e,x,hi with
  |some i,.ae b off len es,some (.int _ h)=>match tR lo with
   |some l=>aH (0≤l∧l≤h∧h≤m∧m≤len∧i.size=es) (K (.ae b (off+l.toNat*es) (h.toNat-l.toNat) es))
   |_=>False
  |_,_,_=>False
 |_,_=>False
def CC(t:TypeId)(x ix:AV)(K:AV→Prop):Prop:=
 match TT t,ix with
 |some ⟨.slice e,_,_,_⟩,.int _ n=>match TT e,x with
  |some i,.ai s l=>aH (i.size=s.size) (cg l n fun d=>K (.fV (s.cells d)))
  |some i,.ae b off len es=>aH (i.size=es∧0≤n∧n<len) (K (.ptr b (off+n.toNat*es)))
  |_,_=>False
 |some ⟨.arr m e,_,_,_⟩,.int _ n=>match TT e,x with
  |some i,.ptr b o=>aH (0≤n∧n<m) (K (.ptr b (o+n.toNat*i.size)))
  |some i,.fV cs=>aH (0≤n∧n<m) (K (.fV (cs.drop (n.toNat*i.size))))
  |_,_=>False
 |_,_=>False
def getM:List (Int×Int)→Int→Option Int
 | [],_=>none
 |p::l,n=>if p.1=n then some p.2 else getM l n
def rH:List (Int×Int)→Int→Int→List (Int×Int)
 | [],n,x=>[(n,x)]
 |p::l,n,x=>if p.1=n then (n,x)::l else p::rH l n x
inductive Iq(σ:Hp)(m:AV)(K:Nat→Nat→List (Int×Int)→Prop):Prop where
 |mk (j b:Nat) (l:List (Int×Int)) (hm:m=.nz b) (h1:σ[j]?=some (b,[.oE l])) (go:K j b l):Iq σ m K
def Bv(t:TypeId):Option Int:=match TT t with
 |some ⟨.map k e,_,_,_⟩=>(match TT k,TT e with | some ⟨.int .i64,_,_,_⟩,some ⟨.int .i64,_,_,[.int .i64 z]⟩=>some z | _,_=>none)
 |_=>none
def Dq(t:TypeId)(m k:AV)(c:Bool)(σ:Hp)(K:AV→Prop):Prop:=
 match Bv TT t,k with
 |some z,.int .i64 n=>Iq σ m fun _ _ l=>(match c with | true=>K (.tup [.int .i64 ((getM l n).getD z),.bool (getM l n).isSome]) | false=>K (.int .i64 ((getM l n).getD z)))
 |_,_=>False
def CF(s:TypeId)(x:AV)(f:Nat)(K:AV→Prop):Prop:=
 match TT s with
 |some ⟨.aV fs,_,_,_⟩=>match fs[f]? with
  |some (off,t)=>match TT t with
   |some i=>match Nat.blt 0 i.size,x with
    |true,.ptr b o=>K (.ptr b (o+off))
    |true,.fV cs=>K (.fV (cs.drop off))
    |_,_=>False
   |none=>False
  |none=>False
 |_=>False
def DH(s:TypeId)(x:AV)(f:Nat)(K:AV→Prop):Prop:=
 match TT s,x with
 |some ⟨.aV fs,_,_,_⟩,.agg cs=>match fs[f]? with
  |some (off,t)=>match TT t with | some i=>(match dP i cs off with | some v=>K v | none=>False) | none=>False
  |none=>False
 |_,_=>False
def Er(k:TK)(x:AV)(K:AV→Prop):Prop:=
 match k,x with
 |.slice _,.ai _ l=>K (.int .i64 l.length)
 |.slice _,.ae _ _ len _=>K (.int .i64 len)
 |.slice _,.aj=>K (.int .i64 0)
 |.slice _,.kv=>K (.int .i64 0)
 |.slice _,.gz=>K (.int .i64 0)
 |_,_=>False
def EF(k:TK)(x:AV)(K:AV→Prop):Prop:=
 match k,x with
 |.slice _,.aj=>K (.int .i64 0)
 |.slice _,.kv=>K (.int .i64 0)
 |_,_=>False
def Em(xs:List AV)(K:AV→Prop):Prop:=
 match xs with
 | [.int k a,.int k' b]=>match decide (k=k') with | true=>K (.int k (if b<a then b else a)) | false=>False
 |_=>False
def En(xs:List AV)(K:AV→Prop):Prop:=
 match xs with
 | [.int k a,.int k' b]=>match decide (k=k') with | true=>K (.int k (if a<b then b else a)) | false=>False
 |_=>False
def AheadOk(t:TypeId)(m:String):Prop:=∀(a:Addr) (w:World),(nilAhead (P.types.size+Made.depth) t (.pointer (some a)) m).run P w=.ok (some false) w
inductive fj(t:TypeId)(m:String)(X:Prop):Prop where
 |mk (h:AheadOk P t m) (go:X):fj t m X
def fI(op:Op)(ρ:Operand→AV)(σ:Hp)(K:AV→Prop):Prop:=
 match op with
 |.move x | .assign x=>strict (ρ x) K
 |.pick c a b=>match ρ c with | .bool x=>(match x with | true=>strict (ρ a) K | false=>strict (ρ b) K) | _=>False
 |.build t parts=>match HV TT t (parts.toList.map fun p=>(p.1,ρ p.2)) with | some v=>K v | none=>False
 |.load t a=>match TT t with | some i=>qo i (ρ a) σ K | none=>False
 |.nilCheck x=>match ρ x with | .ptr b o=>K (.ptr b o) | .fV cs=>K (.fV cs) | .fn (.func f) a c=>K (.fn (.func f) a c) | .fn (.method m) [.iface t (.ptr b o)] c=>fj P t m (K (.fn (.method m) [.iface t (.ptr b o)] c)) | .iface t v=>K (.iface t v) | _=>False
 |.binOp op t x y _=>EH P TT op t y (bJ (ρ x)) (bJ (ρ y)) K
 |.unOp op _ x=>EN op (ρ x) K
 |.convert s d x=>D9 TT s d (ρ x) K
 |.makeInterface t x=>match TT t with | some ⟨.iface,_,_,_⟩=>False | some _=>K (.iface t (ρ x)) | none=>False
 |.makeFunc f first cap=>K (.fn f (first.toList.map ρ) (cap.toList.map ρ))
 |.slice t x lo hi mx=>AU TT t (bJ (ρ x)) (lo.map fun x=>bJ (ρ x)) (hi.map fun x=>bJ (ρ x)) (mx.map fun x=>bJ (ρ x)) K
 |.fieldAddr s x f=>CF TT s (ρ x) f K
 |.field s x f=>DH TT s (ρ x) f K
 |.indexAddr t x ix=>CC TT t (bJ (ρ x)) (bJ (ρ ix)) K
 |.typeAssert x _ t ok=>match ok,TT t,ρ x with
  |true,some ⟨.ptr _,_,_,[.cN]⟩,.iface t' v=>(match Nat.beq t' t with | true=>K (.tup [v,.bool true]) | false=>K (.tup [.cN,.bool false]))
  |true,some ⟨.ptr _,_,_,[.cN]⟩,.nilif=>K (.tup [.cN,.bool false])
  |_,_,_=>False
 |.lookup t m k c=>Dq TT t (bJ (ρ m)) (bJ (ρ k)) c σ K
 |.extract x i=>match ρ x with | .tup vs=>(match vs[i]? with | some v=>K v | none=>False) | _=>False
 |.call ⟨.builtin .len,args,cm⟩=>match args.toList,cm.toList with | [x],[t]=>(match TT t with | some i=>Er i.k (bJ (ρ x)) K | none=>False) | _,_=>False
 |.call ⟨.builtin .min,args,_⟩=>match args.toList with | [x,y]=>Em [ρ x,ρ y] K | _=>False
 |.call ⟨.builtin .max,args,_⟩=>match args.toList with | [x,y]=>En [ρ x,ρ y] K | _=>False
 |.call ⟨.builtin .complex,args,_⟩=>match args.toList with | [x,y]=>D8 (ρ x) (ρ y) K | _=>False
 |.call ⟨.builtin .real,args,_⟩=>match args.toList with | [x]=>DP (ρ x) K | _=>False
 |.call ⟨.builtin .imag,args,_⟩=>match args.toList with | [x]=>DV (ρ x) K | _=>False
 |.call ⟨.builtin .cap,args,cm⟩=>match args.toList,cm.toList with | [x],[t]=>(match TT t with | some i=>EF i.k (bJ (ρ x)) K | none=>False) | _,_=>False
 |_=>False
end
end Go.Proofs.YtnikdflhefijbaaGreat
namespace Go.Proofs.YtnikdflhefijbaaGreat
open Ieee
def ov(d:Datum)(N:Int):Prop:=∃s m p,d=.number s m p∧m*2 ^ p.toNat=N.natAbs*2 ^ (-p).toNat∧(N≠0→s=decide (N<0))
theorem AI(m k:Nat):m <<< k=m*2 ^ k:=Nat.shiftLeft_eq m k
theorem YD(s:Bool)(m u:Nat):(signed s m u).natAbs=m*2 ^ u:=by
 unfold signed
 rw[AI]
 split
 ·rw[Int.natAbs_neg,J1]
 ·rw[J1]
theorem KX{m A:Nat}{p base:Int}(h:m*2 ^ p.toNat=A*2 ^ (-p).toNat)(hb:base≤p):m*2 ^ (p-base).toNat*2 ^ base.toNat=A*2 ^ (-base).toNat:=by
 rcases FF base 0 with h0 | h0
 ·rcases FF p 0 with h1 | h1
  ·have e1:p.toNat=0:=by omega
   have e2:base.toNat=0:=by omega
   rw[e1,s9,eo]at h
   rw[e2,s9,eo,h,wO,← r7]
   congr 2;omega
  ·have e1:(-p).toNat=0:=by omega
   have e2:base.toNat=0:=by omega
   have e3:(p-base).toNat=p.toNat+(-base).toNat:=by omega
   rw[e1,s9,eo]at h
   rw[e2,s9,eo,e3,r7,← wO,h]
 ·have e1:(-p).toNat=0:=by omega
  have e2:(-base).toNat=0:=by omega
  rw[e1,s9,eo]at h
  rw[e2,s9,eo,wO,← r7,← h]
  congr 2;omega
theorem KD{s:Bool}{m u:Nat}{N:Int}{A B:Nat}(h:m*2 ^ u*A=N.natAbs*B)(hs:N≠0→s=decide (N<0))(hA:0<A):signed s m u*(A:Int)=N*(B:Int):=by
 have h':((m*2 ^ u:Nat):Int)*(A:Int)=(N.natAbs:Int)*(B:Int):=by exact_mod_cast h
 by_cases h0:N=0
 ·subst h0
  have hm:m*2 ^ u=0:=by
   have:m*2 ^ u*A=0:=by rw[h];simp
   rcases Nat.mul_eq_zero.1 this with h1 | h1
   ·exact h1
   ·omega
  have:signed s m u=0:=Int.natAbs_eq_zero.1 (by rw[YD,hm])
  rw[this];simp
 ·have hs:=hs h0
  subst hs
  unfold signed
  rw[AI]
  by_cases hn:N<0
  ·rw[aY hn,ag rfl,Int.neg_mul,h',← Int.neg_mul]
   congr 1;omega
  ·rw[b9 hn,ah (by decide),h']
   congr 1;omega
theorem qc(k:Nat):0<2 ^ k:=Cb k
theorem RL{d e:Datum}{N M:Int}(hd:ov d N)(he:ov e M):∃x,d.sum e=some x∧ov x (N+M):=by
 obtain⟨s,m,i,rfl,h1,h2⟩:=hd
 obtain⟨t,n,j,rfl,h3,h4⟩:=he
 refine⟨_,rfl,_,_,_,rfl,?_,?_⟩
 all_goals
  have e1:=KD (KX h1 (Int.min_le_left i j)) h2 (qc _)
  have e2:=KD (KX h3 (Int.min_le_right i j)) h4 (qc _)
  have e3:(signed s m (i-min i j).toNat+signed t n (j-min i j).toNat)*((2 ^ (min i j).toNat:Nat):Int)=(N+M)*((2 ^ (-(min i j)).toNat:Nat):Int):=by rw[Int.add_mul,e1,e2,Int.add_mul]
 ·have:=congrArg Int.natAbs e3
  rw[JM,JM,J1,J1]at this
  exact this
 ·intro aO
  generalize signed s m (i-min i j).toNat+signed t n (j-min i j).toNat=T at e3
  have hp:=qc (min i j).toNat
  have hq:=qc (-(min i j)).toNat
  generalize (2:Nat) ^ (min i j).toNat=P at e3 hp
  generalize (2:Nat) ^ (-(min i j)).toNat=Q at e3 hq
  have hT:T≠0:=by
   intro h0
   rw[h0,Int.zero_mul]at e3
   rcases Int.mul_eq_zero.1 e3.symm with h5 | h5
   ·exact aO h5
   ·omega
  rw[ah hT]
  refine decide_eq_decide.2 ⟨fun h=>?_,fun h=>?_⟩
  ·have:T*(P:Int)<0:=Pg h (by omega)
   rw[e3]at this
   rcases FF (N+M) 0 with h5 | h5
   ·exact h5
   ·have:=Int.mul_nonneg h5 (show (0:Int)≤Q by omega)
    omega
  ·have:(N+M)*(Q:Int)<0:=Pg h (by omega)
   rw[← e3]at this
   rcases FF T 0 with h5 | h5
   ·exact h5
   ·have:=Int.mul_nonneg h5 (show (0:Int)≤P by omega)
    omega
theorem RM{d:Datum}{N:Int}(h:ov d N):ov d.opposite (-N):=by
 obtain⟨s,m,p,rfl,h1,h2⟩:=h
 refine⟨_,_,_,rfl,by rw[Int.natAbs_neg];exact h1,fun aO=>?_⟩
 rw[h2 (by omega)]
 by_cases hn:N<0
 ·rw[aY hn,b9 (by omega)];rfl
 ·rw[b9 hn,aY (by omega)];rfl
theorem YV{d e:Datum}{N M:Int}(hd:ov d N)(he:ov e M):∃x,d.product e=some x∧ov x (N*M):=by
 obtain⟨s,m,i,rfl,h1,h2⟩:=hd
 obtain⟨t,n,j,rfl,h3,h4⟩:=he
 refine⟨_,rfl,_,_,_,rfl,?_,fun aO=>?_⟩
 ·rw[JM]
  have h5:(m*2 ^ i.toNat)*(n*2 ^ j.toNat)=(N.natAbs*2 ^ (-i).toNat)*(M.natAbs*2 ^ (-j).toNat):=by rw[h1,h3]
  obtain⟨c,gU,mU⟩:∃c,i.toNat+j.toNat=(i+j).toNat+c∧(-i).toNat+(-j).toNat=(-(i+j)).toNat+c:=⟨i.toNat+j.toNat-(i+j).toNat,by omega,by omega⟩
  have e1:(m*2 ^ i.toNat)*(n*2 ^ j.toNat)=(m*n*2 ^ (i+j).toNat)*2 ^ c:=by
   rw[wO (m*n),← r7,← gU,r7];ac_rfl
  have e2:(N.natAbs*2 ^ (-i).toNat)*(M.natAbs*2 ^ (-j).toNat)=(N.natAbs*M.natAbs*2 ^ (-(i+j)).toNat)*2 ^ c:=by
   rw[wO (N.natAbs*M.natAbs),← r7,← mU,r7];ac_rfl
  rw[e1,e2]at h5
  exact Nat.eq_of_mul_eq_mul_right (qc c) h5
 ·have hN:N≠0:=fun h=>aO (by rw[h,Int.zero_mul])
  have hM:M≠0:=fun h=>aO (by rw[h,Int.mul_zero])
  rw[h2 hN,h4 hM]
  rcases Int.lt_or_gt_of_ne hN with a | a <;> rcases Int.lt_or_gt_of_ne hM with b | b
  ·have:=Int.mul_pos_of_neg_of_neg a b
   rw[aY a,aY b,b9 (by omega)];rfl
  ·have:=Pg a b
   rw[aY a,b9 (by omega),aY this];rfl
  ·have:=Int.mul_neg_of_pos_of_neg a b
   rw[b9 (by omega),aY b,aY this];rfl
  ·have:=Int.mul_pos a b
   rw[b9 (by omega),b9 (by omega),b9 (by omega)];rfl
theorem Kv{A k:Nat}(h:A≠0):(A*2 ^ k).log2=A.log2+k:=by
 have aO:A*2 ^ k≠0:=Nat.mul_ne_zero h (J6.1 (qc k))
 refine (FM aO).2 ⟨?_,?_⟩
 ·rw[r7];exact iR _ ((FM h).1 rfl).1
 ·rw[show A.log2+k+1=A.log2+1+k by omega,r7]
  exact Nat.mul_lt_mul_of_pos_right ((FM h).1 rfl).2 (qc k)
theorem Ld(gQ:Toward)(neg:Bool){A k:Nat}(h:A≠0):gQ.cut neg (A*2 ^ k) k=A:=by
 have iL:min k ((A*2 ^ k).log2+2)=k:=by rw[Kv h];omega
 unfold Toward.cut
 dsimp only
 rw[iL,AI,FE,Nat.mul_div_cancel _ (qc k),Nat.mul_mod_left]
 cases gQ
 ·have h1:¬2 ^ k<2*0:=by simp
  have h2:((2 ^ k:Nat) == 2*0)=false:=by
   have:=qc k
   simp
  simp[h2]
 ·cases neg <;> rfl
 ·cases neg <;> rfl
 ·rfl
theorem acA(gQ:Toward)(neg:Bool)(k:Nat):gQ.cut neg 0 k=0:=by
 unfold Toward.cut
 dsimp only
 have iL:1 <<< min k ((0:Nat).log2+2)≠0:=by rw[AI,FE];exact J6.1 (qc _)
 generalize (1:Nat) <<< min k ((0:Nat).log2+2)=g at iL
 rw[Nat.zero_div,Nat.zero_mod]
 cases gQ
 ·have h2:(g == 2*0)=false:=by simpa using iL
  simp[h2]
 ·cases neg <;> rfl
 ·cases neg <;> rfl
 ·rfl
theorem Yc{d:Datum}{N:Int}(h:ov d N):d.toInt .zero=some N:=by
 obtain⟨s,m,p,rfl,h1,h2⟩:=h
 have e:Toward.zero.cut s (m <<< p.toNat) (-p).toNat=N.natAbs:=by
  rw[AI,h1]
  by_cases h0:N=0
  ·subst h0;rw[JP,qR];exact acA _ _ _
  ·exact Ld _ _ (by omega)
 show some (signed s (Toward.zero.cut s (m <<< p.toNat) (-p).toNat) 0)=some N
 rw[e]
 congr 1
 have:=KD (s:=s) (m:=N.natAbs) (u:=0) (N:=N) (A:=1) (B:=1) (by simp) h2 (by decide)
 simpa using this
theorem Zt(s:Bool){rung:Nat}(h:rung<2 ^ 63):(double.word s rung / double.signWeight % 2 == 1)=s∧double.word s rung % double.signWeight=rung:=by
 have hw:double.signWeight=9223372036854775808:=by decide
 have h':rung<9223372036854775808:=h
 unfold Format.word
 rw[hw]
 cases s
 ·rw[ah (by decide)]
  refine⟨?_,by omega⟩
  rw[show rung / 9223372036854775808=0 by omega];rfl
 ·rw[ag rfl]
  refine⟨?_,by omega⟩
  rw[show (9223372036854775808+rung) / 9223372036854775808=1 by omega];rfl
theorem Rv(s:Bool):double.read (double.word s 0)=.number s 0 (-1074):=by
 cases s <;> decide
theorem XY(s:Bool){L kept:Nat}(hL:L≤52)(h1:4503599627370496≤kept)(h2:kept<9007199254740992):double.read (double.word s ((L+1022)*4503599627370496+kept))=.number s kept ((L:Int)-52):=by
 have hb:double.binade=4503599627370496:=by decide
 have hi:double.infRung=9218868437227405312:=by decide
 have hl:double.leastPlace = -1074:=by decide
 obtain⟨e1,e2⟩:=Zt s (rung:=(L+1022)*4503599627370496+kept) (by show _<9223372036854775808;omega)
 unfold Format.read
 dsimp only
 rw[e1,e2,hb,hi,hl,ah (by omega),ag (by omega)]
 congr 1
 ·omega
 ·have:((L+1022)*4503599627370496+kept) / 4503599627370496=L+1023:=by omega
  rw[this];omega
theorem Yb{d:Datum}{N:Int}(h:ov d N)(hN:N.natAbs<9007199254740992):ov (double.read (double.write d)) N:=by
 obtain⟨s,m,p,rfl,h1,h2⟩:=h
 have hb:double.binade=4503599627370496:=by decide
 have hi:double.infRung=9218868437227405312:=by decide
 have hl:double.leastPlace = -1074:=by decide
 show ov (double.read (double.nearest s m p)) N
 by_cases h0:N=0
 ·subst h0
  have hm:m=0:=by
   rw[JP,qR]at h1
   rcases Nat.mul_eq_zero.1 h1 with h | h
   ·exact h
   ·exact absurd h (J6.1 (qc _))
  subst hm
  have:double.nearest s 0 p=double.word s 0:=rfl
  rw[this,Rv]
  exact⟨s,0,-1074,rfl,by rw[qR,JP,qR],fun h=>absurd rfl h⟩
 ·obtain⟨A,hA⟩:∃A,A=N.natAbs:=⟨_,rfl⟩
  rw[← hA]at h1 hN
  have qQ:A≠0:=by omega
  have uC:m≠0:=by
   intro h
   subst h
   rw[qR]at h1
   rcases Nat.mul_eq_zero.1 h1.symm with h | h
   ·exact qQ h
   ·exact absurd h (J6.1 (qc _))
  have ahO:(p:Int)+m.log2=A.log2:=by
   have e:=congrArg Nat.log2 h1
   rw[Kv uC,Kv qQ]at e
   omega
  obtain⟨L,hL⟩:∃L,L=A.log2:=⟨_,rfl⟩
  rw[← hL]at ahO
  have FA:=((FM qQ).1 hL.symm).1
  have hA2:=((FM qQ).1 hL.symm).2
  have ahZ:L≤52:=by
   refine Nat.le_of_not_lt fun h=>?_
   have:2 ^ 53≤2 ^ L:=uR (by decide) h
   have:(2:Nat) ^ 53=9007199254740992:=by decide
   omega
  obtain⟨K,hK⟩:∃K,K=A*2 ^ (52-L):=⟨_,rfl⟩
  have yw:4503599627370496≤K:=by
   have:2 ^ L*2 ^ (52-L)≤K:=by rw[hK];exact iR _ FA
   rw[← r7,show L+(52-L)=52 by omega]at this
   exact this
  have uK:K<9007199254740992:=by
   have:K<2 ^ (L+1)*2 ^ (52-L):=by rw[hK];exact Nat.mul_lt_mul_of_pos_right hA2 (qc _)
   rw[← r7,show L+1+(52-L)=53 by omega]at this
   exact this
  have Fx:K≠0:=by omega
  have Nf:max (p+(m.log2:Int)-52) (-1074)=(L:Int)-52:=by omega
  have kr:Toward.even.cut s (m <<< (p-((L:Int)-52)).toNat) (((L:Int)-52)-p).toNat=K:=by
   rw[AI]
   rcases FF p ((L:Int)-52) with h | h
   ·have e1:(p-((L:Int)-52)).toNat=0:=by omega
    have e2:p.toNat=0:=by omega
    rw[e2,s9,eo]at h1
    rw[e1,s9,eo,h1]
    have e3:(-p).toNat=(52-L)+(((L:Int)-52)-p).toNat:=by omega
    rw[e3,r7,← wO,← hK]
    exact Ld _ _ Fx
   ·have e1:(((L:Int)-52)-p).toNat=0:=by omega
    have e2:=KX h1 h
    rw[show ((L:Int)-52).toNat=0 by omega,s9,eo,show (-((L:Int)-52)).toNat=52-L by omega,← hK]at e2
    rw[e1,e2]
    have:=Ld .even s (A:=K) (k:=0) Fx
    rw[s9,eo]at this
    exact this
  have hn:double.nearest s m p=double.word s ((L+1022)*4503599627370496+K):=by
   unfold Format.nearest
   rw[ah uC]
   dsimp only
   rw[hl,hb,hi]
   show double.word s (min ((max (p+(m.log2:Int)-52) (-1074) - -1074).toNat*4503599627370496+Toward.even.cut s (m <<< (p-max (p+(m.log2:Int)-52) (-1074)).toNat) (max (p+(m.log2:Int)-52) (-1074)-p).toNat) 9218868437227405312)=_
   rw[Nf,kr,show ((L:Int)-52 - -1074).toNat=L+1022 by omega]
   have iL:(L+1022)*4503599627370496+K≤9218868437227405312:=by omega
   exact congrArg (double.word s) (J9 iL)
  have e:double.read (double.nearest s m p)=.number s K ((L:Int)-52):=(congrArg double.read hn).trans (XY s ahZ yw uK)
  rw[e]
  refine⟨s,K,(L:Int)-52,rfl,?_,h2⟩
  rw[← hA,show ((L:Int)-52).toNat=0 by omega,s9,eo,show (-((L:Int)-52)).toNat=52-L by omega]
  exact hK
structure jv(b:Nat)(N:Int):Prop where
 lt:b<2 ^ 64
 isInt:ov (double.read b) N
theorem aac(N:Int):ov (.number (decide (N<0)) N.natAbs 0) N:=⟨_,_,_,rfl,by simp,fun _=>rfl⟩
theorem GM{d:Datum}{N:Int}(h:ov d N)(hN:N.natAbs<9007199254740992):jv (double.write d) N:=⟨double.write_lt d,Yb h hN⟩
theorem afH{N:Int}(hN:N.natAbs<9007199254740992):jv (Go.FloatKind.nearest .f64 N) N:=GM (aac N) hN
theorem Me{x y:Nat}{N M:Int}(hx:jv x N)(hy:jv y M)(h:(N+M).natAbs<9007199254740992):∃r,floatBits .add .f64 x y=some r∧jv r (N+M):=by
 obtain⟨d,e1,e2⟩:=RL hx.isInt hy.isInt
 exact⟨double.write d,congrArg (Option.map double.write) e1,GM e2 h⟩
theorem Md{x y:Nat}{N M:Int}(hx:jv x N)(hy:jv y M)(h:(N-M).natAbs<9007199254740992):∃r,floatBits .sub .f64 x y=some r∧jv r (N-M):=by
 obtain⟨d,e1,e2⟩:=RL hx.isInt (RM hy.isInt)
 rw[← Int.sub_eq_add_neg]at e2
 exact⟨double.write d,congrArg (Option.map double.write) e1,GM e2 h⟩
theorem Hx{x y:Nat}{N M:Int}(hx:jv x N)(hy:jv y M)(h:(N*M).natAbs<9007199254740992):∃r,floatBits .mul .f64 x y=some r∧jv r (N*M):=by
 obtain⟨d,e1,e2⟩:=YV hx.isInt hy.isInt
 exact⟨double.write d,congrArg (Option.map double.write) e1,GM e2 h⟩
theorem aea{x:Nat}{N:Int}(hx:jv x N)(k:IntKind)(h:k.min≤N∧N≤k.max):floatToIntVal .f64 x k=some N:=by
 unfold floatToIntVal
 have:(FloatKind.f64.decode x).toInt .zero=some N:=Yc hx.isInt
 rw[this]
 exact ag h
theorem LB:jv 0 0:=⟨by decide,⟨false,0,-1074,Rv false,by rw[qR,JP,qR],fun h=>absurd rfl h⟩⟩
theorem To{b:Nat}(h:b<2 ^ 64):b ^^^ 2 ^ 63=if b<2 ^ 63 then b+2 ^ 63 else b-2 ^ 63:=by
 have e:((BitVec.ofNat 64 b) ^^^ (BitVec.ofNat 64 (2 ^ 63))).toNat=b ^^^ 2 ^ 63:=by
  rw[BitVec.toNat_xor,BitVec.toNat_ofNat,BitVec.toNat_ofNat,r9 h,r9 (by decide)]
 by_cases hb:b<2 ^ 63
 ·rw[ag hb]
  have:=Pk hb 1
  rw[eo]at this
  rw[Nat.add_comm,this]
  refine Cj fun i=>?_
  rw[Nat.testBit_xor,JN,Pb]
  by_cases hi:63=i
  ·subst hi
   rw[wX hb];rfl
  ·rw[decide_eq_false hi];simp
 ·rw[ah hb]
  obtain⟨c,rfl⟩:∃c,b=2 ^ 63+c:=⟨b-2 ^ 63,by omega⟩
  have hc:c<2 ^ 63:=by
   have:(2:Nat) ^ 64=2 ^ 63+2 ^ 63:=by decide
   omega
  have:=Pk hc 1
  rw[eo]at this
  rw[FY,this]
  refine Cj fun i=>?_
  rw[Nat.testBit_xor,JN,Pb]
  by_cases hi:63=i
  ·subst hi
   rw[wX hc];rfl
  ·rw[decide_eq_false hi];simp
theorem ae9{x:Nat}{N:Int}(hx:jv x N):jv (Go.Op.negFloat .f64 x) (-N):=by
 have e:Go.Op.negFloat .f64 x=x ^^^ 2 ^ 63:=rfl
 have ab:x<18446744073709551616:=hx.lt
 have hsw:double.signWeight=9223372036854775808:=by decide
 have agN:double.read (x ^^^ 2 ^ 63)=(double.read x).opposite:=by
  rw[To hx.lt]
  have O6:(2:Nat) ^ 63=9223372036854775808:=by decide
  rw[O6]
  unfold Format.read
  dsimp only
  rw[hsw]
  by_cases hb:x<9223372036854775808
  ·rw[ag hb,show (x+9223372036854775808) / 9223372036854775808 % 2=1 by omega,show (x+9223372036854775808) % 9223372036854775808=x by omega,show x / 9223372036854775808 % 2=0 by omega,show x % 9223372036854775808=x by omega]
   repeat' split
   all_goals rfl
  ·rw[ah hb,show (x-9223372036854775808) / 9223372036854775808 % 2=0 by omega,show (x-9223372036854775808) % 9223372036854775808=x-9223372036854775808 by omega,show x / 9223372036854775808 % 2=1 by omega,show x % 9223372036854775808=x-9223372036854775808 by omega]
   repeat' split
   all_goals rfl
 rw[e]
 refine⟨?_,by rw[agN];exact RM hx.isInt⟩
 rw[To hx.lt]
 have O6:(2:Nat) ^ 63=9223372036854775808:=by decide
 have mV:(2:Nat) ^ 64=18446744073709551616:=by decide
 rw[O6,mV]
 split <;> omega
def oc(w:World)(b:Nat):Prop:=∃c T fz,w.heap[b]?=some (.cells c T fz)
def FC(F:Nat→Prop)(w:World)(b:Nat):Prop:=F b∧oc w b
def kP(F:Nat→Prop)(w:World):(s:Sh)→List Value→s.T→Prop
 |.int k,cs,(n:Int)=>cs=[.int k n]
 |.bool,cs,(b:Bool)=>cs=[.bool b]
 |.str,cs,(s:ByteArray)=>cs=[.string s]
 |.slice e,cs,(l:List e.T)=>∃(a:Option Addr) (c:Nat),cs=[.slice a l.length c]∧l.length≤c∧c≤maxLen∧(a=none→c=0)∧
   (l≠[]→∃b o,a=some ⟨b,o,none⟩∧FC F w b∧∀i,(h:i<l.length)→∃cs',cs'.length=e.size∧wh w b (o+i*e.size) cs'∧kP F w e cs' l[i])
 |.nil,cs,_=>cs=[]
 |.field f r,cs,(d:f.T×r.T)=>∃c1 c2,cs=c1++c2∧c1.length=f.size∧kP F w f c1 d.1∧kP F w r c2 d.2
def EK(w:World)(b off len e:Nat)(a:Addr)(cap:Nat):Prop:=
 ∃c T fz,w.heap[b]?=some (.cells c T fz)∧len≤cap∧cap≤maxLen∧((a=⟨b,off,none⟩∧off+cap*e≤c.size)∨(a.block=b∧a.spot=none∧len=0∧cap=0))
inductive ax(F:Nat→Prop)(w:World):AV→Value→Prop where
 |int (k:IntKind) (n:Int):ax F w (.int k n) (.int k n)
 |bool (b:Bool):ax F w (.bool b) (.bool b)
 |str (s:ByteArray):ax F w (.str s) (.string s)
 |ai (e:Sh) (l:List e.T) (v:Value) (h:kP F w (.slice e) [v] l):ax F w (.ai e l) v
 |kv (a:Option Addr):ax F w .kv (.slice a 0 0)
 |gz (a:Addr) (c:Nat) (h:c≤maxLen):ax F w .gz (.slice (some a) 0 c)
 |aj:ax F w .aj (.slice none 0 0)
 |ae (b off len e:Nat) (a:Addr) (cap:Nat) (h:EK w b off len e a cap):ax F w (.ae b off len e) (.slice (some a) len cap)
 |cN:ax F w .cN (.pointer none)
 |ptr (b off:Nat) (h:oc w b):ax F w (.ptr b off) (.pointer (some ⟨b,off,none⟩))
 |fV (cs:List AV) (b o:Nat) (f:Nat→Value) (hF:FC F w b) (h1:∀i x,cs[i]?=some x→w.cell? ⟨b,o+i,none⟩=some (f i)) (hl:∀(i:Nat) (x:AV),cs[i]?=some x→x.leaf=true) (h:∀i x,cs[i]?=some x→ax F w x (f i)):ax F w (.fV cs) (.pointer (some ⟨b,o,none⟩))
 |agg (cs:List AV) (vs:Array Value) (hs:cs.length=vs.size) (hl:∀(i:Nat) (x:AV),cs[i]?=some x→x.leaf=true) (h:∀i x,cs[i]?=some x→ax F w x (vs.getD i undef)):ax F w (.agg cs) (.agg vs)
 |tup (cs:List AV) (vs:Array Value) (hs:cs.length=vs.size) (h:∀i x,cs[i]?=some x→ax F w x (vs.getD i undef)):ax F w (.tup cs) (.tuple vs)
 |iface (t:TypeId) (a:AV) (v:Value) (h:ax F w a v):ax F w (.iface t a) (.iface t v)
 |nilif:ax F w .nilif .nilIface
 |fn (f:Fn) (c1 c2:List AV) (v1 v2:Array Value) (fh:c1.length=v1.size) (gy:c2.length=v2.size) (h1:∀i x,c1[i]?=some x→ax F w x (v1.getD i undef)) (h2:∀i x,c2[i]?=some x→ax F w x (v2.getD i undef)):ax F w (.fn f c1 c2) (.func f v1 v2)
 |iH:ax F w .iH .nilFunc
 |pK:ax F w .pK (.map none)
 |gk (n:Int) (b:Nat) (h:jv b n):ax F w (.gk n) (.float .f64 b)
 |fR (n m:Int) (a b:Nat) (h1:jv a n) (h2:jv b m):ax F w (.fR n m) (.complex .f64 a b)
 |any (v:Value):ax F w .any v
 |via (x:AV) (v:Value) (hl:x.leaf=true) (h:ax F w x v):ax F w (.via x) v
 |nz (b:Nat):ax F w (.nz b) (.map (some b))
 |nJ (b:Nat):ax F w (.nJ b) (.pointer (some ⟨b,0,none⟩))
def jb(F:Nat→Prop)(w:World)(xs:List AV)(vs:Array Value):Prop:=xs.length=vs.size∧∀i x,xs[i]?=some x→ax F w x (vs.getD i undef)
def gg:Nat→List (Int×Int)→List MapEntry
 |_,[]=>[]
 |n,p::l=> { key:=.int .i64 p.1,val:=.int .i64 p.2,born:=n }::gg (n+1) l
def xS:AV→Option Obj
 |.oE l=>some (.map (gg 0 l).toArray l.length)
 |.sD m c s=>some (.mapIter (some m) c s.toArray c)
 |_=>none
def DM(F:Nat→Prop)(w:World)(b:Nat)(cs:List AV):Prop:=
 ∃c T,w.heap[b]?=some (.cells c T (0,0))∧cs.length≤c.size∧∀(i:Nat) (x:AV),cs[i]?=some x→x.leaf=true∧ax F w x (c.getD i undef)
def Holds(F:Nat→Prop)(w:World)(b:Nat)(cs:List AV):Prop:=
 ¬F b∧(DM F w b cs∨(∃x o,cs=[x]∧w.heap[b]?=some o∧xS x=some o)∨∃L t,cs=[.mD L t]∧w.heap[b]?=some (.loop L)∧∀i,ax F w (t i) (L.tmps.getD i undef))
structure aX(F:Nat→Prop)(w:World)(σ:Hp):Prop where
 nodup:(σ.map Prod.fst).Nodup
 holds:∀p∈σ,Holds F w p.1 p.2
 low:∀b,F b→b<w.heap.size
structure bh(F:Nat→Prop)(w:World)(F':Nat→Prop)(w':World):Prop where
 os:w'.os=w.os
 tape:w'.tape=w.tape
 output:w'.output=w.output
 size:w.heap.size≤w'.heap.size
 sub:∀b,F b→F' b
 fix:∀b,F b→w'.heap[b]?=w.heap[b]?
 rows:∀(b:Nat) (c:Array Value) (T:TypeId) (fz:Nat×Nat),w.heap[b]?=some (.cells c T fz)→∃(c':Array Value) (sf:Nat×Nat),w'.heap[b]?=some (.cells c' T sf)∧c'.size=c.size
 drawn:w.drawn≤w'.drawn
def Enters(P:Program)(f:FuncId):Prop:=∀(args:Array Value) (w:World),(callFunc f args).run P w=.ok (.enter f args) w
def ACalls(P:Program)(f:FuncId)(args:List AV)(σ:Hp)(R:AV→Hp→Prop):Prop:=
 Enters P f∧∀F w vs,jb F w args vs→aX F w σ→Calls P f vs w fun e w'=>∃r v σ' F',e=.returned v∧bh F w F' w'∧aX F' w' σ'∧ax F' w' r v∧R r σ'
def pull(i:Nat)(σ:Hp):Hp:=match σ[i]? with | some p=>p::σ.eraseIdx i | none=>σ
def oh:List Nat→Hp→Hp
 | [],σ=>σ
 |i::r,σ=>pull i (oh r σ)
inductive jg:Hp→Hp→Prop where
 |refl (σ:Hp):jg σ σ
 |pull (js:List Nat) {σ σ2:Hp} (h:jg (oh js σ) σ2):jg σ σ2
 |drop (k n:Nat) {σ σ2:Hp} (h:jg (σ.take k++σ.drop (k+n)) σ2):jg σ σ2
 |perm {σ kb σ2:Hp} (hp:kb.Perm σ) (h:jg kb σ2):jg σ σ2
 |ahr (i b':Nat) (cs kJ:List AV) {σ σ2:Hp} (hi:σ[i]?=some (b',cs)) (hl:kJ.length=cs.length) (hk:∀(k:Nat) (x y:AV),cs[k]?=some x→kJ[k]?=some y→x=y∨(x=.aj∧∃e:Sh,y=.ai e [])) (h:jg (σ.set i (b',kJ)) σ2):jg σ σ2
inductive eI(b off len es:Nat)(e:Sh)(l:List e.T):AV→AV→Prop where
 |here:eI b off len es e l (.ae b off len es) (.ai e l)
 |refl (x:AV):eI b off len es e l x x
 |tup (xs ys:List AV) (h:xs.length=ys.length) (hi:∀(i:Nat) (x y:AV),xs[i]?=some x→ys[i]?=some y→eI b off len es e l x y):eI b off len es e l (.tup xs) (.tup ys)
 |agg (xs ys:List AV) (h:xs.length=ys.length) (hl:∀(i:Nat) (y:AV),ys[i]?=some y→y.leaf=true) (hi:∀(i:Nat) (x y:AV),xs[i]?=some x→ys[i]?=some y→eI b off len es e l x y):eI b off len es e l (.agg xs) (.agg ys)
 |nil (e':Sh):eI b off len es e l .aj (.ai e' [])
 |gz (e':Sh):eI b off len es e l .gz (.ai e' [])
 |via {x y:AV} (h:eI b off len es e l x y):eI b off len es e l (.via x) y
inductive CallAt(P:Program)(f:FuncId)(K:AV→Hp→Prop):List AV→Hp→Prop where
 |mk {args:List AV} {σ:Hp} (js:List Nat) (R:AV→Hp→Prop) (call:ACalls P f args (oh js σ) R) (go:∀r σ',R r σ'→K r σ'):CallAt P f K args σ
 |perm {args:List AV} {σ σ2:Hp} (R:AV→Hp→Prop) (hp:σ2.Perm σ) (call:ACalls P f args σ2 R) (go:∀r σ',R r σ'→∃ej,ej.Perm σ'∧K r ej):CallAt P f K args σ
 |cI {args args':List AV} {σ:Hp} (j b off len es:Nat) (cs:List AV) (e:Sh) (l:List e.T) (h1:σ[j]?=some (b,cs)) (h2:(cs.drop off).take (len*es)=l.flatMap e.cells) (h3:l.length=len∧e.size=es∧0<es) (h4:eI b off len es e l (.tup args) (.tup args')) (h:CallAt P f K args' (σ.eraseIdx j)):CallAt P f K args σ
 |ku {args:List AV} {σ:Hp} (j b off len es:Nat) (cs:List AV) (e:Sh) (l:List e.T) (h1:σ[j]?=some (b,cs)) (h2:(cs.drop off).take (len*es)=l.flatMap e.cells) (h3:l.length=len∧e.size=es∧0<es) (i k b':Nat) (cs':List AV) (hi:(σ.eraseIdx j)[i]?=some (b',cs')) (hk:cs'[k]?=some (.ae b off len es)) (h:CallAt P f K args ((σ.eraseIdx j).set i (b',cs'.set k (.ai e l)))):CallAt P f K args σ
inductive tW(P:Program)(f:FuncId)(args:List AV)(σ:Hp)(K:AV→Prop):Prop where
 |mk (js:List Nat) (r:AV) (call:ACalls P f args (oh js σ) (fun r' σ'=>r'=r∧σ'=oh js σ)) (go:K r):tW P f args σ K
 |perm {σ2:Hp} (hp:σ2.Perm σ) (r:AV) (call:ACalls P f args σ2 (fun r' σ'=>r'=r∧σ2.Perm σ')) (go:K r):tW P f args σ K
def H2(P:Program)(l:Nat)(args:List AV)(σ:Hp)(R:AV→Hp→Prop):Prop:=
 ∀F w vs,jb F w args vs→aX F w σ→∃f tmps assign body,(Instr.yield l vs).run P w=.ok (.round l f tmps assign body) w∧
  RoundIn Fence.wide 0 P l f tmps assign body w fun e w'=>∃r v σ' F',e=.returned v∧bh F w F' w'∧aX F' w' σ'∧ax F' w' r v∧R r σ'
inductive xD(P:Program)(l:Nat)(K:AV→Hp→Prop):List AV→Hp→Prop where
 |mk {args:List AV} {σ:Hp} (js:List Nat) (R:AV→Hp→Prop) (call:H2 P l args (oh js σ) R) (go:∀r σ',R r σ'→K r σ'):xD P l K args σ
 |perm {args:List AV} {σ σ2:Hp} (R:AV→Hp→Prop) (hp:σ2.Perm σ) (call:H2 P l args σ2 R) (go:∀r σ',R r σ'→∃ej,ej.Perm σ'∧K r ej):xD P l K args σ
section
variable (P:Program) (TT:TypeId→Option TI)
def Meth(t:TypeId)(m:String)(g:FuncId):Prop:=
 ∀(a:Addr) (w:World),(method (P.types.size+Made.depth) t (.pointer (some a)) m).run P w=.ok (g,.pointer (some a)) w
inductive InvAt(t:TypeId)(m:String)(K:FuncId→Prop):Prop where
 |mk (g:FuncId) (h:Meth P t m g) (go:K g):InvAt t m K
def qg(c:Call)(ρ:Operand→AV)(K:FuncId→List AV→Prop)(KY:Nat→List AV→Prop):Prop:=
 match c.callee with
 |.value f=>match ρ f with
  |.fn (.func g) first cap=>K g (first++(c.args.toList.map fun x=>bJ (ρ x))++cap)
  |.fn (.yield l) [] []=>KY l (c.args.toList.map fun x=>bJ (ρ x))
  |_=>False
 |.invoke r m=>match ρ r with
  |.iface t (.ptr b o)=>InvAt P t m fun g=>K g (.ptr b o::c.args.toList.map fun x=>bJ (ρ x))
  |.iface t (.fV cs)=>InvAt P t m fun g=>K g (.fV cs::c.args.toList.map fun x=>bJ (ρ x))
  |_=>False
 |.builtin _=>False
inductive j4(σ:Hp)(es:Nat):AV→Nat→List AV→Prop where
 |aj:j4 σ es .aj 0 []
 |kv:j4 σ es .kv 0 []
 |gz:j4 σ es .gz 0 []
 |ai (s:Sh) (l:List s.T) (h:s.size=es):j4 σ es (.ai s l) l.length (l.flatMap s.cells)
 |ae (j b off len:Nat) (cs:List AV) (h1:σ[j]?=some (b,cs)) (h2:off+len*es≤cs.length):j4 σ es (.ae b off len es) len ((cs.drop off).take (len*es))
inductive HE(i:TI)(σ:Hp)(s x:AV)(K:AV→Hp→Prop):Prop where
 |fresh (n:Nat) (new:List AV) (hs:s=.aj∨s=.kv) (hx:j4 σ i.size x n new) (hn:n≤1048576) (hb:i.bytes≤1024) (h0:0<i.size) (go:n≠0→∀b,K (.ae b 0 n i.size) ((b,new)::σ)) (same:n=0→K s σ)
 |more (j b len n:Nat) (cs new:List AV) (hs:s=.ae b 0 len i.size) (h1:σ[j]?=some (b,cs)) (h2:len*i.size≤cs.length) (hx:j4 σ i.size x n new) (hn:len+n≤1048576) (hb:i.bytes≤1024) (h0:0<i.size)
   (go:∀b',K (.ae b' 0 (len+n) i.size) ((b',cs.take (len*i.size)++new)::σ.eraseIdx j)):HE i σ s x K
 |A8 (j b off len n:Nat) (cs new:List AV) (hs:s=.ae b off len i.size) (h1:σ[j]?=some (b,cs)) (h2:off+len*i.size≤cs.length) (hx:j4 σ i.size x n new) (hn:len+n≤1048576) (hb:i.bytes≤1024) (h0:0<i.size)
   (xZ:K (.ae b off (len+n) i.size) ((b,cs.take (off+len*i.size)++new)::σ.eraseIdx j))
   (go:∀b',K (.ae b' 0 (len+n) i.size) ((b',(cs.drop off).take (len*i.size)++new)::σ.eraseIdx j)):HE i σ s x K
inductive AppendAt(i:TI)(σ:Hp)(s x:AV)(K:AV→Hp→Prop):Prop where
 |fresh (n:Nat) (new:List AV) (hs:s=.aj∨s=.kv) (hx:j4 σ i.size x n new) (hn:n≤1048576) (hb:i.bytes≤1024) (h0:0<i.size) (go:n≠0→∀b,K (.ae b 0 n i.size) ((b,new)::σ)) (same:n=0→K s σ)
 |more (j b len n:Nat) (cs new:List AV) (hs:s=.ae b 0 len i.size) (h1:σ[j]?=some (b,cs)) (h2:len*i.size≤cs.length) (hx:j4 σ i.size x n new) (hn:len+n≤1048576) (hb:i.bytes≤1024) (h0:0<i.size)
   (go:∀b',K (.ae b' 0 (len+n) i.size) ((b',cs.take (len*i.size)++new)::σ.eraseIdx j)):AppendAt i σ s x K
 |A8 (j b off len n:Nat) (cs new:List AV) (hs:s=.ae b off len i.size) (h1:σ[j]?=some (b,cs)) (h2:off+len*i.size≤cs.length) (hx:j4 σ i.size x n new) (hn:len+n≤1048576) (hb:i.bytes≤1024) (h0:0<i.size)
   (xZ:K (.ae b off (len+n) i.size) ((b,cs.take (off+len*i.size)++new)::σ.eraseIdx j))
   (go:∀b',K (.ae b' 0 (len+n) i.size) ((b',(cs.drop off).take (len*i.size)++new)::σ.eraseIdx j)):AppendAt i σ s x K
 |perm {σ2:Hp} (K2:AV→Hp→Prop) (hp:σ2.Perm σ) (h:HE i σ2 s x K2) (hk:∀v ej,K2 v ej→∃zF,zF.Perm ej∧(K v zF∨(v.leaf=true∧K (.via v) zF))):AppendAt i σ s x K
inductive DD(i:TI)(σ:Hp)(s x:AV)(K:AV→Hp→Prop):Prop where
 |aj (k:IntKind) (n:Int) (hs:s=.aj) (hx:x=.int k n) (hn:0≤n∧n≤1048576) (hb:i.bytes≤1024) (h0:0<i.size) (go:0<n→∀b,K (.ae b 0 n.toNat i.size) ((b,cz i.zero n.toNat)::σ)) (same:n=0→K .aj σ):DD i σ s x K
inductive Mv(i:TI)(σ:Hp)(s:AV)(K:Hp→Prop):Prop where
 |none (hs:s=.aj∨s=.kv∨s=.gz) (go:K σ)
 |ae (j b off len:Nat) (cs:List AV) (hs:s=.ae b off len i.size) (h1:σ[j]?=some (b,cs)) (h2:off+len*i.size≤cs.length) (go:K (σ.set j (b,e8 cs off (cz i.zero len))))
inductive MY(i:TI)(σ:Hp)(d x:AV)(K:AV→Hp→Prop):Prop where
 |ae (j b off len n:Nat) (cs new:List AV) (hd:d=.ae b off len i.size) (h1:σ[j]?=some (b,cs)) (h2:off+len*i.size≤cs.length) (hx:j4 σ i.size x n new) (hn:n≤len) (go:K (.int .i64 n) (σ.set j (b,e8 cs off new)))
 |none (new:List AV) (hd:d=.aj∨d=.kv∨d=.gz) (hx:j4 σ i.size x 0 new) (go:K (.int .i64 0) σ)
 |part (j b off len:Nat) (cs:List AV) (hd:d=.ae b off len i.size) (h1:σ[j]?=some (b,cs)) (h2:off+len*i.size≤cs.length) (j2 b2 nw n:Nat) (kJ:List AV) (hx:x=.ae b2 nw n i.size) (h3:σ[j2]?=some (b2,kJ)) (h4:nw+n*i.size≤kJ.length) (hn:len≤n) (go:K (.int .i64 len) (σ.set j (b,e8 cs off ((kJ.drop nw).take (len*i.size)))))
def AL(t:TypeId)(m k x:AV)(σ:Hp)(K:AV→Hp→Prop):Prop:=
 match Bv TT t,k,x with
 |some _,.int .i64 n,.int .i64 v=>Iq σ m fun j b l=>K .any (σ.set j (b,[.oE (rH l n v)]))
 |_,_,_=>False
def HJ(t:TypeId)(m:AV)(σ:Hp)(K:AV→Hp→Prop):Prop:=
 match Bv TT t with
 |some _=>Iq σ m fun _ b l=>∀r,K (.nJ r) ((r,[.sD b l.length []])::σ)
 |none=>False
inductive MU(σ:Hp)(x:AV)(K:AV→Hp→Prop):Prop where
 |mk (j j2 r b:Nat) (l:List (Int×Int)) (seen:List Nat) (hx:x=.nJ r) (h1:σ[j]?=some (r,[.sD b l.length seen])) (h2:σ[j2]?=some (b,[.oE l]))
   (stop:(∀i:Nat,i<l.length→i∈seen)→K (.tup [.bool false]) σ)
   (go:∀(i:Nat) (p:Int×Int),l[i]?=some p→i ∉ seen→K (.tup [.bool true,.int .i64 p.1,.int .i64 p.2]) (σ.set j (r,[.sD b l.length (seen++[i])]))):MU σ x K
inductive Mu(σ:Hp)(x:AV)(K:AV→Hp→Prop):Prop where
 |mk (j j2 r b i:Nat) (l:List (Int×Int)) (p:Int×Int) (seen:List Nat) (hx:x=.nJ r) (h1:σ[j]?=some (r,[.sD b l.length (seen++[i])])) (h2:σ[j2]?=some (b,[.oE l])) (h3:l[i]?=some p)
   (go:K (.tup [.int .i64 p.1,.int .i64 p.2]) σ):Mu σ x K
def gR(o:Op)(ρ:Operand→AV)(σ:Hp)(K:AV→Hp→Prop):Prop:=
 match o with
 |.box _ x=>match (ρ x).cells? with | some cs=>∀b,K (.ptr b 0) ((b,cs)::σ) | none=>False
 |.alloc e=>match TT e with | some i=>∀b,K (.ptr b 0) ((b,i.zero)::σ) | none=>False
 |.buildSlice t len parts=>match TT t with
  |some ⟨.slice e,_,_,_⟩=>match TT e with
   |some i=>match sA ((List.range len).map fun j=>(j*i.size,i.size)) (cz i.zero len) (parts.toList.map fun p=>(p.1,ρ p.2)),Nat.ble (len*i.size) 16777216,Nat.ble 1 i.size with
    |some cs,true,true=>∀b,K (.ae b 0 len i.size) ((b,cs)::σ)
    |_,_,_=>False
   |none=>False
  |_=>False
 |.makeSlice t l c=>match TT t,ρ l,ρ c with
  |some ⟨.slice e,_,_,_⟩,.int _ n,.int _ m=>match TT e with
   |some i=>aH (0≤n∧n≤m∧m≤1048576∧i.bytes≤1024) (∀b,K (.ae b 0 n.toNat i.size) ((b,cz i.zero n.toNat)::σ))
   |none=>False
  |_,_,_=>False
 |.store t a x=>match TT t with
  |some i=>match ρ a with | .ptr b o=>HD i σ b o (ρ x) (fun σ'=>K .any σ') | _=>False
  |none=>False
 |.makeMap t none=>match Bv TT t with | some _=>∀b,K (.nz b) ((b,[.oE []])::σ) | none=>False
 |.mapUpdate t m k x=>AL TT t (bJ (ρ m)) (bJ (ρ k)) (bJ (ρ x)) σ K
 |.insert t m k x=>AL TT t (bJ (ρ m)) (bJ (ρ k)) (bJ (ρ x)) σ K
 |.range t x=>HJ TT t (bJ (ρ x)) σ K
 |.next x s=>match s with | false=>MU σ (bJ (ρ x)) K | true=>False
 |.entry x=>Mu σ (bJ (ρ x)) K
 |.call ⟨.builtin .append,args,cm⟩=>match args.toList,cm.toList with
  | [s,x],[t,t']=>match TT t,TT t' with
   |some ⟨.slice e,_,_,_⟩,some ⟨.slice _,_,_,_⟩=>match TT e with | some i=>AppendAt i σ (bJ (ρ s)) (bJ (ρ x)) K | none=>False
   |some ⟨.slice e,_,_,_⟩,some ⟨.int _,_,_,_⟩=>match TT e with | some i=>DD i σ (bJ (ρ s)) (bJ (ρ x)) K | none=>False
   |_,_=>False
  |_,_=>False
 |.call ⟨.builtin .clear,args,cm⟩=>match args.toList,cm.toList with
  | [s],[t]=>match TT t with
   |some ⟨.slice e,_,_,_⟩=>match TT e with | some i=>Mv i σ (bJ (ρ s)) (fun σ'=>K (.tup []) σ') | none=>False
   |_=>False
  |_,_=>False
 |.call ⟨.builtin .copy,args,cm⟩=>match args.toList,cm.toList with
  | [d,x],[t,t']=>match TT t,TT t' with
   |some ⟨.slice e,_,_,_⟩,some ⟨.slice _,_,_,_⟩=>match TT e with | some i=>MY i σ (bJ (ρ d)) (bJ (ρ x)) K | none=>False
   |_,_=>False
  |_,_=>False
 |.call ⟨.builtin b,args,cm⟩=>fI P TT (.call ⟨.builtin b,args,cm⟩) ρ σ (fun v=>K v σ)
 |.call c=>qg P c ρ (fun f xs=>CallAt P f K xs σ) (fun l xs=>xD P l K xs σ)
 |o=>fI P TT o ρ σ (fun v=>K v σ)
def pr(ops:List Oper)(o:Oper)(t:Tm)(A B:Prop):Prop:=
 match o.guard with
 |none=>A
 |some (j,want)=>match (ops[j]?).bind (·.dst) with
  |some d=>match t d with
   |.bool b=>(match want,b with | true,true=>A | true,false=>B | false,true=>B | false,false=>A)
   |.tup []=>B
   |_=>False
  |none=>False
def Wr(ops:List Oper)(l:List Oper):Tm→Hp→(Tm→Hp→Prop)→Prop:=
 List.rec (motive:=fun _=>Tm→Hp→(Tm→Hp→Prop)→Prop) (fun t σ K=>K t σ)
  (fun o _ ih t σ K=>pr ops o t (gR P TT o.op (ev t) σ fun v σ'=>ih (put t o.dst v) σ' K) (ih (put t o.dst (.tup [])) σ K)) l
def wm(o:Op)(ρ:Operand→AV)(σ:Hp)(K:AV→Prop):Prop:=
 match o with
 |.call ⟨.builtin b,args,cm⟩=>fI P TT (.call ⟨.builtin b,args,cm⟩) ρ σ K
 |.call c=>qg P c ρ (fun f xs=>tW P f xs σ K) (fun _ _=>False)
 |o=>fI P TT o ρ σ K
def Iv(ops:List Oper)(l:List Oper):Tm→Hp→(Tm→Prop)→Prop:=
 List.rec (motive:=fun _=>Tm→Hp→(Tm→Prop)→Prop) (fun t _ K=>K t)
  (fun o _ ih t σ K=>pr ops o t (wm P TT o.op (ev t) σ fun v=>ih (put t o.dst v) σ K) (ih (put t o.dst (.tup [])) σ K)) l
def blind:Op→Bool
 |.move _ | .assign _ | .pick .. | .build .. | .nilCheck _ | .binOp .. | .unOp .. | .convert .. | .makeInterface .. | .makeFunc .. | .slice .. | .fieldAddr .. | .field .. | .indexAddr .. | .extract .. | .typeAssert .. => true
 |.call ⟨.builtin .len,_,_⟩ | .call ⟨.builtin .min,_,_⟩ | .call ⟨.builtin .max,_,_⟩=>true
 |_=>false
def iV(ops:List Oper)(au:List Bool):List Nat:=
 (List.range ops.length).filter fun i=> !au.getD i true&&(match ops[i]? with | some o=>o.after.toList.all fun e=> !Region.binds .any e||au.getD e.on false | none=>false)
def Bu(ops:List Oper)(i:Nat)(t:Tm)(σ:Hp)(K:Tm→Hp→Prop):Prop:=
 match ops[i]? with
 |some o=>pr ops o t (gR P TT o.op (ev t) σ fun v σ'=>K (put t o.dst v) σ') (K (put t o.dst (.tup [])) σ)
 |none=>False
def N4(f:Nat→Prop)(l:List Nat):Prop:=
 List.rec (motive:=fun _=>Prop) True (fun i r ih=>match r with | []=>f i | _=>f i∧ih) l
def tJ:Op→Bool
 |.load _ _=>true
 |_=>false
def oI(o:Op):Bool:= !(blind o||tJ o)
def qi(o:Oper)(j:Nat):Bool:=o.after.toList.any fun e=>Region.binds .any e&&Nat.beq e.on j
def ags(ops:List Oper)(au:List Bool)(i:Nat):Bool:=ops.zipIdx.all fun (o,j)=> !oI o.op||au.getD j false||qi o i
def MJ(ops:List Oper)(au:List Bool)(i:Nat):Bool:=
 match ops[i]? with
 |some o=>blind o.op||(tJ o.op&&ags ops au i)
 |none=>false
def vZ(ops:List Oper)(n:Nat):List Bool→Tm→Hp→(Tm→Hp→Prop)→Prop:=
 Nat.rec (motive:=fun _=>List Bool→Tm→Hp→(Tm→Hp→Prop)→Prop) (fun _ _ _ _=>False)
  (fun _ ih au t σ K=>match iV ops au with
   | []=>K t σ
   |i::r=>match (i::r).find? (MJ ops au) with
    |some j=>Bu P TT ops j t σ fun t' σ'=>ih (au.set j true) t' σ' K
    |none=>N4 (fun j=>Bu P TT ops j t σ fun t' σ'=>ih (au.set j true) t' σ' K) (i::r)) n
theorem R8{ops:List Oper}{n:Nat}{au:List Bool}{t:Tm}{σ:Hp}{K:Tm→Hp→Prop}:vZ P TT ops (n+1) au t σ K=(match iV ops au with
   | []=>K t σ
   |i::r=>match (i::r).find? (MJ ops au) with
    |some j=>Bu P TT ops j t σ fun t' σ'=>vZ P TT ops n (au.set j true) t' σ' K
    |none=>N4 (fun j=>Bu P TT ops j t σ fun t' σ'=>vZ P TT ops n (au.set j true) t' σ' K) (i::r)):=rfl
def zd(ops:List Oper)(o:Oper):List Tmp:=
 (o.op.operands.toList.filterMap fun | .tmp t=>some t | _=>none)++(match o.guard with | some (g,_)=>((ops[g]?).bind (·.dst)).toList | none=>[])
def Hl(ops:List Oper):Bool:=
 let z:=ops.zipIdx
 z.all fun (o,i)=>
  (o.after.toList.all fun e=> !Region.binds .any e||Nat.blt e.on i) &&
  (z.all fun (p,j)=>match p.dst with
   |none=>true
   |some d=>(Nat.beq i j||match o.dst with | some d'=> !Nat.beq d d' | none=>true) &&
    (!(zd ops o).any (Nat.beq d)||Nat.beq i j||(Nat.blt j i&&qi o j)||(Nat.blt i j&&qi p i)))
def sm(ops:List Oper):Bool:=
 let z:=ops.zipIdx
 z.all fun (o,i)=>(match o.op with | .select .. => false | _=>true)&&z.all fun (p,j)=>Nat.beq i j||qi o j||qi p i||o.apart ops.toArray p
def dm(g:Tm):List (Nat×AV)→Tm
 | []=>g
 |(i,v)::r=>fun j=>match Nat.beq j i with | true=>v | false=>dm g r j
def agree(t:Tm):List (Nat×AV)→Prop
 | []=>True
 |(i,v)::r=>t i=v∧agree t r
theorem AD{t:Tm}{l:List (Nat×AV)}(h:agree t l):t=dm t l:=by
 induction l with
 |nil=>rfl
 |cons p r ih=>
  obtain⟨i,v⟩:=p
  obtain⟨h1,h2⟩:=h
  funext j
  show t j=(match Nat.beq j i with | true=>v | false=>dm t r j)
  cases hb:Nat.beq j i with
  |true=>rw[jr hb];exact h1
  |false=>exact congrFun (ih h2) j
inductive cS{S:Type}(L:S→List (Nat×AV))(H:S→Hp)(t':Tm)(σ':Hp):Prop where
 |mk (s:S) (h3:agree t' (L s)) (h4:jg σ' (H s)):cS L H t' σ'
def jP(ops:List Oper)(q:Bool)(i:Nat)(t:Tm)(σ:Hp)(K:Tm→Hp→Prop):Prop:=
 match ops[i]? with
 |some o=>match q with
  |true=>pr ops o t (wm P TT o.op (ev t) σ fun v=>K (put t o.dst v) σ) (K (put t o.dst (.tup [])) σ)
  |false=>pr ops o t (gR P TT o.op (ev t) σ fun v σ'=>K (put t o.dst v) σ') (K (put t o.dst (.tup [])) σ)
 |none=>False
def eY(j:Nat)(l:List Nat):Bool:=l.any (Nat.beq j)
def qC(ops:List Oper)(Q:List Nat)(n:Nat):List Bool→Tm→Hp→(Tm→Hp→Prop)→Prop:=
 Nat.rec (motive:=fun _=>List Bool→Tm→Hp→(Tm→Hp→Prop)→Prop) (fun _ _ _ _=>False)
  (fun _ ih au t σ K=>(iV ops au=[]→K t σ)∧∀i∈iV ops au,jP P TT ops (eY i Q) i t σ fun t' σ'=>ih (au.set i true) t' σ' K) n
def NA(o:Oper)(acc:List (List Nat)):List Nat:=o.after.toList.flatMap fun e=>match Region.binds .any e with | true=>e.on::(acc[e.on]?).getD [] | false=>[]
def MZ:List Oper→List (List Nat)→List (List Nat)
 | [],acc=>acc
 |o::os,acc=>MZ os (acc++[(NA o acc).eraseDups])
def vV(ops:List Oper)(Q:List Nat)(k:Nat):Bool:=match ops[k]? with | some o=>oI o.op&&!eY k Q | none=>false
def H9:Op→Bool
 |.alloc _ | .box _ _=>true
 |_=>false
def El(ops:List Oper)(k:Nat):Bool:=match ops[k]? with | some o=>H9 o.op | none=>false
def A2(ops:List Oper)(rows:List (List Nat))(Q:List Nat)(au:List Bool)(j:Nat):Bool:=
 match ops[j]? with
 |some o=>(blind o.op&&!eY j Q)||((tJ o.op||eY j Q)&&(List.range ops.length).all fun k=>au.getD k false||!vV ops Q k||eY j ((rows[k]?).getD [])||(tJ o.op&&!eY j Q&&El ops k))
 |none=>false
inductive qV where
 |stop
 |one (j:Nat) (q:Bool) (s:qV)
 |alt (j:Nat) (s r:qV)
 |WY (j:Nat) (s r:qV)
def lB(ops:List Oper)(rows:List (List Nat))(Q:List Nat):qV→Nat→List Nat→List Bool→Bool
 |.stop,n,nt,au=>match n,nt,iV ops au with | _+1,[],[]=>true | _,_,_=>false
 |.one j q s,n,nt,au=>match n,nt with
  |n+1,[]=>(eY j Q == q)&&eY j (iV ops au)&&(A2 ops rows Q au j||(match iV ops au with | [i]=>Nat.beq i j | _=>false))&&lB ops rows Q s n [] (au.set j true)
  |n,[i]=>(eY j Q == q)&&Nat.beq i j&&lB ops rows Q s n [] (au.set j true)
  |_,_=>false
 |.alt j s r,n,nt,au=>match n,nt with
  |n+1,[]=>(match iV ops au with
   |i::i2::l=>Nat.beq i j&&!eY j Q&&lB ops rows Q s n [] (au.set j true)&&lB ops rows Q r n (i2::l) au
   |_=>false)
  |n,i::i2::l=>Nat.beq i j&&!eY j Q&&lB ops rows Q s n [] (au.set j true)&&lB ops rows Q r n (i2::l) au
  |_,_=>false
 |.WY j s r,n,nt,au=>match n,nt with
  |n+1,[]=>(match iV ops au with
   |i::i2::l=>Nat.beq i j&&eY j Q&&lB ops rows Q s n [] (au.set j true)&&lB ops rows Q r n (i2::l) au
   |_=>false)
  |n,i::i2::l=>Nat.beq i j&&eY j Q&&lB ops rows Q s n [] (au.set j true)&&lB ops rows Q r n (i2::l) au
  |_,_=>false
def vR(ops:List Oper)(s:qV):Tm→Hp→(Tm→Hp→Prop)→Prop:=
 qV.rec (motive:=fun _=>Tm→Hp→(Tm→Hp→Prop)→Prop) (fun t σ K=>K t σ)
  (fun j q _ ih t σ K=>jP P TT ops q j t σ fun t' σ'=>ih t' σ' K)
  (fun j _ _ ih jS t σ K=>jP P TT ops false j t σ (fun t' σ'=>ih t' σ' K)∧jS t σ K)
  (fun j _ _ ih jS t σ K=>jP P TT ops true j t σ (fun t' σ'=>ih t' σ' K)∧jS t σ K) s
def ah2:Op→Bool
 |.call ⟨.builtin _,_,_⟩=>false
 |.call _=>true
 |_=>false
def HK(ops:List Oper)(Q:List Nat)(s:qV):Bool:=
 sm ops&&Q.all (fun j=>match ops[j]? with | some o=>ah2 o.op | none=>false)&&lB ops (MZ ops []) Q s (ops.length+1) [] (List.replicate ops.length false)
inductive gN(ops:List Oper)(K:Tm→Hp→Prop):Tm→Hp→Prop where
 |quiet {t:Tm} {σ:Hp} (h0:Hl ops=true) (h:Iv P TT ops ops t σ fun t'=>K t' σ):gN ops K t σ
 |each {t:Tm} {σ:Hp} (h0:sm ops=true) (h:vZ P TT ops (ops.length+1) (List.replicate ops.length false) t σ K):gN ops K t σ
 |sched {t:Tm} {σ:Hp} (Q:List Nat) (s:qV) (h0:HK ops Q s=true) (h:vR P TT ops s t σ K):gN ops K t σ
 |meet {t:Tm} {σ:Hp} {S:Type} (L:S→List (Nat×AV)) (H:S→Hp) (h0:sm ops=true) (h:vZ P TT ops (ops.length+1) (List.replicate ops.length false) t σ (cS L H)) (go:∀s g,K (dm g (L s)) (H s)):gN ops K t σ
 |M4 {t:Tm} {σ:Hp} {S:Type} (Q:List Nat) (s:qV) (L:S→List (Nat×AV)) (H:S→Hp) (h0:HK ops Q s=true) (h:vR P TT ops s t σ (cS L H)) (go:∀s g,K (dm g (L s)) (H s)):gN ops K t σ
 |cI {t t':Tm} {σ:Hp} (j b off len es:Nat) (cs:List AV) (e:Sh) (l:List e.T) (h1:σ[j]?=some (b,cs)) (h2:(cs.drop off).take (len*es)=l.flatMap e.cells) (h3:l.length=len∧e.size=es∧0<es) (h4:∀i,eI b off len es e l (t i) (t' i)) (h:gN ops K t' (σ.eraseIdx j)):gN ops K t σ
 |dM {t:Tm} {σ σ2:Hp} (h1:jg σ σ2) (h:gN ops K t σ2):gN ops K t σ
inductive Ex where
 |normal | exit (id:Nat) | goto (l:Nat) | ret
def Head{S:Type}(L:S→List (Nat×AV))(H:S→Hp)(p:S→Prop)(μ:S→Nat)(m:Nat)(t:Tm)(σ:Hp):Prop:=∃s g,m=μ s∧p s∧t=dm g (L s)∧σ=H s
inductive ou{S:Type}(L:S→List (Nat×AV))(H:S→Hp)(p:S→Prop)(μ:S→Nat)(s:S):Tm→Hp→Prop where
 |mk {t':Tm} {σ':Hp} (s':S) (h1:μ s'<μ s) (h2:p s') (h3:agree t' (L s')) (h4:jg σ' (H s')):ou L H p μ s t' σ'
 |cI {t' t2:Tm} {σ':Hp} (j b off len es:Nat) (cs:List AV) (e:Sh) (l:List e.T) (h1:σ'[j]?=some (b,cs)) (h2:(cs.drop off).take (len*es)=l.flatMap e.cells) (h3:l.length=len∧e.size=es∧0<es) (h4:∀i,eI b off len es e l (t' i) (t2 i)) (h:ou L H p μ s t2 (σ'.eraseIdx j)):ou L H p μ s t' σ'
 |ku {t':Tm} {σ':Hp} (j b off len es:Nat) (cs:List AV) (e:Sh) (l:List e.T) (h1:σ'[j]?=some (b,cs)) (h2:(cs.drop off).take (len*es)=l.flatMap e.cells) (h3:l.length=len∧e.size=es∧0<es) (i k b':Nat) (cs':List AV) (hi:(σ'.eraseIdx j)[i]?=some (b',cs')) (hk:cs'[k]?=some (.ae b off len es)) (h:ou L H p μ s t' ((σ'.eraseIdx j).set i (b',cs'.set k (.ai e l)))):ou L H p μ s t' σ'
 |dM {t':Tm} {σ' σ2:Hp} (h1:jg σ' σ2) (h:ou L H p μ s t' σ2):ou L H p μ s t' σ'
 |nil {t' t2:Tm} {σ':Hp} (h4:∀i,eI 0 0 0 0 .bool [] (t' i) (t2 i)) (h:ou L H p μ s t2 σ'):ou L H p μ s t' σ'
inductive mH(body:Tm→Hp→(Ex→Tm→Hp→Prop)→Prop)(Q:Ex→Tm→Hp→Prop):Tm→Hp→Prop where
 |mk {t:Tm} {σ:Hp} {S:Type} (L:S→List (Nat×AV)) (H:S→Hp) (p:S→Prop) (μ:S→Nat) (s0:S) (h0:p s0∧agree t (L s0)∧σ=H s0)
   (round:∀s g,p s→body (dm g (L s)) (H s) (fun e t' σ'=>match e with | .normal=>ou L H p μ s t' σ' | e=>Q e t' σ')):mH body Q t σ
 |cI {t t':Tm} {σ:Hp} (j b off len es:Nat) (cs:List AV) (e:Sh) (l:List e.T) (h1:σ[j]?=some (b,cs)) (h2:(cs.drop off).take (len*es)=l.flatMap e.cells) (h3:l.length=len∧e.size=es∧0<es) (h4:∀i,eI b off len es e l (t i) (t' i)) (h:mH body Q t' (σ.eraseIdx j)):mH body Q t σ
 |dM {t:Tm} {σ σ2:Hp} (h1:jg σ σ2) (h:mH body Q t σ2):mH body Q t σ
 |wrap {t:Tm} {σ:Hp} (k:Nat) (v:AV) (h1:t k=v) (h2:v.leaf=true) (h:mH body Q (dm t [(k,.via v)]) σ):mH body Q t σ
 |nil {t t':Tm} {σ:Hp} (h4:∀i,eI 0 0 0 0 .bool [] (t i) (t' i)) (h:mH body Q t' σ):mH body Q t σ
def V8(R:Nat→Tm→Hp→(Ex→Tm→Hp→Prop)→Prop)(k:Nat):Nat→Tm→Hp→(Ex→Tm→Hp→Prop)→Prop:=
 Nat.rec (motive:=fun _=>Nat→Tm→Hp→(Ex→Tm→Hp→Prop)→Prop) (fun _ _ _ _=>False)
  (fun _ ih l t σ Q=>R l t σ fun e t' σ'=>match e with | .goto l'=>ih l' t' σ' Q | e=>Q e t' σ') k
inductive rE{S:Type}(fX:S→Nat)(L:S→List (Nat×AV))(H:S→Hp)(p:S→Prop)(μ:S→Nat)(s:S)(l:Nat):Tm→Hp→Prop where
 |mk {t':Tm} {σ':Hp} (s':S) (h0:l=fX s') (h1:μ s'<μ s) (h2:p s') (h3:agree t' (L s')) (h4:jg σ' (H s')):rE fX L H p μ s l t' σ'
 |cI {t' t2:Tm} {σ':Hp} (j b off len es:Nat) (cs:List AV) (e:Sh) (d:List e.T) (h1:σ'[j]?=some (b,cs)) (h2:(cs.drop off).take (len*es)=d.flatMap e.cells) (h3:d.length=len∧e.size=es∧0<es) (h4:∀i,eI b off len es e d (t' i) (t2 i)) (h:rE fX L H p μ s l t2 (σ'.eraseIdx j)):rE fX L H p μ s l t' σ'
 |ku {t':Tm} {σ':Hp} (j b off len es:Nat) (cs:List AV) (e:Sh) (d:List e.T) (h1:σ'[j]?=some (b,cs)) (h2:(cs.drop off).take (len*es)=d.flatMap e.cells) (h3:d.length=len∧e.size=es∧0<es) (i k b':Nat) (cs':List AV) (hi:(σ'.eraseIdx j)[i]?=some (b',cs')) (hk:cs'[k]?=some (.ae b off len es)) (h:rE fX L H p μ s l t' ((σ'.eraseIdx j).set i (b',cs'.set k (.ai e d)))):rE fX L H p μ s l t' σ'
 |dM {t':Tm} {σ' σ2:Hp} (h1:jg σ' σ2) (h:rE fX L H p μ s l t' σ2):rE fX L H p μ s l t' σ'
 |nil {t' t2:Tm} {σ':Hp} (h4:∀i,eI 0 0 0 0 .bool [] (t' i) (t2 i)) (h:rE fX L H p μ s l t2 σ'):rE fX L H p μ s l t' σ'
inductive rF(R:Nat→Tm→Hp→(Ex→Tm→Hp→Prop)→Prop)(l:Nat)(Q:Ex→Tm→Hp→Prop):Tm→Hp→Prop where
 |fwd {t:Tm} {σ:Hp} (k:Nat) (h:V8 R k l t σ Q):rF R l Q t σ
 |loop {t:Tm} {σ:Hp} {S:Type} (fX:S→Nat) (L:S→List (Nat×AV)) (H:S→Hp) (p:S→Prop) (μ:S→Nat) (s0:S) (h0:l=fX s0∧p s0∧agree t (L s0)∧jg σ (H s0))
   (round:∀s g,p s→R (fX s) (dm g (L s)) (H s) (fun e t' σ'=>match e with | .goto l'=>rE fX L H p μ s l' t' σ' | e=>Q e t' σ')):rF R l Q t σ
 |cI {t t':Tm} {σ:Hp} (j b off len es:Nat) (cs:List AV) (e:Sh) (d:List e.T) (h1:σ[j]?=some (b,cs)) (h2:(cs.drop off).take (len*es)=d.flatMap e.cells) (h3:d.length=len∧e.size=es∧0<es) (h4:∀i,eI b off len es e d (t i) (t' i)) (h:rF R l Q t' (σ.eraseIdx j)):rF R l Q t σ
 |dM {t:Tm} {σ σ2:Hp} (h1:jg σ σ2) (h:rF R l Q t σ2):rF R l Q t σ
 |wrap {t:Tm} {σ:Hp} (k:Nat) (v:AV) (h1:t k=v) (h2:v.leaf=true) (h:rF R l Q (dm t [(k,.via v)]) σ):rF R l Q t σ
def Nr(l:Nat)(rd:AV)(dn:Ex→AV)(R1:Ex→Hp→Prop)(r:AV)(σ':Hp):Prop:=
 (r=.bool true∧∃σ2,σ'=(l,[rd])::σ2∧R1 .normal σ2)∨(r=.bool false∧∃e σ2,e≠.normal∧σ'=(l,[dn e])::σ2∧R1 e σ2)
def agr(l:Nat)(rd:AV)(dn:Ex→AV)(K:Ex→Hp→Prop)(_:AV)(σ':Hp):Prop:=
 (∃σ2,σ'=(l,[rd])::σ2∧K .normal σ2)∨(∃e σ2,e≠.normal∧σ'=(l,[dn e])::σ2∧K e σ2)
inductive A5(P:Program)(gf:FuncId)(cap:List AV)(m:Nat)(B:List AV→Hp→(Ex→Hp→Prop)→Prop)(K:Ex→Hp→Prop):Hp→Prop where
 |mk {σ:Hp} (go:∀(l:Nat) (rd:AV) (dn:Ex→AV),(∀(xs:List AV) (kb:Hp) (R1:Ex→Hp→Prop),xs.length=m→B xs kb R1→H2 P l xs ((l,[rd])::kb) (Nr l rd dn R1))→
   ACalls P gf (.fn (.yield l) [] []::cap) ((l,[rd])::σ) (agr l rd dn K)):A5 P gf cap m B K σ
 |dM {σ σ2:Hp} (h1:jg σ σ2) (h:A5 P gf cap m B K σ2):A5 P gf cap m B K σ
def BK:List Tmp→List AV→Tm→Tm
 |p::ps,x::xs,t=>BK ps xs (put t (some p) x)
 |_,_,t=>t
def codeF(rec:Code→Tm→Hp→(Ex→Tm→Hp→Prop)→Prop)(c:Code)(t:Tm)(σ:Hp)(Q:Ex→Tm→Hp→Prop):Prop:=
 match c with
 |.skip=>Q .normal t σ
 |.label _=>Q .normal t σ
 |.exit id=>Q (.exit id) t σ
 |.goto l=>Q (.goto l) t σ
 |.ret=>Q .ret t σ
 |.region _ ops draw=>match draw with
  |false=>Wr P TT ops.toList ops.toList t σ (Q .normal)
  |true=>gN P TT ops.toList (Q .normal) t σ
 |.seq a b=>rec a t σ fun e t' σ'=>match e with | .normal=>rec b t' σ' Q | e=>Q e t' σ'
 |.cond c a b=>match ev t c with | .bool x=>(match x with | true=>rec a t σ Q | false=>rec b t σ Q) | _=>False
 |.block id c=>rec c t σ fun e t' σ'=>match e with
  |.exit i=>(match Nat.beq i id with | true=>Q .normal t' σ' | false=>Q (.exit i) t' σ')
  |e=>Q e t' σ'
 |.loop c=>mH (fun t σ Q=>rec c t σ Q) Q t σ
 |.scope c=>rec c t σ fun e t' σ'=>match e with
  |.goto l=>rF (fun l t σ Q=>match findLabel c l with | some r=>rec r t σ Q | none=>False) l Q t' σ'
  |e=>Q e t' σ'
 |.rangeFunc g ps assign body=>match ev t g with
  |.fn (.func gf) [] cap=>A5 P gf cap ps.size (fun xs kb R1=>rec assign (BK ps.toList xs t) kb fun e t' σ'=>match e with | .normal=>rec body t' σ' (fun e _ kq=>R1 e kq) | _=>False) (fun e σ'=>Q e t σ') σ
  |_=>False
 |_=>False
def mG(n:Nat):Code→Tm→Hp→(Ex→Tm→Hp→Prop)→Prop:=
 Nat.rec (motive:=fun _=>Code→Tm→Hp→(Ex→Tm→Hp→Prop)→Prop) (fun _ _ _ _=>False) (fun _ ih=>codeF P TT ih) n
end
def ub:List (Int×Int)→Int→Nat
 | [],_=>0
 |p::l,n=>if p.1=n then 0 else ub l n+1
theorem Lz:∀(l:List (Int×Int)) (m i:Nat),(gg m l)[i]?=(l[i]?).map fun p=> { key:=.int .i64 p.1,val:=.int .i64 p.2,born:=m+i }
 | [],_,_=>by simp[gg]
 |p::l,m,0=>by simp[gg]
 |p::l,m,i+1=>by
  simp only[gg,List.getElem?_cons_succ]
  rw[Lz l (m+1) i]
  simp[Nat.add_assoc,Nat.add_comm 1 i]
theorem Kw(n:Int):∀(l:List (Int×Int)) (m i:Nat),Instr.findNow (.int .i64) (.int .i64 n) (gg m l) i=some ((getM l n).map fun v=>(i+ub l n,.int .i64 v))
 | [],_,_=>rfl
 |p::l,m,i=>by
  have ih:=Kw n l (m+1) (i+1)
  unfold gg Instr.findNow
  simp only[Instr.sameNow,if_true]
  by_cases h:p.1=n
  ·rw[show (n == p.1)=true by simp[h]]
   simp[getM,ub,h]
  ·rw[show (n == p.1)=false by simp;exact fun e=>h e.symm]
   simp only[ih,getM,ub,ah h]
   congr 1
   cases getM l n with
   |none=>rfl
   |some v=>simp[Nat.add_assoc,Nat.add_comm 1]
theorem pos_at:∀(l:List (Int×Int)) (n v:Int),getM l n=some v→l[ub l n]?=some (n,v)∧∀x,rH l n x=l.set (ub l n) (n,x)
 | [],_,_,h=>by cases h
 |p::l,n,v,h=>by
  by_cases hp:p.1=n
  ·simp only[getM,ag hp,Option.some.injEq]at h
   simp only[ub,ag hp,rH]
   refine⟨?_,fun x=>rfl⟩
   rw[← hp,← h];rfl
  ·simp only[getM,ah hp]at h
   obtain⟨h1,h2⟩:=pos_at l n v h
   simp only[ub,ah hp,rH]
   exact⟨h1,fun x=>by rw[h2];rfl⟩
theorem Uc:∀(l:List (Int×Int)) (n x:Int),getM l n=none→rH l n x=l++[(n,x)]
 | [],_,_,_=>rfl
 |p::l,n,x,h=>by
  by_cases hp:p.1=n
  ·simp only[getM,ag hp]at h;cases h
  ·simp only[getM,ah hp]at h
   simp only[rH,ah hp,Uc l n x h];rfl
theorem RG:∀(l:List (Int×Int)) (m:Nat) (p:Int×Int),gg m (l++[p])=gg m l++[{ key:=.int .i64 p.1,val:=.int .i64 p.2,born:=m+l.length }]
 | [],_,_=>rfl
 |q::l,m,p=>by
  simp only[Cc,gg,RG l (m+1) p,fO]
  rw[show m+1+l.length=m+(l.length+1) by omega]
theorem S4:∀(l:List (Int×Int)) (m i:Nat) (p:Int×Int),gg m (l.set i p)=(gg m l).modify i fun e=> { e with key:=.int .i64 p.1,val:=.int .i64 p.2 }
 | [],_,_,_=>by simp[gg]
 |q::l,m,0,p=>by simp[gg]
 |q::l,m,i+1,p=>by simp[gg,S4 l (m+1) i p]
section
variable {P:Program} {w:World} {t k e:TypeId} {b:Nat} {l:List (Int×Int)}
theorem XU(ht:P.underlying t=some (.map k e))(hk:P.underlying k=some (.int .i64)){z:Int}(hz:(zeroValue e).run P w=.ok (.int .i64 z) w)(hb:w.heap[b]?=some (.map (gg 0 l).toArray l.length))(n:Int)(c:Bool):
  (Instr.lookup t (.map (some b)) (.int .i64 n) c).run P w=.ok (if c then .tuple #[.int .i64 ((getM l n).getD z),.bool (getM l n).isSome] else .int .i64 ((getM l n).getD z)) w:=by
 have hf:=Kw n l 0 0
 have BA:MapKept.IsKey (.int .i64) (.int .i64 n):=by simp[MapKept.IsKey]
 cases h:getM l n with
 |none=>
  rw[h]at hf
  simp[Instr.lookup,run_underlying ht,MapKept.run_getObj_map hb,MapKept.run_checkKey hk BA,MapKept.run_findKey hk hf,hz,Result.andThen]
 |some v=>
  rw[h]at hf
  simp[Instr.lookup,run_underlying ht,MapKept.run_getObj_map hb,MapKept.run_checkKey hk BA,MapKept.run_findKey hk hf,Result.andThen]
theorem XT(ht:P.underlying t=some (.map k e))(hk:P.underlying k=some (.int .i64))(hb:w.heap[b]?=some (.map (gg 0 l).toArray l.length))(n x:Int):
  (Instr.mapUpdate t (.map (some b)) (.int .i64 n) (.int .i64 x)).run P w=.ok () { w with heap:=w.heap.setIfInBounds b (.map (gg 0 (rH l n x)).toArray (rH l n x).length) }:=by
 have hf:=Kw n l 0 0
 have BA:MapKept.IsKey (.int .i64) (.int .i64 n):=by simp[MapKept.IsKey]
 cases h:getM l n with
 |none=>
  rw[h]at hf
  rw[Uc l n x h,RG]
  simp[Instr.mapUpdate,run_underlying ht,MapKept.run_getObj_map hb,MapKept.run_checkKey hk BA,MapKept.run_findKey hk hf,MapKept.run_setObj_map _ hb,Result.andThen]
 |some v=>
  rw[h]at hf
  obtain⟨h1,h2⟩:=pos_at l n v h
  rw[h2,S4]
  have hg:(gg 0 l)[ub l n]?=some { key:=.int .i64 n,val:=.int .i64 v,born:=0+ub l n }:=by rw[Lz,h1];rfl
  simp[Instr.mapUpdate,run_underlying ht,MapKept.run_getObj_map hb,MapKept.run_checkKey hk BA,MapKept.run_findKey hk hf,hg,MapKept.run_keyThatStays BA,MapKept.run_setObj_map _ hb,Result.andThen]
end
end Go.Proofs.YtnikdflhefijbaaGreat
