import Derived.Test.YtnikdflhefijbaaGreatBq1
import Derived.Laws.ComplexArith
import Derived.RangeFuncRecord
import Derived.MapFrom
namespace Go.Proofs.YtnikdflhefijbaaGreat
set_option maxRecDepth 100000
set_option maxHeartbeats 4000000
namespace SX
def W1(A:AP):Nat:=max A.W 1
theorem W6(A:AP):1≤W1 A∧A.W≤W1 A:=by unfold W1;omega
def ek(A:AP)(v:Nat):Nat:=W1 A+9+(A.nx v).length*W1 A
def gX(A:AP)(r:List Nat):Nat:=r.length*W1 A+8
def sO(A:AP)(u:Nat)(ch:Bool):Nat:=if ch=true then 6+ek A u else 0
def df(A:AP)(c:Nat→Nat→Int):Ph→Nat
 |.idle d a=>if d=0 then 6-a+1 else 0
 |.held v=>ek A v+1
 |.clear v=>ek A v
 |.read v y=>W1 A-y.length+gX A (A.nx v)
 |.join _ _ u r at_ ld ch=>(match ld with
  |none=>W1 A-at_
  |some x=>(W1 A-at_-1)+(if x=c u at_ then 0 else 2))+(gX A r+sO A u ch)
 |.take _ _ u r=>6+ek A u+gX A r
 |.add _ _ u r=>5+ek A u+gX A r
 |.push _ _ u r a=>4-a+ek A u+gX A r
 |.dK _=>8
 |.done=>0
def lI(A:AP)(c:List Nat):Nat:=aI (ek A) c
def nf(A:AP)(Us:List Nat)(rk:(Nat→Int)→Nat)(h:Nat)(S:AS):Nat:=
 aI (fun u=>(h-rk (S.cell u))*(2*A.k+5+ek A u)) Us+aI (lI A) S.dq+aI (df A S.cell) S.ph
theorem Bc{α:Type}(f:α→Nat)(a:α)(l:List α):aI f (a::l)=f a+aI f l:=rfl
theorem Mh{α:Type}(f:α→Nat):∀(l m:List α),aI f (l++m)=aI f l+aI f m
 | [],m=>(dI _).symm
 |a::l,m=>by
  rw[CW,Bc,Bc,Mh f l m,C2]
theorem MQ{α:Type}{f g:α→Nat}:∀{l:List α},(∀x∈l,f x≤g x)→aI f l≤aI g l
 | [],_=>aQ _
 |a::l,h=>by
  have h1:=h a (b9 ..);have h2:=MQ (l:=l) fun x hx=>h x (cQ _ hx);rw[Bc,Bc];omega
theorem Ve{α:Type}{f f':α→Nat}(h:∀x,f' x≤f x+2):∀(l:List α) (i:Nat) (p q:α),l[i]?=some p→aI f' (l.set i q)+f p+2≤aI f l+f' q+2*l.length
 |a::l,0,p,q,hp=>by
  simp at hp;subst hp
  have h1:aI f' l≤aI f l+2*l.length:=by
   clear q a
   induction l with
   |nil=>exact aQ _
   |cons a l ih=>rw[Bc,Bc,gj];have:=h a;omega
  show f' q+aI f' l+f a+2≤f a+aI f l+f' q+2*(l.length+1);omega
 |a::l,i+1,p,q,hp=>by
  have h1:=Ve h l i p q (by simpa using hp);have h2:=h a;show f' a+aI f' (l.set i q)+f p+2≤f a+aI f l+f' q+2*(l.length+1);omega
theorem DG(A:AP)(c:Nat→Nat→Int)(v:Nat)(o:List Int)(r:List Nat):df A c (eV v o r)=gX A r:=by
 cases r with
 |nil=>show 8=0*W1 A+8;omega
 |cons u r=>
  show W1 A-0+(r.length*W1 A+8+0)=(r.length+1)*W1 A+8;rw[lU];omega
theorem RY(A:AP)(c:Nat→Nat→Int)(v:Nat)(o:List Int)(u:Nat)(r:List Nat)(at_:Nat)(ch:Bool):df A c (dU A v o u r at_ ch).1≤(W1 A-at_-1)+(gX A r+sO A u ch):=by
 unfold dU;split
 ·show W1 A-(at_+1)+(gX A r+sO A u ch)≤_;omega
 ·split
  ·next h=>rw[h];show 6+ek A u+gX A r≤_+(gX A r+(6+ek A u));omega
  ·rw[DG];omega
def busy:Ph→Prop
 |.idle d _=>d=0
 |.done=>False
 |_=>True
structure Bz(A:AP)(S:AS):Prop where
 len:S.ph.length=A.k
 dl:S.dq.length=A.k
 rest:∀(i:Nat) (p:Ph) (c:List Nat),S.ph[i]?=some p→S.dq[i]?=some c→¬busy p→c=[]
 a5:∀p∈S.ph,∀a,p=.idle 0 a→a≤5
variable {A:AP}
theorem zq(v:Nat)(o:List Int)(r:List Nat):busy (eV v o r):=by cases r <;> trivial
theorem RZ(A:AP)(v:Nat)(o:List Int)(u:Nat)(r:List Nat)(at_:Nat)(ch:Bool):busy (dU A v o u r at_ ch).1:=by
 unfold dU;split
 ·trivial
 ·split
  ·trivial
  ·exact zq _ _ _
theorem Bz.set{S S':AS}(h:Bz A S){i:Nat}{p q:Ph}(_hp:S.ph[i]?=some p)(e:S'.ph=S.ph.set i q)(hl:S'.dq.length=S.dq.length)(ha:∀a,q=.idle 0 a→a≤5)
  (hd:∀j c,S'.dq[j]?=some c→(∃x,S.dq[j]?=some x∧(x=[]→c=[]))∨j=i∧busy q) (hq:¬busy q→∀c,S'.dq[i]?=some c→c=[]):Bz A S':=by
 refine⟨by rw[e,cz];exact h.len,hl.trans h.dl,fun j p' c hj hc hb=>?_,fun p' hm a ea=>?_⟩
 ·rw[e,eA]at hj
  by_cases fj:i=j
  ·subst fj;rw[af rfl]at hj;split at hj
   ·cases hj;exact hq hb c hc
   ·cases hj
  ·rw[ag fj]at hj
   rcases hd j c hc with ⟨x,hx,h2⟩ | h2
   ·exact h2 (h.rest j p' x hj hx hb)
   ·exact absurd h2.1.symm fj
 ·rw[e]at hm
  rcases qG hm with hm | rfl
  ·exact h.a5 p' hm a ea
  ·exact ha a ea
theorem Bz.step{S S':AS}{i:Nat}(h:Bz A S)(hs:Tr A S i S'):Bz A S':=by
 have same:∀{p q:Ph} {S':AS},S.ph[i]?=some p→S'.ph=S.ph.set i q→S'.dq=S.dq→(∀a,q=.idle 0 a→a≤5)→(¬busy q→¬busy p∨∀c,S.dq[i]?=some c→c=[])→Bz A S':=fun {p q S'} hp e ed ha hq=>
  h.set hp e (by rw[ed]) ha (fun j c hc=>.inl ⟨c,by rw[← ed];exact hc,id⟩) fun hb c hc=>by
   rw[ed]at hc
   rcases hq hb with h1 | h1
   ·exact h.rest i p c hp hc h1
   ·exact h1 c hc
 cases hs with
 |stay=>exact h
 |uK a hp ha=>exact same (q:=.idle 0 (a+1)) hp rfl rfl (fun b e=>by cases e;omega) fun hb=>absurd rfl hb
 |uL a hp hd=>exact same (q:=.idle (if A.k<2 then 2 else 1) 0) hp rfl rfl (fun b e=>by injection e with e1 e2;omega) fun _=>.inr fun c hc=>by rw[hd]at hc;cases hc;rfl
 |uj a hp ha=>exact same (q:=.idle 1 (a+1)) hp rfl rfl (fun b e=>by cases e) fun _=>.inl (by intro e;cases e)
 |uk a hp=>exact same (q:=.idle 2 0) hp rfl rfl (fun b e=>by cases e) fun _=>.inl (by intro e;cases e)
 |ask hp hc=>exact same (q:=.idle (if A.k<2 then 0 else 1) 0) hp rfl rfl (fun b e=>by injection e with e1 e2;omega) fun _=>.inl (by intro e;cases e)
 |uv v o u r a hp ha=>exact same (q:=.push v o u r (a+1)) hp rfl rfl (fun b e=>by cases e) fun hb=>absurd trivial hb
 |pop v c a hp hd=>exact h.set (q:=.clear v) hp rfl (cz ..) (fun b e=>by cases e) (fun j c' hc=>by
   by_cases hj:j=i
   ·exact .inr ⟨hj,trivial⟩
   ·have hc:(S.dq.set i c)[j]?=some c':=hc;rw[eA,ag (fun e=>hj e.symm)]at hc
    exact .inl ⟨c',hc,id⟩) fun hb=>absurd trivial hb
 |cas v a hp hd=>exact h.set (q:=.held v) hp rfl (cz ..) (fun b e=>by cases e) (fun j c' hc=>by
   by_cases hj:j=i
   ·exact .inr ⟨hj,trivial⟩
   ·have hc:(S.dq.set i [])[j]?=some c':=hc;rw[eA,ag (fun e=>hj e.symm)]at hc
    exact .inl ⟨c',hc,id⟩) fun hb=>absurd trivial hb
 |vv v hp=>exact same (q:=.clear v) hp rfl rfl (fun b e=>by cases e) fun hb=>absurd trivial hb
 |cu j v c a hp hd=>exact h.set (q:=.clear v) hp rfl (cz ..) (fun b e=>by cases e) (fun z c' hc=>by
   have hc:(S.dq.set j c)[z]?=some c':=hc;rw[eA]at hc
   by_cases hj:j=z
   ·subst hj;rw[af rfl]at hc;exact .inl ⟨v::c,hd,fun e=>by cases e⟩
   ·rw[ag hj]at hc
    exact .inl ⟨c',hc,id⟩) fun hb=>absurd trivial hb
 |clear v hp=>exact same (q:=.read v []) hp rfl rfl (fun b e=>by cases e) fun hb=>absurd trivial hb
 |ur v y hp hy=>exact same (q:=.read v (y++[S.cell v y.length])) hp rfl rfl (fun b e=>by cases e) fun hb=>absurd trivial hb
 |uu v y y' hp hy=>exact same (q:=eV v (A.out v y') (A.nx v)) hp rfl rfl (fun b e=>by have:=zq v (A.out v y') (A.nx v);revert e;cases A.nx v <;> intro e <;> cases e) fun hb=>absurd (zq _ _ _) hb
 |load v o u r a ch hp ha hx=>exact same (q:=.join v o u r a (some (S.cell u a)) ch) hp rfl rfl (fun b e=>by cases e) fun hb=>absurd trivial hb
 |same v o u r a ch hp ha hx=>exact same (q:=(dU A v o u r a ch).1) hp rfl rfl (fun b e=>by
   revert e;unfold dU;split
   ·intro e;cases e
   ·split
    ·intro e;cases e
    ·cases r <;> intro e <;> cases e) fun hb=>absurd (RZ ..) hb
 |lost v o u r a ch x hp ha hx=>exact same (q:=.join v o u r a none ch) hp rfl rfl (fun b e=>by cases e) fun hb=>absurd trivial hb
 |uW v o u r a ch hp ha hx=>exact same (q:=(dU A v o u r a true).1) hp rfl rfl (fun b e=>by
   revert e;unfold dU;split
   ·intro e;cases e
   ·rw[af rfl];intro e;cases e) fun hb=>absurd (RZ ..) hb
 |none v o u r hp ha=>exact same (q:=eV v o r) hp rfl rfl (fun b e=>by revert e;cases r <;> intro e <;> cases e) fun hb=>absurd (zq _ _ _) hb
 |flag v o u r hp hf=>exact same (q:=.add v o u r) hp rfl rfl (fun b e=>by cases e) fun hb=>absurd trivial hb
 |uN v o u r hp hf=>exact same (q:=eV v o r) hp rfl rfl (fun b e=>by revert e;cases r <;> intro e <;> cases e) fun hb=>absurd (zq _ _ _) hb
 |add v o u r hp=>exact same (q:=.push v o u r 0) hp rfl rfl (fun b e=>by cases e) fun hb=>absurd trivial hb
 |push v o u r c hp hd=>exact h.set (q:=eV v o r) hp rfl (cz ..) (fun b e=>by revert e;cases r <;> intro e <;> cases e) (fun j c' hc=>by
   by_cases hj:j=i
   ·exact .inr ⟨hj,zq _ _ _⟩
   ·have hc:(S.dq.set i (c++[u]))[j]?=some c':=hc;rw[eA,ag (fun e=>hj e.symm)]at hc
    exact .inl ⟨c',hc,id⟩) fun hb=>absurd (zq _ _ _) hb
 |dK v hp=>exact same (q:=.idle 0 0) hp rfl rfl (fun b e=>by cases e;omega) fun hb=>absurd rfl hb
 |uI hp hc=>exact same (q:=.done) hp rfl rfl (fun b e=>by cases e) fun _=>.inl (by intro e;cases e)
section
variable {Us:List Nat} {rk:(Nat→Int)→Nat} {h:Nat}
theorem D4{S S':AS}{i:Nat}{p q:Ph}(hp:S.ph[i]?=some p)(e1:S'.cell=S.cell)(e2:S'.ph=S.ph.set i q):nf A Us rk h S'+aI (lI A) S.dq+df A S.cell p=nf A Us rk h S+aI (lI A) S'.dq+df A S.cell q:=by
 have:=fu (df A S.cell) S.ph i p q hp;unfold nf;rw[e1,e2];omega
theorem lY{S S':AS}{i:Nat}{p q:Ph}(hp:S.ph[i]?=some p)(e1:S'.cell=S.cell)(e2:S'.ph=S.ph.set i q)(e3:S'.dq=S.dq):nf A Us rk h S'+df A S.cell p=nf A Us rk h S+df A S.cell q:=by
 have:=D4 (A:=A) (Us:=Us) (rk:=rk) (h:=h) hp e1 e2;rw[e3]at this;omega
theorem aaY(c c':Nat→Nat→Int)(p:Ph):df A c' p≤df A c p+2:=by
 cases p with
 |join v o u r a ld ch=>
  cases ld with
  |none=>show W1 A-a+_≤W1 A-a+_+2;omega
  |some x=>
   show (W1 A-a-1)+(if x=c' u a then 0 else 2)+(gX A r+sO A u ch)≤(W1 A-a-1)+(if x=c u a then 0 else 2)+(gX A r+sO A u ch)+2;split <;> split <;> omega
 |_=>exact GG _ _
theorem nf.step{b:Nat→Nat→Int}{S S':AS}{i:Nat}(hr:J3 A Us rk)(hh:∀c,rk c≤h)(ht:TI A S)(hv:VI A b S)(hz:Bz A S)(hs:Tr A S i S'):nf A Us rk h S'≤nf A Us rk h S∧∀p,S.ph[i]?=some p→busy p→nf A Us rk h S'<nf A Us rk h S:=by
 have dec:∀{X Y:Nat},X<Y→X≤Y∧∀p,S.ph[i]?=some p→busy p→X<Y:=fun h=>⟨Nat.le_of_lt h,fun _ _ _=>h⟩
 have nd:∀{X Y:Nat} {P:Ph},S.ph[i]?=some P→¬busy P→X≤Y→X≤Y∧∀p,S.ph[i]?=some p→busy p→X<Y:=fun hp hn h=>⟨h,fun p hq hb=>by rw[hp]at hq;cases hq;exact absurd hb hn⟩
 have hw:=W6 A;cases hs with
 |stay hp=>
  refine⟨aQ _,fun p hq hb=>?_⟩
  rcases hp with hp | hp
  ·rw[hp]at hq;cases hq;exact hb.elim
  ·rw[hp]at hq;cases hq
 |uK a hp ha=>
  have e:=lY (A:=A) (Us:=Us) (rk:=rk) (h:=h) (S':= { S with ph:=S.ph.set i (.idle 0 (a+1)) }) hp rfl rfl rfl;rw[show df A S.cell (.idle 0 a)=6-a+1 from rfl,show df A S.cell (.idle 0 (a+1))=6-(a+1)+1 from rfl]at e;exact dec (by omega)
 |uL a hp hd=>
  have e:=lY (A:=A) (Us:=Us) (rk:=rk) (h:=h) (S':= { S with ph:=S.ph.set i (.idle (if A.k<2 then 2 else 1) 0) }) hp rfl rfl rfl;rw[show df A S.cell (.idle 0 a)=6-a+1 from rfl,show df A S.cell (.idle (if A.k<2 then 2 else 1) 0)=0 by by_cases hk:A.k<2 <;> simp[df,hk]]at e;exact dec (by omega)
 |uj a hp ha=>
  have e:=lY (A:=A) (Us:=Us) (rk:=rk) (h:=h) (S':= { S with ph:=S.ph.set i (.idle 1 (a+1)) }) hp rfl rfl rfl;rw[show df A S.cell (.idle 1 a)=0 from rfl,show df A S.cell (.idle 1 (a+1))=0 from rfl]at e;exact nd hp (by intro e;cases e) (by omega)
 |uk a hp=>
  have e:=lY (A:=A) (Us:=Us) (rk:=rk) (h:=h) (S':= { S with ph:=S.ph.set i (.idle 2 0) }) hp rfl rfl rfl;rw[show df A S.cell (.idle 1 a)=0 from rfl,show df A S.cell (.idle 2 0)=0 from rfl]at e;exact nd hp (by intro e;cases e) (by omega)
 |ask hp hc=>
  have e:=lY (A:=A) (Us:=Us) (rk:=rk) (h:=h) (S':= { S with ph:=S.ph.set i (.idle (if A.k<2 then 0 else 1) 0) }) hp rfl rfl rfl;rw[show df A S.cell (.idle 2 0)=0 from rfl]at e
  by_cases hk:A.k<2
  ·refine absurd ?_ hc;have h1:=ht.aH;have hl:=hz.len;have hd:=hz.dl;have hi:=(bZ.1 hp).1
   have h2:aI List.length S.dq=0:=rO fun c rK=>by
    obtain⟨j,hj⟩:=lq.1 rK;have xi:=(bZ.1 hj).1;have:j=i:=by omega
    subst this;rw[hz.rest j _ c hp hj (by intro e;cases e)];rfl
   have h3:aI cw S.ph=0:=rO fun p fN=>by
    obtain⟨j,hj⟩:=lq.1 fN;have xi:=(bZ.1 hj).1;have:j=i:=by omega
    subst this;rw[hp]at hj;cases hj;rfl
   omega
  ·rw[show df A S.cell (.idle (if A.k<2 then 0 else 1) 0)=0 by rw[ag hk];rfl]at e;exact nd hp (by intro e;cases e) (by omega)
 |uv v o u r a hp ha=>
  have e:=lY (A:=A) (Us:=Us) (rk:=rk) (h:=h) (S':= { S with ph:=S.ph.set i (.push v o u r (a+1)) }) hp rfl rfl rfl;rw[show df A S.cell (.push v o u r a)=4-a+ek A u+gX A r from rfl,show df A S.cell (.push v o u r (a+1))=4-(a+1)+ek A u+gX A r from rfl]at e;exact dec (by omega)
 |pop v c a hp hd=>
  have e:=D4 (A:=A) (Us:=Us) (rk:=rk) (h:=h) (S':= { S with dq:=S.dq.set i c,ph:=S.ph.set i (.clear v) }) hp rfl rfl;dsimp only at e;have e2:=fu (lI A) S.dq i _ c hd;rw[show lI A (c++[v])=lI A c+ek A v from (Mh ..)]at e2;rw[show df A S.cell (.idle 0 a)=6-a+1 from rfl,show df A S.cell (.clear v)=ek A v from rfl]at e;exact dec (by omega)
 |cas v a hp hd=>
  have e:=D4 (A:=A) (Us:=Us) (rk:=rk) (h:=h) (S':= { S with dq:=S.dq.set i [],ph:=S.ph.set i (.held v) }) hp rfl rfl;dsimp only at e;have e2:=fu (lI A) S.dq i _ [] hd;rw[show lI A [v]=ek A v from rfl,show lI A []=0 from rfl]at e2;have h5:=hz.a5 _ (bU hp) a rfl;rw[show df A S.cell (.idle 0 a)=6-a+1 from rfl,show df A S.cell (.held v)=ek A v+1 from rfl]at e;exact dec (by omega)
 |vv v hp=>
  have e:=lY (A:=A) (Us:=Us) (rk:=rk) (h:=h) (S':= { S with ph:=S.ph.set i (.clear v) }) hp rfl rfl rfl;rw[show df A S.cell (.held v)=ek A v+1 from rfl,show df A S.cell (.clear v)=ek A v from rfl]at e;exact dec (by omega)
 |cu j v c a hp hd=>
  have e:=D4 (A:=A) (Us:=Us) (rk:=rk) (h:=h) (S':= { S with dq:=S.dq.set j c,ph:=S.ph.set i (.clear v) }) hp rfl rfl;dsimp only at e;have e2:=fu (lI A) S.dq j _ c hd;rw[show lI A (v::c)=ek A v+lI A c from rfl]at e2;rw[show df A S.cell (.idle 1 a)=0 from rfl,show df A S.cell (.clear v)=ek A v from rfl]at e;exact nd hp (by intro e;cases e) (by omega)
 |clear v hp=>
  have e:=lY (A:=A) (Us:=Us) (rk:=rk) (h:=h) (S':= { S with flag:=fun z=>if z=v then false else S.flag z,ph:=S.ph.set i (.read v []) }) hp rfl rfl rfl;rw[show df A S.cell (.clear v)=W1 A+9+(A.nx v).length*W1 A from rfl,show df A S.cell (.read v [])=W1 A-0+((A.nx v).length*W1 A+8) from rfl]at e;exact dec (by omega)
 |ur v y hp hy=>
  have e:=lY (A:=A) (Us:=Us) (rk:=rk) (h:=h) (S':= { S with ph:=S.ph.set i (.read v (y++[S.cell v y.length])) }) hp rfl rfl rfl;rw[show df A S.cell (.read v y)=W1 A-y.length+gX A (A.nx v) from rfl,show df A S.cell (.read v (y++[S.cell v y.length]))=W1 A-(y++[S.cell v y.length]).length+gX A (A.nx v) from rfl,bQ,sN]at e;exact dec (by omega)
 |uu v y y' hp hy=>
  have e:=lY (A:=A) (Us:=Us) (rk:=rk) (h:=h) (S':= { S with ph:=S.ph.set i (eV v (A.out v y') (A.nx v)),ev:=S.ev+1 }) hp rfl rfl rfl;rw[DG,show df A S.cell (.read v y)=W1 A-y.length+gX A (A.nx v) from rfl]at e
  have h1:y.length<W1 A:=by
   rcases (hv.ph _ (bU hp)).1 with h1 | ⟨_,rfl⟩
   ·omega
   ·exact hw.1
  exact dec (by omega)
 |load v o u r a ch hp ha hx=>
  have e:=lY (A:=A) (Us:=Us) (rk:=rk) (h:=h) (S':= { S with ph:=S.ph.set i (.join v o u r a (some (S.cell u a)) ch) }) hp rfl rfl rfl;rw[show df A S.cell (.join v o u r a none ch)=W1 A-a+(gX A r+sO A u ch) from rfl,show df A S.cell (.join v o u r a (some (S.cell u a)) ch)=(W1 A-a-1)+(if S.cell u a=S.cell u a then 0 else 2)+(gX A r+sO A u ch) from rfl,af rfl]at e;exact dec (by omega)
 |same v o u r a ch hp ha hx=>
  have e:=lY (A:=A) (Us:=Us) (rk:=rk) (h:=h) (S':= { S with ph:=S.ph.set i (dU A v o u r a ch).1,jo:=S.jo+(dU A v o u r a ch).2 }) hp rfl rfl rfl;rw[show df A S.cell (.join v o u r a none ch)=W1 A-a+(gX A r+sO A u ch) from rfl]at e;have h1:=RY A S.cell v o u r a ch;exact dec (by omega)
 |lost v o u r a ch x hp ha hx=>
  have e:=lY (A:=A) (Us:=Us) (rk:=rk) (h:=h) (S':= { S with ph:=S.ph.set i (.join v o u r a none ch) }) hp rfl rfl rfl;rw[show df A S.cell (.join v o u r a none ch)=W1 A-a+(gX A r+sO A u ch) from rfl,show df A S.cell (.join v o u r a (some x) ch)=(W1 A-a-1)+(if x=S.cell u a then 0 else 2)+(gX A r+sO A u ch) from rfl,ag (fun e=>hx e.symm)]at e;exact dec (by omega)
 |uW v o u r a ch hp ha hx=>
  obtain⟨h1,h2,h3,h4,_⟩:=hv.ph _ (bU hp);have fh:=ht.at_ hp (v:=u) (by simp[nodes]);have dv:=ht.at_ hp (v:=v) (by simp[nodes]);have mj:=hr.up (S.cell u) a (o.getD a 0) ha (fun j hj=>hv.ok u j fh hj) (h1.ok a ha) hx
  have nG:dF S.cell u a (A.jw (S.cell u a) (o.getD a 0)) u=fun j=>if j=a then A.jw (S.cell u a) (o.getD a 0) else S.cell u j:=by
   funext j
   unfold dF
   by_cases hj:j=a
   ·subst hj;rw[af ⟨rfl,rfl⟩,af rfl]
   ·rw[ag (fun e=>hj e.2),ag hj]
  have mb:=Ic (f:=fun z=>(h-rk (dF S.cell u a (A.jw (S.cell u a) (o.getD a 0)) z))*(2*A.k+5+ek A z)) (g:=fun z=>(h-rk (S.cell z))*(2*A.k+5+ek A z)) hr.nodup (hr.all v dv u h2) fun z _ hz=>by
   have:dF S.cell u a (A.jw (S.cell u a) (o.getD a 0)) z=S.cell z:=funext fun j=>uh fun e=>hz e.1;show (h-rk (dF S.cell u a (A.jw (S.cell u a) (o.getD a 0)) z))*_=_;rw[this]
  have hc:=Ve (aaY (A:=A) S.cell (dF S.cell u a (A.jw (S.cell u a) (o.getD a 0)))) S.ph i _ (dU A v o u r a true).1 hp;rw[show df A S.cell (.join v o u r a (some (S.cell u a)) ch)=(W1 A-a-1)+(if S.cell u a=S.cell u a then 0 else 2)+(gX A r+sO A u ch) from rfl,af rfl,hz.len]at hc;have hj:=RY A (dF S.cell u a (A.jw (S.cell u a) (o.getD a 0))) v o u r a true;rw[show sO A u true=6+ek A u from rfl]at hj;have mb:aI (fun z=>(h-rk (dF S.cell u a (A.jw (S.cell u a) (o.getD a 0)) z))*(2*A.k+5+ek A z)) Us+(h-rk (S.cell u))*(2*A.k+5+ek A u)=aI (fun z=>(h-rk (S.cell z))*(2*A.k+5+ek A z)) Us+(h-rk (dF S.cell u a (A.jw (S.cell u a) (o.getD a 0)) u))*(2*A.k+5+ek A u):=mb;rw[nG]at mb;have hb:=hh fun j=>if j=a then A.jw (S.cell u a) (o.getD a 0) else S.cell u j
  have hm:(h-rk fun j=>if j=a then A.jw (S.cell u a) (o.getD a 0) else S.cell u j)*(2*A.k+5+ek A u)+(2*A.k+5+ek A u)≤(h-rk (S.cell u))*(2*A.k+5+ek A u):=by
   rw[← oH];exact jm _ (by omega)
  refine dec ?_;show aI (fun z=>(h-rk (dF S.cell u a (A.jw (S.cell u a) (o.getD a 0)) z))*(2*A.k+5+ek A z)) Us+aI (lI A) S.dq+aI (df A (dF S.cell u a (A.jw (S.cell u a) (o.getD a 0)))) (S.ph.set i (dU A v o u r a true).1)<aI (fun z=>(h-rk (S.cell z))*(2*A.k+5+ek A z)) Us+aI (lI A) S.dq+aI (df A S.cell) S.ph;omega
 |none v o u r hp ha=>
  have e:=lY (A:=A) (Us:=Us) (rk:=rk) (h:=h) (S':= { S with ph:=S.ph.set i (eV v o r) }) hp rfl rfl rfl;rw[DG,show df A S.cell (.join v o u r 0 none false)=W1 A-0+(gX A r+0) from rfl]at e;exact dec (by omega)
 |flag v o u r hp hf=>
  have e:=lY (A:=A) (Us:=Us) (rk:=rk) (h:=h) (S':= { S with flag:=fun z=>if z=u then true else S.flag z,ph:=S.ph.set i (.add v o u r) }) hp rfl rfl rfl;rw[show df A S.cell (.take v o u r)=6+ek A u+gX A r from rfl,show df A S.cell (.add v o u r)=5+ek A u+gX A r from rfl]at e;exact dec (by omega)
 |uN v o u r hp hf=>
  have e:=lY (A:=A) (Us:=Us) (rk:=rk) (h:=h) (S':= { S with ph:=S.ph.set i (eV v o r) }) hp rfl rfl rfl;rw[DG,show df A S.cell (.take v o u r)=6+ek A u+gX A r from rfl]at e;exact dec (by omega)
 |add v o u r hp=>
  have e:=lY (A:=A) (Us:=Us) (rk:=rk) (h:=h) (S':= { S with aH:=S.aH+1,ph:=S.ph.set i (.push v o u r 0) }) hp rfl rfl rfl;rw[show df A S.cell (.add v o u r)=5+ek A u+gX A r from rfl,show df A S.cell (.push v o u r 0)=4-0+ek A u+gX A r from rfl]at e;exact dec (by omega)
 |push v o u r c hp hd=>
  have e:=D4 (A:=A) (Us:=Us) (rk:=rk) (h:=h) (S':= { S with dq:=S.dq.set i (c++[u]),ph:=S.ph.set i (eV v o r) }) hp rfl rfl;dsimp only at e;have e2:=fu (lI A) S.dq i _ (c++[u]) hd;rw[show lI A (c++[u])=lI A c+ek A u from (Mh ..)]at e2;rw[DG,show df A S.cell (.push v o u r 3)=4-3+ek A u+gX A r from rfl]at e;exact dec (by omega)
 |dK v hp=>
  have e:=lY (A:=A) (Us:=Us) (rk:=rk) (h:=h) (S':= { S with aH:=S.aH-1,ph:=S.ph.set i (.idle 0 0) }) hp rfl rfl rfl;rw[show df A S.cell (.dK v)=8 from rfl,show df A S.cell (.idle 0 0)=7 from rfl]at e;exact dec (by omega)
 |uI hp hc=>
  have e:=lY (A:=A) (Us:=Us) (rk:=rk) (h:=h) (S':= { S with ph:=S.ph.set i .done }) hp rfl rfl rfl;rw[show df A S.cell (.idle 2 0)=0 from rfl,show df A S.cell .done=0 from rfl]at e;exact nd hp (by intro e;cases e) (by omega)
end
theorem Bz.work{S:AS}(hz:Bz A S)(ht:TI A S)(hc:S.aH≠0):∃(j:Nat) (p:Ph),S.ph[j]?=some p∧busy p:=by
 apply Classical.byContradiction;intro hn;have cx:∀j p,S.ph[j]?=some p→¬busy p:=fun j p hp hb=>hn ⟨j,p,hp,hb⟩;apply hc;have h1:=ht.aH
 have h2:aI List.length S.dq=0:=rO fun c rK=>by
  obtain⟨j,hj⟩:=lq.1 rK;have xi:=(bZ.1 hj).1;have hp:S.ph[j]?=some (S.ph[j]'(by rw[hz.len,← hz.dl];exact xi)):=bB _;rw[hz.rest j _ c hp hj (cx j _ hp)];rfl
 have h3:aI cw S.ph=0:=rO fun p fN=>by
  obtain⟨j,hj⟩:=lq.1 fN;have:=cx j p hj;cases p <;> first | rfl | exact absurd trivial this
 omega
theorem Tr.other{S S':AS}{i j:Nat}(hs:Tr A S i S')(fj:i≠j):S'.ph[j]?=S.ph[j]?:=by
 cases hs <;> first | rfl | exact Qh fj
def sn:Ph→Nat
 |.idle d a=>if d=0 then 6-a+5 else if d=1 then 3-a+2 else 1
 |_=>0
theorem Wd(p:Ph):sn p≤11:=by
 cases p <;> simp only[sn] <;> (try split) <;> (try split) <;> omega
theorem RN{S S':AS}{i:Nat}(hz:Bz A S)(ht:TI A S)(h0:S.aH=0)(hs:Tr A S i S'):S'.aH=0∧∀p q,S.ph[i]?=some p→S'.ph[i]?=some q→(sn q+1≤sn p∨(p=.done∧q=.done)):=by
 obtain⟨h1,h2,h3⟩:=ht.quiet h0
 have kA:∀{q:Ph},∀{p},S.ph[i]?=some p→(S.ph.set i q)[i]?=some q:=fun hp=>by
  rw[eA,af rfl,af (bZ.1 hp).1]
 have key:∀{P Q:Ph} {p q:Ph},S.ph[i]?=some P→S.ph[i]?=some p→(S.ph.set i Q)[i]?=some q→sn Q+1≤sn P→(sn q+1≤sn p∨(p=.done∧q=.done)):=fun hP hp hq hr=>by
  rw[kA hP]at hq;rw[hP]at hp;cases hp;cases hq;exact .inl hr
 have bad:∀{P:Ph},S.ph[i]?=some P→(∀d a,P≠.idle d a)→P≠.done→False:=fun hp hd he=>by
  rcases h2 _ (bU hp) with ⟨d,a,e⟩ | e
  ·exact hd d a e
  ·exact he e
 cases hs with
 |stay hp=>
  refine⟨h0,fun p q e1 e2=>?_⟩;rw[e1]at e2;cases e2
  rcases hp with hp | hp
  ·rw[e1]at hp;cases hp;exact .inr ⟨rfl,rfl⟩
  ·rw[e1]at hp;cases hp
 |uK a hp ha=>exact⟨h0,fun p q e1 e2=>key (Q:=.idle 0 (a+1)) hp e1 e2 (by show 6-(a+1)+5+1≤6-a+5;omega)⟩
 |uL a hp hd=>
  have h5:=hz.a5 _ (bU hp) a rfl;exact⟨h0,fun p q e1 e2=>key (Q:=.idle (if A.k<2 then 2 else 1) 0) hp e1 e2 (by show (if (if A.k<2 then 2 else 1)=0 then _ else if (if A.k<2 then 2 else 1)=1 then 3-0+2 else 1)+1≤6-a+5;rw[ag (by split <;> omega)];split <;> split <;> omega)⟩
 |uj a hp ha=>exact⟨h0,fun p q e1 e2=>key (Q:=.idle 1 (a+1)) hp e1 e2 (by show 3-(a+1)+2+1≤3-a+2;omega)⟩
 |uk a hp=>exact⟨h0,fun p q e1 e2=>key (Q:=.idle 2 0) hp e1 e2 (by show 1+1≤3-a+2;omega)⟩
 |ask hp hc=>exact absurd h0 hc
 |uI hp hc=>exact⟨h0,fun p q e1 e2=>key (Q:=.done) hp e1 e2 (by show 0+1≤1;omega)⟩
 |pop v c a hp hd=>
  have:=h1 _ (bU hd);simp at this
 |cas v a hp hd=>
  have:=h1 _ (bU hd);simp at this
 |cu j v c a hp hd=>
  have:=h1 _ (bU hd);simp at this
 |vv v hp=>exact (bad hp (fun _ _ e=>by cases e) (fun e=>by cases e)).elim
 |clear v hp=>exact (bad hp (fun _ _ e=>by cases e) (fun e=>by cases e)).elim
 |ur v y hp hy=>exact (bad hp (fun _ _ e=>by cases e) (fun e=>by cases e)).elim
 |uu v y y' hp hy=>exact (bad hp (fun _ _ e=>by cases e) (fun e=>by cases e)).elim
 |load v o u r a ch hp ha hx=>exact (bad hp (fun _ _ e=>by cases e) (fun e=>by cases e)).elim
 |same v o u r a ch hp ha hx=>exact (bad hp (fun _ _ e=>by cases e) (fun e=>by cases e)).elim
 |lost v o u r a ch x hp ha hx=>exact (bad hp (fun _ _ e=>by cases e) (fun e=>by cases e)).elim
 |uW v o u r a ch hp ha hx=>exact (bad hp (fun _ _ e=>by cases e) (fun e=>by cases e)).elim
 |none v o u r hp ha=>exact (bad hp (fun _ _ e=>by cases e) (fun e=>by cases e)).elim
 |flag v o u r hp hf=>exact (bad hp (fun _ _ e=>by cases e) (fun e=>by cases e)).elim
 |uN v o u r hp hf=>exact (bad hp (fun _ _ e=>by cases e) (fun e=>by cases e)).elim
 |add v o u r hp=>exact (bad hp (fun _ _ e=>by cases e) (fun e=>by cases e)).elim
 |uv v o u r a hp ha=>exact (bad hp (fun _ _ e=>by cases e) (fun e=>by cases e)).elim
 |push v o u r c hp hd=>exact (bad hp (fun _ _ e=>by cases e) (fun e=>by cases e)).elim
 |dK v hp=>exact (bad hp (fun _ _ e=>by cases e) (fun e=>by cases e)).elim
inductive py(A:AP):List Nat→AS→AS→Prop where
 |nil (S:AS):py A [] S S
 |cons {i:Nat} {L:List Nat} {S S1 S2:AS} (h:Tr A S i S1) (hs:py A L S1 S2):py A (i::L) S S2
theorem py.split:∀{L M:List Nat} {S S2:AS},py A (L++M) S S2→∃S1,py A L S S1∧py A M S1 S2
 | [],M,S,S2,h=>⟨S,.nil _,h⟩
 |i::L,M,S,S2,h=>by
  cases h with
  |cons h hs=>
   obtain⟨S1,h1,h2⟩:=py.split hs;exact⟨S1,.cons h h1,h2⟩
structure rp(A:AP)(b:Nat→Nat→Int)(S:AS):Prop where
 ti:TI A S
 vi:VI A b S
 bz:Bz A S
section
variable {b:Nat→Nat→Int} {Us:List Nat} {rk:(Nat→Int)→Nat} {h:Nat} (hb:O2 A b) (hr:J3 A Us rk) (hh:∀c,rk c≤h)
include hb
theorem rp.step{S S':AS}{i:Nat}(hI:rp A b S)(hs:Tr A S i S'):rp A b S':=⟨hI.ti.step hs,(hI.vi.step hb hI.ti hs).1,hI.bz.step hs⟩
theorem rp.go{L:List Nat}{S S':AS}(hI:rp A b S)(hs:py A L S S'):rp A b S':=by
 induction hs with
 |nil=>exact hI
 |cons h _ ih=>exact ih (hI.step hb h)
def Bd(A:AP)(Us:List Nat)(rk:(Nat→Int)→Nat)(h B:Nat)(S:AS):Prop:=(S.aH≠0∧nf A Us rk h S+11≤B)∨(S.aH=0∧∀p∈S.ph,sn p≤B)
include hr hh
omit hb in
theorem Bd.step{S S':AS}{i B:Nat}(hI:rp A b S)(hB:Bd A Us rk h B S)(hs:Tr A S i S'):Bd A Us rk h B S':=by
 rcases hB with ⟨h1,h2⟩ | ⟨h1,h2⟩
 ·have hp:=(nf.step hr hh hI.ti hI.vi hI.bz hs).1
  by_cases hc:S'.aH=0
  ·exact .inr ⟨hc,fun p _=>by have:=Wd p;omega⟩
  ·exact .inl ⟨hc,by omega⟩
 ·obtain⟨hc,hq⟩:=RN hI.bz hI.ti h1 hs;refine .inr ⟨hc,fun p hp=>?_⟩;obtain⟨j,hj⟩:=lq.1 hp
  by_cases fj:i=j
  ·subst fj
   have hl:i<S.ph.length:=by
    have h3:=(bZ.1 hj).1;have h4:=hI.bz.len;have h5:=(hI.bz.step hs).len;omega
   have h6:S.ph[i]?=some S.ph[i]:=bB hl;have h7:=h2 _ (bU h6)
   rcases hq _ p h6 hj with h8 | ⟨h8,rfl⟩
   ·omega
   ·show 0≤B;omega
  ·rw[hs.other fj]at hj;exact h2 p (bU hj)
theorem Bd.go{L:List Nat}{S S':AS}{B:Nat}(hI:rp A b S)(hB:Bd A Us rk h B S)(hs:py A L S S'):Bd A Us rk h B S':=by
 induction hs with
 |nil=>exact hB
 |cons h _ ih=>exact ih (hI.step hb h) (Bd.step hr hh hI hB h)
theorem Bd.aiS{L:List Nat}{S S':AS}{B j:Nat}(hs:py A L S S'):rp A b S→S.aH≠0→nf A Us rk h S+11≤B+1→(∃p,S.ph[j]?=some p∧busy p)→11≤B→j∈L→Bd A Us rk h B S':=by
 induction hs with
 |nil=>intro _ _ _ _ _ h;cases h
 | @cons i L S S1 S2 h1 hs ih=>
  rintro hI hc hP ⟨p,hp,CN⟩ Qa hj;have P4:=hI.step hb h1;obtain⟨k1,k2⟩:=nf.step hr hh hI.ti hI.vi hI.bz h1
  by_cases iY:S1.aH=0
  ·exact Bd.go hb hr hh P4 (.inr ⟨iY,fun p _=>by have:=Wd p;omega⟩) hs
  ·by_cases fj:i=j
   ·subst fj;have:=k2 p hp CN;exact Bd.go hb hr hh P4 (.inl ⟨iY,by omega⟩) hs
   ·refine ih P4 iY (by omega) ⟨p,by rw[h1.other fj];exact hp,CN⟩ Qa ?_
    rcases dm.1 hj with rfl | hj
    ·exact absurd rfl fj
    ·exact hj
omit hr hh in
theorem Bd.ai2{L:List Nat}{S S':AS}{B:Nat}(hs:py A L S S'):∀(P:Nat→Prop),rp A b S→S.aH=0→(∀j p,S.ph[j]?=some p→sn p≤B∨(P j∧sn p≤B+1))→(∀j,j<A.k→P j→j∈L)→Bd A Us rk h B S':=by
 induction hs with
 |nil S=>
  intro P hI hc hP hL;refine .inr ⟨hc,fun p hp=>?_⟩;obtain⟨j,hj⟩:=lq.1 hp
  rcases hP j p hj with h1 | ⟨h1,h2⟩
  ·exact h1
  ·have:=hL j (by rw[← hI.bz.len];exact (bZ.1 hj).1) h1;cases this
 | @cons i L S S1 S2 h1 hs ih=>
  intro P hI hc hP hL;obtain⟨iY,hq⟩:=RN hI.bz hI.ti hc h1;refine ih (fun j=>P j∧j≠i) (hI.step hb h1) iY (fun j p hj=>?_) fun j hj oG=>?_
  ·by_cases fj:i=j
   ·subst fj
    have hl:i<S.ph.length:=by
     have h3:=(bZ.1 hj).1;have h4:=hI.bz.len;have h5:=(hI.bz.step h1).len;omega
    have h6:S.ph[i]?=some S.ph[i]:=bB hl
    rcases hq _ p h6 hj with h8 | ⟨h8,rfl⟩
    ·rcases hP i _ h6 with h9 | ⟨_,h9⟩ <;> exact .inl (by omega)
    ·exact .inl (bC _)
   ·rw[h1.other fj]at hj
    rcases hP j p hj with h9 | ⟨h9,AI⟩
    ·exact .inl h9
    ·exact .inr ⟨⟨h9,fun e=>fj e.symm⟩,AI⟩
  ·rcases dm.1 (hL j hj oG.1) with h2 | h2
   ·exact absurd h2 oG.2
   ·exact h2
theorem Bd.agC{L:List Nat}{S S':AS}{B:Nat}(hI:rp A b S)(hB:Bd A Us rk h (B+1) S)(hL:∀j,j<A.k→j∈L)(hs:py A L S S'):Bd A Us rk h B S':=by
 rcases hB with ⟨h1,h2⟩ | ⟨h1,h2⟩
 ·obtain⟨j,p,hp,CN⟩:=hI.bz.work hI.ti h1;have hj:j<A.k:=by rw[← hI.bz.len];exact (bZ.1 hp).1
  refine Bd.aiS hb hr hh hs hI h1 h2 ⟨p,hp,CN⟩ ?_ (hL j hj)
  have h3:1≤df A S.cell p:=by
   have hw:=W6 A;have hv:=hI.vi.ph _ (bU hp);have h5:=hI.bz.a5 _ (bU hp);cases p with
   |idle d a=>rw[show d=0 from CN];show 1≤6-a+1;omega
   |held v=>exact Nat.le_add_left _ _
   |clear v=>show 1≤W1 A+9+_;omega
   |read v y=>show 1≤_+(_+8);omega
   |join v o u r a ld ch=>show 1≤_+(_+8+_);omega
   |take v o u r=>show 1≤6+_+_;omega
   |add v o u r=>show 1≤5+_+_;omega
   |push v o u r a=>show 1≤_+(_+8);omega
   |dK v=>show 1≤8;omega
   |done=>exact CN.elim
  have h4:=zA (df A S.cell) S.ph j p hp;unfold nf at h2;omega
 ·exact Bd.ai2 hb hs (fun _=>True) hI h1 (fun j p hp=>.inr ⟨trivial,h2 p (bU hp)⟩) fun j hj _=>hL j hj
theorem Bd.U7{K B:Nat}:∀(m:Nat) {L:List Nat} {S S':AS},rp A b S→Bd A Us rk h (B+m) S→m*K≤L.length→(∀i,i+K≤L.length→∀j,j<A.k→j∈(L.drop i).take K)→py A L S S'→Bd A Us rk h B S'
 | 0,L,S,S',hI,hB,_,_,hs=>Bd.go hb hr hh hI hB hs
 |m+1,L,S,S',hI,hB,hl,hf,hs=>by
  rw[oH]at hl;rw[← y7 K L]at hs;obtain⟨S1,h1,h2⟩:=hs.split;have hf0:=hf 0 (by omega);rw[gR]at hf0;refine Bd.U7 (K:=K) m (hI.go hb h1) (Bd.agC hb hr hh hI hB hf0 h1) (by rw[CX];omega) (fun i hi j hj=>?_) h2;rw[CX]at hi;rw[CT];exact hf (K+i) (by omega) j hj
omit hb hr hh in
theorem Bd.zero{S:AS}(ht:TI A S)(hB:Bd A Us rk h 0 S):∀p∈S.ph,p=.done:=by
 rcases hB with ⟨h1,h2⟩ | ⟨h1,h2⟩
 ·omega
 ·intro p hp;have h3:=h2 p hp
  rcases (ht.quiet h1).2.1 p hp with ⟨d,a,rfl⟩ | rfl
  ·exfalso;simp only[sn]at h3;split at h3
   ·omega
   ·split at h3 <;> omega
  ·rfl
end
end SX
inductive AV where
 |int (k:IntKind) (n:Int)
 |bool (b:Bool)
 |str (s:ByteArray)
 |ah (e:Sh) (l:List e.T)
 |kX
 |gT
 |an
 |ae (b off len e:Nat)
 |cW
 |ptr (b off:Nat)
 |gq (cs:List AV)
 |agg (cs:List AV)
 |tup (vs:List AV)
 |iface (t:TypeId) (v:AV)
 |nilif
 |fn (f:Fn) (first cap:List AV)
 |jd
 |qk
 |gE (n:Int)
 |gk (n m:Int)
 |any
 |via (v:AV)
 |ob (b:Nat)
 |pf (l:List (Int×Int))
 |ou (b:Nat)
 |tc (m c:Nat) (seen:List Nat)
 |nm (L:Loop) (t:Nat→AV)
abbrev Hp:Type:=List (Nat×List AV)
abbrev Tm:Type:=Nat→AV
def Sh.cells:(s:Sh)→s.T→List AV
 |.int k,(n:Int)=>[.int k n]
 |.bool,(b:Bool)=>[.bool b]
 |.str,(s:ByteArray)=>[.str s]
 |.slice e,(l:List e.T)=>[.ah e l]
 |.nil,_=>[]
 |.field f r,(d:f.T×r.T)=>f.cells d.1++r.cells d.2
def AV.leaf:AV→Bool
 |.agg _ | .tup _ | .any | .pf _ | .tc _ _ _ | .nm _ _=>false
 |_=>true
def AV.cells?:AV→Option (List AV)
 |.agg cs=>some cs
 |.tup _ | .any | .pf _ | .tc _ _ _ | .nm _ _=>none
 |v=>some [v]
inductive TK where
 |int (k:IntKind) | bool | str | slice (e:TypeId) | ptr (e:TypeId) | bA (fs:List (Nat×TypeId)) | arr (n:Nat) (e:TypeId) | iface | func | map (k e:TypeId) | gE | gk | other
structure TI where
 k:TK
 size:Nat
 bytes:Nat
 zero:List AV
def TI.wide(i:TI):Bool:=match i.k with | .bA _ | .arr _ _=>true | _=>false
def BD:Value→AV
 |.int k n=>.int k n
 |.bool b=>.bool b
 |.string s=>.str s
 |.pointer none=>.cW
 |.slice none 0 0=>.an
 |.nilIface=>.nilif
 |.nilFunc=>.jd
 |.map none=>.qk
 |_=>.any
def Xg:Value→AV
 |.agg cs=>match (cs.toList.map BD).all AV.leaf with | true=>.agg (cs.toList.map BD) | false=>.any
 |.tuple vs=>match vs.toList with | []=>.tup [] | _=>.any
 |v=>BD v
def ev(t:Tm):Operand→AV
 |.tmp i=>t i
 |.const v=>Xg v
 |.global _=>.any
 |.func f=>.fn (.func f) [] []
def put(t:Tm)(d:Option Tmp)(v:AV):Tm:=
 match d with
 |none=>t
 |some d=>fun i=>match Nat.beq i d with | true=>v | false=>t i
def E2(b:Bool)(A B:Prop):Prop:=match b with | true=>A | false=>B
theorem dX{b:Bool}{A B:Prop}(h1:b=true→A)(h2:b=false→B):E2 b A B:=by cases b;exact h2 rfl;exact h1 rfl
theorem ao{p:Prop}[Decidable p]{A B:Prop}(h1:p→A)(h2:¬p→B):E2 (decide p) A B:=by
 by_cases h:p
 ·simp only[h,decide_true];exact h1 h
 ·simp only[h,decide_false];exact h2 h
theorem LM{b:Bool}{A B:Prop}(h:b=true)(h1:A):E2 b A B:=by subst h;exact h1
theorem Zy{b:Bool}{A B:Prop}(h:b=false)(h1:B):E2 b A B:=by subst h;exact h1
def strict(v:AV)(K:AV→Prop):Prop:=
 match v with
 |.int k n=>K (.int k n)
 |.bool b=>K (.bool b)
 |.str s=>K (.str s)
 |.ah e l=>K (.ah e l)
 |.kX=>K .kX
 |.gT=>K .gT
 |.an=>K .an
 |.ae b o l e=>K (.ae b o l e)
 |.cW=>K .cW
 |.ptr b o=>K (.ptr b o)
 |.gq cs=>K (.gq cs)
 |.agg cs=>K (.agg cs)
 |.tup vs=>K (.tup vs)
 |.iface t v=>K (.iface t v)
 |.nilif=>K .nilif
 |.fn f a c=>K (.fn f a c)
 |.jd=>K .jd
 |.qk=>K .qk
 |.gE n=>K (.gE n)
 |.gk n m=>K (.gk n m)
 |.any=>K .any
 |.via v=>K (.via v)
 |.ob b=>K (.ob b)
 |.pf l=>K (.pf l)
 |.ou b=>K (.ou b)
 |.tc m c s=>K (.tc m c s)
 |.nm L t=>K (.nm L t)
theorem zp(v:AV)(K:AV→Prop):strict v K=K v:=by cases v <;> rfl
def bR:AV→AV
 |.via v=>v
 |v=>v
structure aJ(p:Prop)(X:Prop):Prop where
 fact:p
 go:X
def ei(i:TI)(cs:List AV)(off:Nat):Option AV:=
 match i.wide with
 |true=>match Nat.ble (off+i.size) cs.length with | true=>some (.agg ((cs.drop off).take i.size)) | false=>none
 |false=>cs[off]?
def fx(cs:List AV)(off:Nat):List AV→List AV
 | []=>cs
 |v::r=>fx (cs.set off v) (off+1) r
def kO(i:TI)(cs:List AV)(off:Nat)(v:AV):Option (List AV):=
 match v.cells? with
 |some vs=>match Nat.beq vs.length i.size,Nat.ble (off+i.size) cs.length with | true,true=>some (fx cs off vs) | _,_=>none
 |none=>none
inductive fg(i:TI)(σ:Hp)(b o:Nat)(K:AV→Prop):Prop where
 |mk (j:Nat) (cs:List AV) (v:AV) (h1:σ[j]?=some (b,cs)) (h2:ei i cs o=some v) (go:K v)
inductive IE(i:TI)(σ:Hp)(b o:Nat)(v:AV)(K:Hp→Prop):Prop where
 |mk (j:Nat) (cs cs':List AV) (h1:σ[j]?=some (b,cs)) (h2:kO i cs o v=some cs') (go:K (σ.set j (b,cs')))
theorem aW{i:TI}{σ:Hp}{b o:Nat}{K:AV→Prop}(j:Nat){cs:List AV}{v:AV}(h1:σ[j]?=some (b,cs))(h2:ei i cs o=some v)(go:K v):fg i σ b o K:=.mk j cs v h1 h2 go
theorem cU{i:TI}{σ:Hp}{b o:Nat}{v:AV}{K:Hp→Prop}(j:Nat){cs cs':List AV}(h1:σ[j]?=some (b,cs))(h2:kO i cs o v=some cs')(go:K (σ.set j (b,cs'))):IE i σ b o v K:=.mk j cs cs' h1 h2 go
theorem aa{i:TI}{σ:Hp}{b o:Nat}{K:AV→Prop}(j:Nat){cs:List AV}{v:AV}(go:K v)(h1:σ[j]?=some (b,cs):=by exact rfl)(h2:ei i cs o=some v:=by exact rfl):fg i σ b o K:=.mk j cs v h1 h2 go
theorem aj{i:TI}{σ:Hp}{b o:Nat}{v:AV}{K:Hp→Prop}(j:Nat){cs cs':List AV}(go:K (σ.set j (b,cs')))(h1:σ[j]?=some (b,cs):=by exact rfl)(h2:kO i cs o v=some cs':=by exact rfl):IE i σ b o v K:=.mk j cs cs' h1 h2 go
theorem bf{p q r s X:Prop}(go:X)(h1:p:=by omega)(h2:q:=by omega)(h3:r:=by omega)(h4:s:=by decide):aJ (p∧q∧r∧s) X:=.mk ⟨h1,h2,h3,h4⟩ go
theorem aO{p q r X:Prop}(go:X)(h1:p:=by exact rfl)(h2:q:=by omega)(h3:r:=by omega):aJ (p∧q∧r) X:=.mk ⟨h1,h2,h3⟩ go
theorem dZ{p X:Prop}(go:X)(h1:p:=by omega):aJ p X:=.mk h1 go
inductive bO{α:Type}(l:List α)(n:Int)(K:α→Prop):Prop where
 |mk (x:α) (h0:0≤n) (h1:l[n.toNat]?=some x) (go:K x)
def s8(Wj:List (Nat×Nat))(cs:List AV):List (Nat×AV)→Option (List AV)
 | []=>some cs
 |(i,v)::r=>match Wj[i]?,v.cells? with
  |some (off,size),some vs=>match Nat.beq vs.length size,Nat.ble (off+size) cs.length with | true,true=>s8 Wj (fx cs off vs) r | _,_=>none
  |_,_=>none
def cI(z:List AV):Nat→List AV
 | 0=>[]
 |n+1=>z++cI z n
section
variable (P:Program) (TT:TypeId→Option TI)
def Ec:List (Nat×TypeId)→Option (List (Nat×Nat))
 | []=>some []
 |(off,t)::r=>match TT t,Ec r with | some i,some ps=>some ((off,i.size)::ps) | _,_=>none
def IY(t:TypeId)(parts:List (Nat×AV)):Option AV:=
 match TT t with
 |some ⟨.bA fs,_,_,z⟩=>match Ec TT fs with | some ps=>(s8 ps z parts).map .agg | none=>none
 |some ⟨.arr n e,_,_,z⟩=>match TT e with | some i=>(s8 ((List.range n).map fun j=>(j*i.size,i.size)) z parts).map .agg | none=>none
 |_=>none
def qX(i:TI)(a:AV)(σ:Hp)(K:AV→Prop):Prop:=
 match a with
 |.gq cs=>match ei i cs 0 with | some v=>K v | none=>False
 |.ptr b o=>fg i σ b o K
 |_=>False
def pt(b:Bool)(K:AV→Prop):Prop:=E2 b (K (.bool true)) (K (.bool false))
def BP(k:TK)(want:Bool)(x y:AV)(K:AV→Prop):Prop:=
 match k,x,y with
 |.ptr _,.cW,.cW=>K (.bool want)
 |.ptr _,.ptr _ _,.cW=>K (.bool !want)
 |.ptr _,.gq _,.cW=>K (.bool !want)
 |.slice _,.an,.an=>K (.bool want)
 |.slice _,.ae _ _ _ _,.an=>K (.bool !want)
 |.slice _,.gT,.an=>K (.bool !want)
 |.slice _,.ah _ l,.an=>aJ (0<l.length) (K (.bool !want))
 |.iface,.nilif,.nilif=>K (.bool want)
 |.iface,.iface _ _,.nilif=>K (.bool !want)
 |.func,.jd,.jd=>K (.bool want)
 |.func,.fn _ _ _,.jd=>K (.bool !want)
 |_,_,_=>False
def Vt:Operand→Bool
 |.const _=>true
 |_=>false
def JC(op:BinOp)(k:IntKind)(a b:Int)(K:AV→Prop):Prop:=
 match op with
 |.add=>K (.int k (k.wrap (a+b)))
 |.sub=>K (.int k (k.wrap (a-b)))
 |.mul=>K (.int k (k.wrap (a*b)))
 |.quo=>aJ (b≠0) (K (.int k (k.wrap (a.tdiv b))))
 |.rem=>aJ (b≠0) (K (.int k (a.tmod b)))
 |.and | .or | .xor | .andNot=>K (.int k (bits op k a b))
 |.eql=>pt (decide (a=b)) K
 |.neq=>pt (!decide (a=b)) K
 |.lss=>pt (decide (a<b)) K
 |.leq=>pt (decide (a≤b)) K
 |.gtr=>pt (decide (b<a)) K
 |.geq=>pt (decide (b≤a)) K
 |_=>False
def IH(op:BinOp)(k:IntKind)(a b:Int)(K:AV→Prop):Prop:=
 match op with
 |.shl=>aJ (0≤b) (K (.int k (k.wrap (a*2 ^ (min b.toNat k.bits)))))
 |.shr=>aJ (0≤b) (K (.int k (a.fdiv (2 ^ (min b.toNat k.bits)))))
 |_=>False
def Fz(op:BinOp)(t:TypeId)(y0:Operand)(x y:AV)(K:AV→Prop):Prop:=
 match x,y with
 |.int k a,.int k' b=>match op with
  |.shl | .shr=>IH op k a b K
  |_=>match decide (k=k') with | true=>JC op k a b K | false=>False
 |.bool a,.bool b=>match TT t with
  |some ⟨.bool,_,_,_⟩=>(match op with | .eql=>pt (a == b) K | .neq=>pt (!(a == b)) K | _=>False)
  |_=>False
 |.str a,.str b=>match op with | .eql=>pt (a.toList == b.toList) K | .neq=>pt (!(a.toList == b.toList)) K | _=>False
 |x,y=>match Vt y0,TT t with
  |true,some i=>(match op with | .eql=>BP i.k true x y K | .neq=>BP i.k false x y K | _=>False)
  |_,_=>False
def ah8:AV→AV→Bool
 |.int _ a,.int _ b=>decide (a=b)
 |.bool a,.bool b=>a == b
 |.str a,.str b=>a.toList == b.toList
 |_,_=>false
def uA(xs ys:List AV):List Bool:=List.zipWith ah8 xs ys
def fW(l:List Bool):Bool:=l.all id
def JM(TT:TypeId→Option TI)(rec:TypeId→AV→AV→Option (List Bool))(xs ys:List AV):List Field→Option (List Bool)
 | []=>some []
 | f :: fs => match f.name == "_", TT f.type with
  |false,some i=>match ei i xs f.offset,ei i ys f.offset with
   |some a,some b=>match rec f.type a b,JM TT rec xs ys fs with | some l,some l'=>some (l++l') | _,_=>none
   |_,_=>none
  |_,_=>none
def JL(TT:TypeId→Option TI)(rec:TypeId→AV→AV→Option (List Bool))(e:TypeId)(c:Nat)(xs ys:List AV):List Nat→Option (List Bool)
 | []=>some []
 |k::ks=>match TT e with
  |some i=>match ei i xs (k*c),ei i ys (k*c) with
   |some a,some b=>match rec e a b,JL TT rec e c xs ys ks with | some l,some l'=>some (l++l') | _,_=>none
   |_,_=>none
  |none=>none
def AU(P:Program)(TT:TypeId→Option TI):Nat→TypeId→AV→AV→Option (List Bool)
 | 0,_,_,_=>none
 |d+1,t,x,y=>match P.underlying t,x,y with
  |some .bool,.bool a,.bool b=>some [a == b]
  |some (.int _),.int k a,.int k' b=>(match decide (k=k') with | true=>some [decide (a=b)] | false=>none)
  |some .string,.str a,.str b=>some [a.toList == b.toList]
  |some (.struct fs),.agg xs,.agg ys=>(match P.stoodInHeld t with | true=>none | false=>JM TT (AU P TT d) xs ys fs.toList)
  |some (.array n e),.agg xs,.agg ys=>(match TT e with | some _=>JL TT (AU P TT d) e (P.cellsOf e) xs ys (List.range n) | none=>none)
  |_,_,_=>none
inductive EqAt(P:Program)(TT:TypeId→Option TI)(t:TypeId)(xs ys:List AV)(K:Bool→Prop):Prop where
 |mk (h1:P.eqGuardType P.depth t=false) (h2:AU P TT 8 t (.agg xs) (.agg ys)=some (uA xs ys)) (go:K (fW (uA xs ys))):EqAt P TT t xs ys K
def iF(n:Int):Prop:=n.natAbs<9007199254740992
def OU(op:BinOp)(a b c d:Int)(K:AV→Prop):Prop:=
 match op with
 |.add=>aJ (iF (a+c)∧iF (b+d)) (K (.gk (a+c) (b+d)))
 |.sub=>aJ (iF (a-c)∧iF (b-d)) (K (.gk (a-c) (b-d)))
 |.mul=>aJ ((iF (a*c)∧iF (b*d)∧iF (a*c-b*d))∧iF (a*d)∧iF (b*c)∧iF (a*d+b*c)) (K (.gk (a*c-b*d) (a*d+b*c)))
 |_=>False
def E0(x y:AV)(K:AV→Prop):Prop:=match x,y with | .gE a,.gE b=>K (.gk a b) | _,_=>False
def EJ(x:AV)(K:AV→Prop):Prop:=match x with | .gk a _=>K (.gE a) | _=>False
def EP(x:AV)(K:AV→Prop):Prop:=match x with | .gk _ b=>K (.gE b) | _=>False
def FA(P:Program)(TT:TypeId→Option TI)(op:BinOp)(t:TypeId)(y0:Operand)(x y:AV)(K:AV→Prop):Prop:=
 match x,y with
 |.agg xs,.agg ys=>match op with
  |.eql=>EqAt P TT t xs ys fun b=>pt b K
  |.neq=>EqAt P TT t xs ys fun b=>pt (!b) K
  |_=>False
 |.gk a b,.gk c d=>OU op a b c d K
 |x,y=>Fz TT op t y0 x y K
def FG(op:UnOp)(x:AV)(K:AV→Prop):Prop:=
 match op,x with
 |.not,.bool b=>K (.bool !b)
 |.neg,.int k n=>K (.int k (k.wrap (0-n)))
 |.xor,.int k n=>K (.int k (bits .xor k (if k.signed then -1 else k.max) n))
 |.neg,.gE n=>K (.gE (-n))
 |_,_=>False
def E1(s d:TypeId)(x:AV)(K:AV→Prop):Prop:=
 match TT s,TT d,x with
 |some _,some ⟨.int k,_,_,_⟩,.int _ n=>K (.int k (k.wrap n))
 |some _,some ⟨.gE,_,_,_⟩,.int _ n=>aJ (iF n) (K (.gE n))
 |some _,some ⟨.int k,_,_,_⟩,.gE n=>aJ (k.min≤n∧n≤k.max) (K (.int k n))
 |_,_,_=>False
def uw:Option AV→Option Int
 |none=>some 0
 |some (.int _ n)=>some n
 |_=>none
def BU(len:Nat):Option AV→Option Int
 |none=>some len
 |some (.int _ n)=>some n
 |_=>none
def BC(t:TypeId)(x:AV)(lo hi mx:Option AV)(K:AV→Prop):Prop:=
 match TT t,mx with
 |some ⟨.slice e,_,_,_⟩,none=>match TT e,x with
  |some i,.ae b off len es=>match uw lo,BU len hi with
   |some l,some h=>aJ (0≤l∧l≤h∧h≤len∧i.size=es) (K (.ae b (off+l.toNat*es) (h.toNat-l.toNat) es))
   |_,_=>False
  |some i,.ah s xs=>match uw lo,BU xs.length hi with
   |some l,some h=>aJ (0≤l∧l≤h∧h≤xs.length∧i.size=s.size) (K (.ah s ((xs.drop l.toNat).take (h.toNat-l.toNat))))
   |_,_=>False
  |some _,.an=>match uw lo,BU 0 hi with
   |some l,some h=>aJ (0≤l∧l≤h∧h≤(0:Nat)) (K .an)
   |_,_=>False
  |_,_=>False
 |some ⟨.slice e,_,_,_⟩,some (.int _ m)=>match TT e,x,hi with
  |some i,.ae b off len es,some (.int _ h)=>match uw lo with
   |some l=>aJ (0≤l∧l≤h∧h≤m∧m≤len∧i.size=es) (K (.ae b (off+l.toNat*es) (h.toNat-l.toNat) es))
   |_=>False
  |_,_,_=>False
 |_,_=>False
def Dm(t:TypeId)(x ix:AV)(K:AV→Prop):Prop:=
 match TT t,ix with
 |some ⟨.slice e,_,_,_⟩,.int _ n=>match TT e,x with
  |some i,.ah s l=>aJ (i.size=s.size) (bO l n fun d=>K (.gq (s.cells d)))
  |some i,.ae b off len es=>aJ (i.size=es∧0≤n∧n<len) (K (.ptr b (off+n.toNat*es)))
  |_,_=>False
 |some ⟨.arr m e,_,_,_⟩,.int _ n=>match TT e,x with
  |some i,.ptr b o=>aJ (0≤n∧n<m) (K (.ptr b (o+n.toNat*i.size)))
  |some i,.gq cs=>aJ (0≤n∧n<m) (K (.gq (cs.drop (n.toNat*i.size))))
  |_,_=>False
 |_,_=>False
def getM:List (Int×Int)→Int→Option Int
 | [],_=>none
 |p::l,n=>if p.1=n then some p.2 else getM l n
def si:List (Int×Int)→Int→Int→List (Int×Int)
 | [],n,x=>[(n,x)]
 |p::l,n,x=>if p.1=n then (n,x)::l else p::si l n x
inductive Ju(σ:Hp)(m:AV)(K:Nat→Nat→List (Int×Int)→Prop):Prop where
 |mk (j b:Nat) (l:List (Int×Int)) (hm:m=.ob b) (h1:σ[j]?=some (b,[.pf l])) (go:K j b l):Ju σ m K
def Cd(t:TypeId):Option Int:=match TT t with
 |some ⟨.map k e,_,_,_⟩=>(match TT k,TT e with | some ⟨.int .i64,_,_,_⟩,some ⟨.int .i64,_,_,[.int .i64 z]⟩=>some z | _,_=>none)
 |_=>none
def Eh(t:TypeId)(m k:AV)(c:Bool)(σ:Hp)(K:AV→Prop):Prop:=
 match Cd TT t,k with
 |some z,.int .i64 n=>Ju σ m fun _ _ l=>(match c with | true=>K (.tup [.int .i64 ((getM l n).getD z),.bool (getM l n).isSome]) | false=>K (.int .i64 ((getM l n).getD z)))
 |_,_=>False
def Dq(s:TypeId)(x:AV)(f:Nat)(K:AV→Prop):Prop:=
 match TT s with
 |some ⟨.bA fs,_,_,_⟩=>match fs[f]? with
  |some (off,t)=>match TT t with
   |some i=>match Nat.blt 0 i.size,x with
    |true,.ptr b o=>K (.ptr b (o+off))
    |true,.gq cs=>K (.gq (cs.drop off))
    |_,_=>False
   |none=>False
  |none=>False
 |_=>False
def EA(s:TypeId)(x:AV)(f:Nat)(K:AV→Prop):Prop:=
 match TT s,x with
 |some ⟨.bA fs,_,_,_⟩,.agg cs=>match fs[f]? with
  |some (off,t)=>match TT t with | some i=>(match ei i cs off with | some v=>K v | none=>False) | none=>False
  |none=>False
 |_,_=>False
def Fh(k:TK)(x:AV)(K:AV→Prop):Prop:=
 match k,x with
 |.slice _,.ah _ l=>K (.int .i64 l.length)
 |.slice _,.ae _ _ len _=>K (.int .i64 len)
 |.slice _,.an=>K (.int .i64 0)
 |.slice _,.kX=>K (.int .i64 0)
 |.slice _,.gT=>K (.int .i64 0)
 |_,_=>False
def Fy(k:TK)(x:AV)(K:AV→Prop):Prop:=
 match k,x with
 |.slice _,.an=>K (.int .i64 0)
 |.slice _,.kX=>K (.int .i64 0)
 |_,_=>False
def Fc(xs:List AV)(K:AV→Prop):Prop:=
 match xs with
 | [.int k a,.int k' b]=>match decide (k=k') with | true=>K (.int k (if b<a then b else a)) | false=>False
 |_=>False
def Fe(xs:List AV)(K:AV→Prop):Prop:=
 match xs with
 | [.int k a,.int k' b]=>match decide (k=k') with | true=>K (.int k (if a<b then b else a)) | false=>False
 |_=>False
def AheadOk(t:TypeId)(m:String):Prop:=∀(a:Addr) (w:World),(nilAhead (P.types.size+Made.depth) t (.pointer (some a)) m).run P w=.ok (some false) w
inductive fH(t:TypeId)(m:String)(X:Prop):Prop where
 |mk (h:AheadOk P t m) (go:X):fH t m X
def fX(op:Op)(ρ:Operand→AV)(σ:Hp)(K:AV→Prop):Prop:=
 match op with
 |.move x | .assign x=>strict (ρ x) K
 |.pick c a b=>match ρ c with | .bool x=>(match x with | true=>strict (ρ a) K | false=>strict (ρ b) K) | _=>False
 |.build t parts=>match IY TT t (parts.toList.map fun p=>(p.1,ρ p.2)) with | some v=>K v | none=>False
 |.load t a=>match TT t with | some i=>qX i (ρ a) σ K | none=>False
 |.nilCheck x=>match ρ x with | .ptr b o=>K (.ptr b o) | .gq cs=>K (.gq cs) | .fn (.func f) a c=>K (.fn (.func f) a c) | .fn (.method m) [.iface t (.ptr b o)] c=>fH P t m (K (.fn (.method m) [.iface t (.ptr b o)] c)) | .iface t v=>K (.iface t v) | _=>False
 |.binOp op t x y _=>FA P TT op t y (bR (ρ x)) (bR (ρ y)) K
 |.unOp op _ x=>FG op (ρ x) K
 |.convert s d x=>E1 TT s d (ρ x) K
 |.makeInterface t x=>match TT t with | some ⟨.iface,_,_,_⟩=>False | some _=>K (.iface t (ρ x)) | none=>False
 |.makeFunc f first cap=>K (.fn f (first.toList.map ρ) (cap.toList.map ρ))
 |.slice t x lo hi mx=>BC TT t (bR (ρ x)) (lo.map fun x=>bR (ρ x)) (hi.map fun x=>bR (ρ x)) (mx.map fun x=>bR (ρ x)) K
 |.fieldAddr s x f=>Dq TT s (ρ x) f K
 |.field s x f=>EA TT s (ρ x) f K
 |.indexAddr t x ix=>Dm TT t (bR (ρ x)) (bR (ρ ix)) K
 |.typeAssert x _ t ok=>match ok,TT t,ρ x with
  |true,some ⟨.ptr _,_,_,[.cW]⟩,.iface t' v=>(match Nat.beq t' t with | true=>K (.tup [v,.bool true]) | false=>K (.tup [.cW,.bool false]))
  |true,some ⟨.ptr _,_,_,[.cW]⟩,.nilif=>K (.tup [.cW,.bool false])
  |_,_,_=>False
 |.lookup t m k c=>Eh TT t (bR (ρ m)) (bR (ρ k)) c σ K
 |.extract x i=>match ρ x with | .tup vs=>(match vs[i]? with | some v=>K v | none=>False) | _=>False
 |.call ⟨.builtin .len,args,cD⟩=>match args.toList,cD.toList with | [x],[t]=>(match TT t with | some i=>Fh i.k (bR (ρ x)) K | none=>False) | _,_=>False
 |.call ⟨.builtin .min,args,_⟩=>match args.toList with | [x,y]=>Fc [ρ x,ρ y] K | _=>False
 |.call ⟨.builtin .max,args,_⟩=>match args.toList with | [x,y]=>Fe [ρ x,ρ y] K | _=>False
 |.call ⟨.builtin .complex,args,_⟩=>match args.toList with | [x,y]=>E0 (ρ x) (ρ y) K | _=>False
 |.call ⟨.builtin .real,args,_⟩=>match args.toList with | [x]=>EJ (ρ x) K | _=>False
 |.call ⟨.builtin .imag,args,_⟩=>match args.toList with | [x]=>EP (ρ x) K | _=>False
 |.call ⟨.builtin .cap,args,cD⟩=>match args.toList,cD.toList with | [x],[t]=>(match TT t with | some i=>Fy i.k (bR (ρ x)) K | none=>False) | _,_=>False
 |_=>False
end
end Go.Proofs.YtnikdflhefijbaaGreat
namespace Go.Proofs.YtnikdflhefijbaaGreat
open Ieee
def o6(d:Datum)(N:Int):Prop:=∃s m p,d=.number s m p∧m*2 ^ p.toNat=N.natAbs*2 ^ (-p).toNat∧(N≠0→s=decide (N<0))
theorem Bs(m k:Nat):m <<< k=m*2 ^ k:=Nat.shiftLeft_eq m k
theorem ZM(s:Bool)(m u:Nat):(signed s m u).natAbs=m*2 ^ u:=by
 unfold signed;rw[Bs];split
 ·rw[Int.natAbs_neg,KV]
 ·rw[KV]
theorem LV{m A:Nat}{p base:Int}(h:m*2 ^ p.toNat=A*2 ^ (-p).toNat)(hb:base≤p):m*2 ^ (p-base).toNat*2 ^ base.toNat=A*2 ^ (-base).toNat:=by
 rcases Gy base 0 with h0 | h0
 ·rcases Gy p 0 with h1 | h1
  ·have e1:p.toNat=0:=by omega
   have e2:base.toNat=0:=by omega
   rw[e1,tN,dS]at h;rw[e2,tN,dS,h,xq,← sI]
   congr 2;omega
  ·have e1:(-p).toNat=0:=by omega
   have e2:base.toNat=0:=by omega
   have e3:(p-base).toNat=p.toNat+(-base).toNat:=by omega
   rw[e1,tN,dS]at h;rw[e2,tN,dS,e3,sI,← xq,h]
 ·have e1:(-p).toNat=0:=by omega
  have e2:(-base).toNat=0:=by omega
  rw[e1,tN,dS]at h;rw[e2,tN,dS,xq,← sI,← h]
  congr 2;omega
theorem LA{s:Bool}{m u:Nat}{N:Int}{A B:Nat}(h:m*2 ^ u*A=N.natAbs*B)(hs:N≠0→s=decide (N<0))(hA:0<A):signed s m u*(A:Int)=N*(B:Int):=by
 have h':((m*2 ^ u:Nat):Int)*(A:Int)=(N.natAbs:Int)*(B:Int):=by exact_mod_cast h
 by_cases h0:N=0
 ·subst h0
  have hm:m*2 ^ u=0:=by
   have:m*2 ^ u*A=0:=by rw[h];simp
   rcases Nat.mul_eq_zero.1 this with h1 | h1
   ·exact h1
   ·omega
  have:signed s m u=0:=Int.natAbs_eq_zero.1 (by rw[ZM,hm]);rw[this];simp
 ·have hs:=hs h0;subst hs;unfold signed;rw[Bs]
  by_cases hn:N<0
  ·rw[bu hn,af rfl,Int.neg_mul,h',← Int.neg_mul]
   congr 1;omega
  ·rw[cf hn,ag (by decide),h']
   congr 1;omega
theorem qK(k:Nat):0<2 ^ k:=CV k
theorem SZ{d e:Datum}{N M:Int}(hd:o6 d N)(he:o6 e M):∃x,d.sum e=some x∧o6 x (N+M):=by
 obtain⟨s,m,i,rfl,h1,h2⟩:=hd;obtain⟨t,n,j,rfl,h3,h4⟩:=he;refine⟨_,rfl,_,_,_,rfl,?_,?_⟩
 all_goals
  have e1:=LA (LV h1 (Int.min_le_left i j)) h2 (qK _);have e2:=LA (LV h3 (Int.min_le_right i j)) h4 (qK _);have e3:(signed s m (i-min i j).toNat+signed t n (j-min i j).toNat)*((2 ^ (min i j).toNat:Nat):Int)=(N+M)*((2 ^ (-(min i j)).toNat:Nat):Int):=by rw[Int.add_mul,e1,e2,Int.add_mul]
 ·have:=congrArg Int.natAbs e3;rw[KI,KI,KV,KV]at this;exact this
 ·intro aS;generalize signed s m (i-min i j).toNat+signed t n (j-min i j).toNat=T at e3;have hp:=qK (min i j).toNat;have hq:=qK (-(min i j)).toNat;generalize (2:Nat) ^ (min i j).toNat=P at e3 hp;generalize (2:Nat) ^ (-(min i j)).toNat=Q at e3 hq
  have hT:T≠0:=by
   intro h0;rw[h0,Int.zero_mul]at e3
   rcases Int.mul_eq_zero.1 e3.symm with h5 | h5
   ·exact aS h5
   ·omega
  rw[ag hT];refine decide_eq_decide.2 ⟨fun h=>?_,fun h=>?_⟩
  ·have:T*(P:Int)<0:=Qm h (by omega);rw[e3]at this
   rcases Gy (N+M) 0 with h5 | h5
   ·exact h5
   ·have:=Int.mul_nonneg h5 (show (0:Int)≤Q by omega);omega
  ·have:(N+M)*(Q:Int)<0:=Qm h (by omega);rw[← e3]at this
   rcases Gy T 0 with h5 | h5
   ·exact h5
   ·have:=Int.mul_nonneg h5 (show (0:Int)≤P by omega);omega
theorem S3{d:Datum}{N:Int}(h:o6 d N):o6 d.opposite (-N):=by
 obtain⟨s,m,p,rfl,h1,h2⟩:=h;refine⟨_,_,_,rfl,by rw[Int.natAbs_neg];exact h1,fun aS=>?_⟩;rw[h2 (by omega)]
 by_cases hn:N<0
 ·rw[bu hn,cf (by omega)];rfl
 ·rw[cf hn,bu (by omega)];rfl
theorem Z4{d e:Datum}{N M:Int}(hd:o6 d N)(he:o6 e M):∃x,d.product e=some x∧o6 x (N*M):=by
 obtain⟨s,m,i,rfl,h1,h2⟩:=hd;obtain⟨t,n,j,rfl,h3,h4⟩:=he;refine⟨_,rfl,_,_,_,rfl,?_,fun aS=>?_⟩
 ·rw[KI];have h5:(m*2 ^ i.toNat)*(n*2 ^ j.toNat)=(N.natAbs*2 ^ (-i).toNat)*(M.natAbs*2 ^ (-j).toNat):=by rw[h1,h3]
  obtain⟨c,iY,nH⟩:∃c,i.toNat+j.toNat=(i+j).toNat+c∧(-i).toNat+(-j).toNat=(-(i+j)).toNat+c:=⟨i.toNat+j.toNat-(i+j).toNat,by omega,by omega⟩
  have e1:(m*2 ^ i.toNat)*(n*2 ^ j.toNat)=(m*n*2 ^ (i+j).toNat)*2 ^ c:=by
   rw[xq (m*n),← sI,← iY,sI];ac_rfl
  have e2:(N.natAbs*2 ^ (-i).toNat)*(M.natAbs*2 ^ (-j).toNat)=(N.natAbs*M.natAbs*2 ^ (-(i+j)).toNat)*2 ^ c:=by
   rw[xq (N.natAbs*M.natAbs),← sI,← nH,sI];ac_rfl
  rw[e1,e2]at h5;exact Nat.eq_of_mul_eq_mul_right (qK c) h5
 ·have hN:N≠0:=fun h=>aS (by rw[h,Int.zero_mul]);have hM:M≠0:=fun h=>aS (by rw[h,Int.mul_zero]);rw[h2 hN,h4 hM]
  rcases Int.lt_or_gt_of_ne hN with a | a <;> rcases Int.lt_or_gt_of_ne hM with b | b
  ·have:=Int.mul_pos_of_neg_of_neg a b;rw[bu a,bu b,cf (by omega)];rfl
  ·have:=Qm a b;rw[bu a,cf (by omega),bu this];rfl
  ·have:=Int.mul_neg_of_pos_of_neg a b;rw[cf (by omega),bu b,bu this];rfl
  ·have:=Int.mul_pos a b;rw[cf (by omega),cf (by omega),cf (by omega)];rfl
theorem Lr{A k:Nat}(h:A≠0):(A*2 ^ k).log2=A.log2+k:=by
 have aS:A*2 ^ k≠0:=Nat.mul_ne_zero h (K0.1 (qK k));refine (GF aS).2 ⟨?_,?_⟩
 ·rw[sI];exact jm _ ((GF h).1 rfl).1
 ·rw[show A.log2+k+1=A.log2+1+k by omega,sI];exact Nat.mul_lt_mul_of_pos_right ((GF h).1 rfl).2 (qK k)
theorem L8(iq:Toward)(neg:Bool){A k:Nat}(h:A≠0):iq.cut neg (A*2 ^ k) k=A:=by
 have jg:min k ((A*2 ^ k).log2+2)=k:=by rw[Lr h];omega
 unfold Toward.cut;dsimp only;rw[jg,Bs,Gx,Nat.mul_div_cancel _ (qK k),Nat.mul_mod_left];cases iq
 ·have h1:¬2 ^ k<2*0:=by simp
  have h2:((2 ^ k:Nat) == 2*0)=false:=by
   have:=qK k;simp
  simp[h2]
 ·cases neg <;> rfl
 ·cases neg <;> rfl
 ·rfl
theorem adT(iq:Toward)(neg:Bool)(k:Nat):iq.cut neg 0 k=0:=by
 unfold Toward.cut;dsimp only;have jg:1 <<< min k ((0:Nat).log2+2)≠0:=by rw[Bs,Gx];exact K0.1 (qK _)
 generalize (1:Nat) <<< min k ((0:Nat).log2+2)=g at jg;rw[Nat.zero_div,Nat.zero_mod];cases iq
 ·have h2:(g == 2*0)=false:=by simpa using jg
  simp[h2]
 ·cases neg <;> rfl
 ·cases neg <;> rfl
 ·rfl
theorem Zl{d:Datum}{N:Int}(h:o6 d N):d.toInt .zero=some N:=by
 obtain⟨s,m,p,rfl,h1,h2⟩:=h
 have e:Toward.zero.cut s (m <<< p.toNat) (-p).toNat=N.natAbs:=by
  rw[Bs,h1]
  by_cases h0:N=0
  ·subst h0;rw[KL,vC];exact adT _ _ _
  ·exact L8 _ _ (by omega)
 show some (signed s (Toward.zero.cut s (m <<< p.toNat) (-p).toNat) 0)=some N;rw[e]
 congr 1
 have:=LA (s:=s) (m:=N.natAbs) (u:=0) (N:=N) (A:=1) (B:=1) (by simp) h2 (by decide);simpa using this
theorem aaw(s:Bool){rung:Nat}(h:rung<2 ^ 63):(double.word s rung / double.signWeight % 2 == 1)=s∧double.word s rung % double.signWeight=rung:=by
 have hw:double.signWeight=9223372036854775808:=by decide
 have h':rung<9223372036854775808:=h;unfold Format.word;rw[hw];cases s
 ·rw[ag (by decide)];refine⟨?_,by omega⟩;rw[show rung / 9223372036854775808=0 by omega];rfl
 ·rw[af rfl];refine⟨?_,by omega⟩;rw[show (9223372036854775808+rung) / 9223372036854775808=1 by omega];rfl
theorem SI(s:Bool):double.read (double.word s 0)=.number s 0 (-1074):=by
 cases s <;> decide
theorem Y6(s:Bool){L kept:Nat}(hL:L≤52)(h1:4503599627370496≤kept)(h2:kept<9007199254740992):double.read (double.word s ((L+1022)*4503599627370496+kept))=.number s kept ((L:Int)-52):=by
 have hb:double.binade=4503599627370496:=by decide
 have hi:double.infRung=9218868437227405312:=by decide
 have hl:double.leastPlace = -1074:=by decide
 obtain⟨e1,e2⟩:=aaw s (rung:=(L+1022)*4503599627370496+kept) (by show _<9223372036854775808;omega);unfold Format.read;dsimp only;rw[e1,e2,hb,hi,hl,ag (by omega),af (by omega)]
 congr 1
 ·omega
 ·have:((L+1022)*4503599627370496+kept) / 4503599627370496=L+1023:=by omega
  rw[this];omega
theorem Zk{d:Datum}{N:Int}(h:o6 d N)(hN:N.natAbs<9007199254740992):o6 (double.read (double.write d)) N:=by
 obtain⟨s,m,p,rfl,h1,h2⟩:=h;have hb:double.binade=4503599627370496:=by decide
 have hi:double.infRung=9218868437227405312:=by decide
 have hl:double.leastPlace = -1074:=by decide
 show o6 (double.read (double.nearest s m p)) N
 by_cases h0:N=0
 ·subst h0
  have hm:m=0:=by
   rw[KL,vC]at h1
   rcases Nat.mul_eq_zero.1 h1 with h | h
   ·exact h
   ·exact absurd h (K0.1 (qK _))
  subst hm;have:double.nearest s 0 p=double.word s 0:=rfl;rw[this,SI];exact⟨s,0,-1074,rfl,by rw[vC,KL,vC],fun h=>absurd rfl h⟩
 ·obtain⟨A,hA⟩:∃A,A=N.natAbs:=⟨_,rfl⟩
  rw[← hA]at h1 hN;have mu:A≠0:=by omega
  have Kq:m≠0:=by
   intro h;subst h;rw[vC]at h1
   rcases Nat.mul_eq_zero.1 h1.symm with h | h
   ·exact mu h
   ·exact absurd h (K0.1 (qK _))
  have ajj:(p:Int)+m.log2=A.log2:=by
   have e:=congrArg Nat.log2 h1;rw[Lr Kq,Lr mu]at e;omega
  obtain⟨L,hL⟩:∃L,L=A.log2:=⟨_,rfl⟩
  rw[← hL]at ajj;have Gw:=((GF mu).1 hL.symm).1;have hA2:=((GF mu).1 hL.symm).2
  have ajv:L≤52:=by
   refine Nat.le_of_not_lt fun h=>?_;have:2 ^ 53≤2 ^ L:=vI (by decide) h;have:(2:Nat) ^ 53=9007199254740992:=by decide
   omega
  obtain⟨K,hK⟩:∃K,K=A*2 ^ (52-L):=⟨_,rfl⟩
  have hK1:4503599627370496≤K:=by
   have:2 ^ L*2 ^ (52-L)≤K:=by rw[hK];exact jm _ Gw
   rw[← sI,show L+(52-L)=52 by omega]at this;exact this
  have KA:K<9007199254740992:=by
   have:K<2 ^ (L+1)*2 ^ (52-L):=by rw[hK];exact Nat.mul_lt_mul_of_pos_right hA2 (qK _)
   rw[← sI,show L+1+(52-L)=53 by omega]at this;exact this
  have hK0:K≠0:=by omega
  have N8:max (p+(m.log2:Int)-52) (-1074)=(L:Int)-52:=by omega
  have jh:Toward.even.cut s (m <<< (p-((L:Int)-52)).toNat) (((L:Int)-52)-p).toNat=K:=by
   rw[Bs]
   rcases Gy p ((L:Int)-52) with h | h
   ·have e1:(p-((L:Int)-52)).toNat=0:=by omega
    have e2:p.toNat=0:=by omega
    rw[e2,tN,dS]at h1;rw[e1,tN,dS,h1];have e3:(-p).toNat=(52-L)+(((L:Int)-52)-p).toNat:=by omega
    rw[e3,sI,← xq,← hK];exact L8 _ _ hK0
   ·have e1:(((L:Int)-52)-p).toNat=0:=by omega
    have e2:=LV h1 h;rw[show ((L:Int)-52).toNat=0 by omega,tN,dS,show (-((L:Int)-52)).toNat=52-L by omega,← hK]at e2;rw[e1,e2];have:=L8 .even s (A:=K) (k:=0) hK0;rw[tN,dS]at this;exact this
  have hn:double.nearest s m p=double.word s ((L+1022)*4503599627370496+K):=by
   unfold Format.nearest;rw[ag Kq];dsimp only;rw[hl,hb,hi];show double.word s (min ((max (p+(m.log2:Int)-52) (-1074) - -1074).toNat*4503599627370496+Toward.even.cut s (m <<< (p-max (p+(m.log2:Int)-52) (-1074)).toNat) (max (p+(m.log2:Int)-52) (-1074)-p).toNat) 9218868437227405312)=_;rw[N8,jh,show ((L:Int)-52 - -1074).toNat=L+1022 by omega];have jg:(L+1022)*4503599627370496+K≤9218868437227405312:=by omega
   exact congrArg (double.word s) (K5 jg)
  have e:double.read (double.nearest s m p)=.number s K ((L:Int)-52):=(congrArg double.read hn).trans (Y6 s ajv hK1 KA);rw[e];refine⟨s,K,(L:Int)-52,rfl,?_,h2⟩;rw[← hA,show ((L:Int)-52).toNat=0 by omega,tN,dS,show (-((L:Int)-52)).toNat=52-L by omega];exact hK
structure jR(b:Nat)(N:Int):Prop where
 lt:b<2 ^ 64
 isInt:o6 (double.read b) N
theorem abp(N:Int):o6 (.number (decide (N<0)) N.natAbs 0) N:=⟨_,_,_,rfl,by simp,fun _=>rfl⟩
theorem HD{d:Datum}{N:Int}(h:o6 d N)(hN:N.natAbs<9007199254740992):jR (double.write d) N:=⟨double.write_lt d,Zk h hN⟩
theorem ahb{N:Int}(hN:N.natAbs<9007199254740992):jR (Go.FloatKind.nearest .f64 N) N:=HD (abp N) hN
theorem M6{x y:Nat}{N M:Int}(hx:jR x N)(hy:jR y M)(h:(N+M).natAbs<9007199254740992):∃r,floatBits .add .f64 x y=some r∧jR r (N+M):=by
 obtain⟨d,e1,e2⟩:=SZ hx.isInt hy.isInt;exact⟨double.write d,congrArg (Option.map double.write) e1,HD e2 h⟩
theorem M5{x y:Nat}{N M:Int}(hx:jR x N)(hy:jR y M)(h:(N-M).natAbs<9007199254740992):∃r,floatBits .sub .f64 x y=some r∧jR r (N-M):=by
 obtain⟨d,e1,e2⟩:=SZ hx.isInt (S3 hy.isInt);rw[← Int.sub_eq_add_neg]at e2;exact⟨double.write d,congrArg (Option.map double.write) e1,HD e2 h⟩
theorem Iw{x y:Nat}{N M:Int}(hx:jR x N)(hy:jR y M)(h:(N*M).natAbs<9007199254740992):∃r,floatBits .mul .f64 x y=some r∧jR r (N*M):=by
 obtain⟨d,e1,e2⟩:=Z4 hx.isInt hy.isInt;exact⟨double.write d,congrArg (Option.map double.write) e1,HD e2 h⟩
theorem afA{x:Nat}{N:Int}(hx:jR x N)(k:IntKind)(h:k.min≤N∧N≤k.max):floatToIntVal .f64 x k=some N:=by
 unfold floatToIntVal;have:(FloatKind.f64.decode x).toInt .zero=some N:=Zl hx.isInt;rw[this];exact af h
theorem Mx:jR 0 0:=⟨by decide,⟨false,0,-1074,SI false,by rw[vC,KL,vC],fun h=>absurd rfl h⟩⟩
theorem UJ{b:Nat}(h:b<2 ^ 64):b ^^^ 2 ^ 63=if b<2 ^ 63 then b+2 ^ 63 else b-2 ^ 63:=by
 have e:((BitVec.ofNat 64 b) ^^^ (BitVec.ofNat 64 (2 ^ 63))).toNat=b ^^^ 2 ^ 63:=by
  rw[BitVec.toNat_xor,BitVec.toNat_ofNat,BitVec.toNat_ofNat,vE h,vE (by decide)]
 by_cases hb:b<2 ^ 63
 ·rw[af hb];have:=Qo hb 1;rw[dS]at this;rw[Nat.add_comm,this];refine C3 fun i=>?_;rw[Nat.testBit_xor,KJ,Qf]
  by_cases hi:63=i
  ·subst hi;rw[xA hb];rfl
  ·rw[decide_eq_false hi];simp
 ·rw[ag hb];obtain⟨c,rfl⟩:∃c,b=2 ^ 63+c:=⟨b-2 ^ 63,by omega⟩
  have hc:c<2 ^ 63:=by
   have:(2:Nat) ^ 64=2 ^ 63+2 ^ 63:=by decide
   omega
  have:=Qo hc 1;rw[dS]at this;rw[K4,this];refine C3 fun i=>?_;rw[Nat.testBit_xor,KJ,Qf]
  by_cases hi:63=i
  ·subst hi;rw[xA hc];rfl
  ·rw[decide_eq_false hi];simp
theorem afz{x:Nat}{N:Int}(hx:jR x N):jR (Go.Op.negFloat .f64 x) (-N):=by
 have e:Go.Op.negFloat .f64 x=x ^^^ 2 ^ 63:=rfl;have ab:x<18446744073709551616:=hx.lt;have hsw:double.signWeight=9223372036854775808:=by decide
 have aii:double.read (x ^^^ 2 ^ 63)=(double.read x).opposite:=by
  rw[UJ hx.lt];have P9:(2:Nat) ^ 63=9223372036854775808:=by decide
  rw[P9];unfold Format.read;dsimp only;rw[hsw]
  by_cases hb:x<9223372036854775808
  ·rw[af hb,show (x+9223372036854775808) / 9223372036854775808 % 2=1 by omega,show (x+9223372036854775808) % 9223372036854775808=x by omega,show x / 9223372036854775808 % 2=0 by omega,show x % 9223372036854775808=x by omega]
   repeat' split
   all_goals rfl
  ·rw[ag hb,show (x-9223372036854775808) / 9223372036854775808 % 2=0 by omega,show (x-9223372036854775808) % 9223372036854775808=x-9223372036854775808 by omega,show x / 9223372036854775808 % 2=1 by omega,show x % 9223372036854775808=x-9223372036854775808 by omega]
   repeat' split
   all_goals rfl
 rw[e];refine⟨?_,by rw[aii];exact S3 hx.isInt⟩;rw[UJ hx.lt];have P9:(2:Nat) ^ 63=9223372036854775808:=by decide
 have mw:(2:Nat) ^ 64=18446744073709551616:=by decide
 rw[P9,mw];split <;> omega
def oW(w:World)(b:Nat):Prop:=∃c T fz,w.heap[b]?=some (.cells c T fz)
def FC(F:Nat→Prop)(w:World)(b:Nat):Prop:=F b∧oW w b
def lF(F:Nat→Prop)(w:World):(s:Sh)→List Value→s.T→Prop
 |.int k,cs,(n:Int)=>cs=[.int k n]
 |.bool,cs,(b:Bool)=>cs=[.bool b]
 |.str,cs,(s:ByteArray)=>cs=[.string s]
 |.slice e,cs,(l:List e.T)=>∃(a:Option Addr) (c:Nat),cs=[.slice a l.length c]∧l.length≤c∧c≤maxLen∧(a=none→c=0)∧
   (l≠[]→∃b o,a=some ⟨b,o,none⟩∧FC F w b∧∀i,(h:i<l.length)→∃cs',cs'.length=e.size∧wY w b (o+i*e.size) cs'∧lF F w e cs' l[i])
 |.nil,cs,_=>cs=[]
 |.field f r,cs,(d:f.T×r.T)=>∃c1 c2,cs=c1++c2∧c1.length=f.size∧lF F w f c1 d.1∧lF F w r c2 d.2
def FD(w:World)(b off len e:Nat)(a:Addr)(cap:Nat):Prop:=
 ∃c T fz,w.heap[b]?=some (.cells c T fz)∧len≤cap∧cap≤maxLen∧((a=⟨b,off,none⟩∧off+cap*e≤c.size)∨(a.block=b∧a.spot=none∧len=0∧cap=0))
inductive aB(F:Nat→Prop)(w:World):AV→Value→Prop where
 |int (k:IntKind) (n:Int):aB F w (.int k n) (.int k n)
 |bool (b:Bool):aB F w (.bool b) (.bool b)
 |str (s:ByteArray):aB F w (.str s) (.string s)
 |ah (e:Sh) (l:List e.T) (v:Value) (h:lF F w (.slice e) [v] l):aB F w (.ah e l) v
 |kX (a:Option Addr):aB F w .kX (.slice a 0 0)
 |gT (a:Addr) (c:Nat) (h:c≤maxLen):aB F w .gT (.slice (some a) 0 c)
 |an:aB F w .an (.slice none 0 0)
 |ae (b off len e:Nat) (a:Addr) (cap:Nat) (h:FD w b off len e a cap):aB F w (.ae b off len e) (.slice (some a) len cap)
 |cW:aB F w .cW (.pointer none)
 |ptr (b off:Nat) (h:oW w b):aB F w (.ptr b off) (.pointer (some ⟨b,off,none⟩))
 |gq (cs:List AV) (b o:Nat) (f:Nat→Value) (hF:FC F w b) (h1:∀i x,cs[i]?=some x→w.cell? ⟨b,o+i,none⟩=some (f i)) (hl:∀(i:Nat) (x:AV),cs[i]?=some x→x.leaf=true) (h:∀i x,cs[i]?=some x→aB F w x (f i)):aB F w (.gq cs) (.pointer (some ⟨b,o,none⟩))
 |agg (cs:List AV) (vs:Array Value) (hs:cs.length=vs.size) (hl:∀(i:Nat) (x:AV),cs[i]?=some x→x.leaf=true) (h:∀i x,cs[i]?=some x→aB F w x (vs.getD i undef)):aB F w (.agg cs) (.agg vs)
 |tup (cs:List AV) (vs:Array Value) (hs:cs.length=vs.size) (h:∀i x,cs[i]?=some x→aB F w x (vs.getD i undef)):aB F w (.tup cs) (.tuple vs)
 |iface (t:TypeId) (a:AV) (v:Value) (h:aB F w a v):aB F w (.iface t a) (.iface t v)
 |nilif:aB F w .nilif .nilIface
 |fn (f:Fn) (c1 c2:List AV) (v1 v2:Array Value) (fD:c1.length=v1.size) (gQ:c2.length=v2.size) (h1:∀i x,c1[i]?=some x→aB F w x (v1.getD i undef)) (h2:∀i x,c2[i]?=some x→aB F w x (v2.getD i undef)):aB F w (.fn f c1 c2) (.func f v1 v2)
 |jd:aB F w .jd .nilFunc
 |qk:aB F w .qk (.map none)
 |gE (n:Int) (b:Nat) (h:jR b n):aB F w (.gE n) (.float .f64 b)
 |gk (n m:Int) (a b:Nat) (h1:jR a n) (h2:jR b m):aB F w (.gk n m) (.complex .f64 a b)
 |any (v:Value):aB F w .any v
 |via (x:AV) (v:Value) (hl:x.leaf=true) (h:aB F w x v):aB F w (.via x) v
 |ob (b:Nat):aB F w (.ob b) (.map (some b))
 |ou (b:Nat):aB F w (.ou b) (.pointer (some ⟨b,0,none⟩))
def jC(F:Nat→Prop)(w:World)(xs:List AV)(vs:Array Value):Prop:=xs.length=vs.size∧∀i x,xs[i]?=some x→aB F w x (vs.getD i undef)
def gB:Nat→List (Int×Int)→List MapEntry
 |_,[]=>[]
 |n,p::l=> { key:=.int .i64 p.1,val:=.int .i64 p.2,born:=n }::gB (n+1) l
def yw:AV→Option Obj
 |.pf l=>some (.map (gB 0 l).toArray l.length)
 |.tc m c s=>some (.mapIter (some m) c s.toArray c)
 |_=>none
def EE(F:Nat→Prop)(w:World)(b:Nat)(cs:List AV):Prop:=
 ∃c T,w.heap[b]?=some (.cells c T (0,0))∧cs.length≤c.size∧∀(i:Nat) (x:AV),cs[i]?=some x→x.leaf=true∧aB F w x (c.getD i undef)
def Holds(F:Nat→Prop)(w:World)(b:Nat)(cs:List AV):Prop:=
 ¬F b∧(EE F w b cs∨(∃x o,cs=[x]∧w.heap[b]?=some o∧yw x=some o)∨∃L t,cs=[.nm L t]∧w.heap[b]?=some (.loop L)∧∀i,aB F w (t i) (L.tmps.getD i undef))
structure bj(F:Nat→Prop)(w:World)(σ:Hp):Prop where
 nodup:(σ.map Prod.fst).Nodup
 holds:∀p∈σ,Holds F w p.1 p.2
 low:∀b,F b→b<w.heap.size
structure bH(F:Nat→Prop)(w:World)(F':Nat→Prop)(w':World):Prop where
 os:w'.os=w.os
 tape:w'.tape=w.tape
 output:w'.output=w.output
 size:w.heap.size≤w'.heap.size
 sub:∀b,F b→F' b
 fix:∀b,F b→w'.heap[b]?=w.heap[b]?
 rows:∀(b:Nat) (c:Array Value) (T:TypeId) (fz:Nat×Nat),w.heap[b]?=some (.cells c T fz)→∃(c':Array Value) (qH:Nat×Nat),w'.heap[b]?=some (.cells c' T qH)∧c'.size=c.size
 drawn:w.drawn≤w'.drawn
def Enters(P:Program)(f:FuncId):Prop:=∀(args:Array Value) (w:World),(callFunc f args).run P w=.ok (.enter f args) w
def ACalls(P:Program)(f:FuncId)(args:List AV)(σ:Hp)(R:AV→Hp→Prop):Prop:=
 Enters P f∧∀F w vs,jC F w args vs→bj F w σ→Calls P f vs w fun e w'=>∃r v σ' F',e=.returned v∧bH F w F' w'∧bj F' w' σ'∧aB F' w' r v∧R r σ'
def pull(i:Nat)(σ:Hp):Hp:=match σ[i]? with | some p=>p::σ.eraseIdx i | none=>σ
def oX:List Nat→Hp→Hp
 | [],σ=>σ
 |i::r,σ=>pull i (oX r σ)
inductive jI:Hp→Hp→Prop where
 |refl (σ:Hp):jI σ σ
 |pull (js:List Nat) {σ σ2:Hp} (h:jI (oX js σ) σ2):jI σ σ2
 |drop (k n:Nat) {σ σ2:Hp} (h:jI (σ.take k++σ.drop (k+n)) σ2):jI σ σ2
 |perm {σ kE σ2:Hp} (hp:kE.Perm σ) (h:jI kE σ2):jI σ σ2
 |aiX (i b':Nat) (cs lr:List AV) {σ σ2:Hp} (hi:σ[i]?=some (b',cs)) (hl:lr.length=cs.length) (hk:∀(k:Nat) (x y:AV),cs[k]?=some x→lr[k]?=some y→x=y∨(x=.an∧∃e:Sh,y=.ah e [])) (h:jI (σ.set i (b',lr)) σ2):jI σ σ2
inductive fm(b off len es:Nat)(e:Sh)(l:List e.T):AV→AV→Prop where
 |here:fm b off len es e l (.ae b off len es) (.ah e l)
 |refl (x:AV):fm b off len es e l x x
 |tup (xs ys:List AV) (h:xs.length=ys.length) (hi:∀(i:Nat) (x y:AV),xs[i]?=some x→ys[i]?=some y→fm b off len es e l x y):fm b off len es e l (.tup xs) (.tup ys)
 |agg (xs ys:List AV) (h:xs.length=ys.length) (hl:∀(i:Nat) (y:AV),ys[i]?=some y→y.leaf=true) (hi:∀(i:Nat) (x y:AV),xs[i]?=some x→ys[i]?=some y→fm b off len es e l x y):fm b off len es e l (.agg xs) (.agg ys)
 |nil (e':Sh):fm b off len es e l .an (.ah e' [])
 |gT (e':Sh):fm b off len es e l .gT (.ah e' [])
 |via {x y:AV} (h:fm b off len es e l x y):fm b off len es e l (.via x) y
inductive CallAt(P:Program)(f:FuncId)(K:AV→Hp→Prop):List AV→Hp→Prop where
 |mk {args:List AV} {σ:Hp} (js:List Nat) (R:AV→Hp→Prop) (call:ACalls P f args (oX js σ) R) (go:∀r σ',R r σ'→K r σ'):CallAt P f K args σ
 |perm {args:List AV} {σ σ2:Hp} (R:AV→Hp→Prop) (hp:σ2.Perm σ) (call:ACalls P f args σ2 R) (go:∀r σ',R r σ'→∃eJ,eJ.Perm σ'∧K r eJ):CallAt P f K args σ
 |cN {args args':List AV} {σ:Hp} (j b off len es:Nat) (cs:List AV) (e:Sh) (l:List e.T) (h1:σ[j]?=some (b,cs)) (h2:(cs.drop off).take (len*es)=l.flatMap e.cells) (h3:l.length=len∧e.size=es∧0<es) (h4:fm b off len es e l (.tup args) (.tup args')) (h:CallAt P f K args' (σ.eraseIdx j)):CallAt P f K args σ
 |kV {args:List AV} {σ:Hp} (j b off len es:Nat) (cs:List AV) (e:Sh) (l:List e.T) (h1:σ[j]?=some (b,cs)) (h2:(cs.drop off).take (len*es)=l.flatMap e.cells) (h3:l.length=len∧e.size=es∧0<es) (i k b':Nat) (cs':List AV) (hi:(σ.eraseIdx j)[i]?=some (b',cs')) (hk:cs'[k]?=some (.ae b off len es)) (h:CallAt P f K args ((σ.eraseIdx j).set i (b',cs'.set k (.ah e l)))):CallAt P f K args σ
inductive uF(P:Program)(f:FuncId)(args:List AV)(σ:Hp)(K:AV→Prop):Prop where
 |mk (js:List Nat) (r:AV) (call:ACalls P f args (oX js σ) (fun r' σ'=>r'=r∧σ'=oX js σ)) (go:K r):uF P f args σ K
 |perm {σ2:Hp} (hp:σ2.Perm σ) (r:AV) (call:ACalls P f args σ2 (fun r' σ'=>r'=r∧σ2.Perm σ')) (go:K r):uF P f args σ K
def I5(P:Program)(l:Nat)(args:List AV)(σ:Hp)(R:AV→Hp→Prop):Prop:=
 ∀F w vs,jC F w args vs→bj F w σ→∃f tmps assign body,(Instr.yield l vs).run P w=.ok (.round l f tmps assign body) w∧
  RoundIn Fence.wide 0 P l f tmps assign body w fun e w'=>∃r v σ' F',e=.returned v∧bH F w F' w'∧bj F' w' σ'∧aB F' w' r v∧R r σ'
inductive yd(P:Program)(l:Nat)(K:AV→Hp→Prop):List AV→Hp→Prop where
 |mk {args:List AV} {σ:Hp} (js:List Nat) (R:AV→Hp→Prop) (call:I5 P l args (oX js σ) R) (go:∀r σ',R r σ'→K r σ'):yd P l K args σ
 |perm {args:List AV} {σ σ2:Hp} (R:AV→Hp→Prop) (hp:σ2.Perm σ) (call:I5 P l args σ2 R) (go:∀r σ',R r σ'→∃eJ,eJ.Perm σ'∧K r eJ):yd P l K args σ
section
variable (P:Program) (TT:TypeId→Option TI)
def Meth(t:TypeId)(m:String)(g:FuncId):Prop:=
 ∀(a:Addr) (w:World),(method (P.types.size+Made.depth) t (.pointer (some a)) m).run P w=.ok (g,.pointer (some a)) w
inductive InvAt(t:TypeId)(m:String)(K:FuncId→Prop):Prop where
 |mk (g:FuncId) (h:Meth P t m g) (go:K g):InvAt t m K
def qO(c:Call)(ρ:Operand→AV)(K:FuncId→List AV→Prop)(KY:Nat→List AV→Prop):Prop:=
 match c.callee with
 |.value f=>match ρ f with
  |.fn (.func g) first cap=>K g (first++(c.args.toList.map fun x=>bR (ρ x))++cap)
  |.fn (.yield l) [] []=>KY l (c.args.toList.map fun x=>bR (ρ x))
  |_=>False
 |.invoke r m=>match ρ r with
  |.iface t (.ptr b o)=>InvAt P t m fun g=>K g (.ptr b o::c.args.toList.map fun x=>bR (ρ x))
  |.iface t (.gq cs)=>InvAt P t m fun g=>K g (.gq cs::c.args.toList.map fun x=>bR (ρ x))
  |_=>False
 |.builtin _=>False
inductive kx(σ:Hp)(es:Nat):AV→Nat→List AV→Prop where
 |an:kx σ es .an 0 []
 |kX:kx σ es .kX 0 []
 |gT:kx σ es .gT 0 []
 |ah (s:Sh) (l:List s.T) (h:s.size=es):kx σ es (.ah s l) l.length (l.flatMap s.cells)
 |ae (j b off len:Nat) (cs:List AV) (h1:σ[j]?=some (b,cs)) (h2:off+len*es≤cs.length):kx σ es (.ae b off len es) len ((cs.drop off).take (len*es))
inductive IF(i:TI)(σ:Hp)(s x:AV)(K:AV→Hp→Prop):Prop where
 |fresh (n:Nat) (new:List AV) (hs:s=.an∨s=.kX) (hx:kx σ i.size x n new) (hn:n≤1048576) (hb:i.bytes≤1024) (h0:0<i.size) (go:n≠0→∀b,K (.ae b 0 n i.size) ((b,new)::σ)) (same:n=0→K s σ)
 |more (j b len n:Nat) (cs new:List AV) (hs:s=.ae b 0 len i.size) (h1:σ[j]?=some (b,cs)) (h2:len*i.size≤cs.length) (hx:kx σ i.size x n new) (hn:len+n≤1048576) (hb:i.bytes≤1024) (h0:0<i.size)
   (go:∀b',K (.ae b' 0 (len+n) i.size) ((b',cs.take (len*i.size)++new)::σ.eraseIdx j)):IF i σ s x K
 |BQ (j b off len n:Nat) (cs new:List AV) (hs:s=.ae b off len i.size) (h1:σ[j]?=some (b,cs)) (h2:off+len*i.size≤cs.length) (hx:kx σ i.size x n new) (hn:len+n≤1048576) (hb:i.bytes≤1024) (h0:0<i.size)
   (yD:K (.ae b off (len+n) i.size) ((b,cs.take (off+len*i.size)++new)::σ.eraseIdx j))
   (go:∀b',K (.ae b' 0 (len+n) i.size) ((b',(cs.drop off).take (len*i.size)++new)::σ.eraseIdx j)):IF i σ s x K
inductive AppendAt(i:TI)(σ:Hp)(s x:AV)(K:AV→Hp→Prop):Prop where
 |fresh (n:Nat) (new:List AV) (hs:s=.an∨s=.kX) (hx:kx σ i.size x n new) (hn:n≤1048576) (hb:i.bytes≤1024) (h0:0<i.size) (go:n≠0→∀b,K (.ae b 0 n i.size) ((b,new)::σ)) (same:n=0→K s σ)
 |more (j b len n:Nat) (cs new:List AV) (hs:s=.ae b 0 len i.size) (h1:σ[j]?=some (b,cs)) (h2:len*i.size≤cs.length) (hx:kx σ i.size x n new) (hn:len+n≤1048576) (hb:i.bytes≤1024) (h0:0<i.size)
   (go:∀b',K (.ae b' 0 (len+n) i.size) ((b',cs.take (len*i.size)++new)::σ.eraseIdx j)):AppendAt i σ s x K
 |BQ (j b off len n:Nat) (cs new:List AV) (hs:s=.ae b off len i.size) (h1:σ[j]?=some (b,cs)) (h2:off+len*i.size≤cs.length) (hx:kx σ i.size x n new) (hn:len+n≤1048576) (hb:i.bytes≤1024) (h0:0<i.size)
   (yD:K (.ae b off (len+n) i.size) ((b,cs.take (off+len*i.size)++new)::σ.eraseIdx j))
   (go:∀b',K (.ae b' 0 (len+n) i.size) ((b',(cs.drop off).take (len*i.size)++new)::σ.eraseIdx j)):AppendAt i σ s x K
 |perm {σ2:Hp} (K2:AV→Hp→Prop) (hp:σ2.Perm σ) (h:IF i σ2 s x K2) (hk:∀v eJ,K2 v eJ→∃Ai,Ai.Perm eJ∧(K v Ai∨(v.leaf=true∧K (.via v) Ai))):AppendAt i σ s x K
inductive Et(i:TI)(σ:Hp)(s x:AV)(K:AV→Hp→Prop):Prop where
 |an (k:IntKind) (n:Int) (hs:s=.an) (hx:x=.int k n) (hn:0≤n∧n≤1048576) (hb:i.bytes≤1024) (h0:0<i.size) (go:0<n→∀b,K (.ae b 0 n.toNat i.size) ((b,cI i.zero n.toNat)::σ)) (same:n=0→K .an σ):Et i σ s x K
inductive Nn(i:TI)(σ:Hp)(s:AV)(K:Hp→Prop):Prop where
 |none (hs:s=.an∨s=.kX∨s=.gT) (go:K σ)
 |ae (j b off len:Nat) (cs:List AV) (hs:s=.ae b off len i.size) (h1:σ[j]?=some (b,cs)) (h2:off+len*i.size≤cs.length) (go:K (σ.set j (b,fx cs off (cI i.zero len))))
inductive NS(i:TI)(σ:Hp)(d x:AV)(K:AV→Hp→Prop):Prop where
 |ae (j b off len n:Nat) (cs new:List AV) (hd:d=.ae b off len i.size) (h1:σ[j]?=some (b,cs)) (h2:off+len*i.size≤cs.length) (hx:kx σ i.size x n new) (hn:n≤len) (go:K (.int .i64 n) (σ.set j (b,fx cs off new)))
 |none (new:List AV) (hd:d=.an∨d=.kX∨d=.gT) (hx:kx σ i.size x 0 new) (go:K (.int .i64 0) σ)
 |part (j b off len:Nat) (cs:List AV) (hd:d=.ae b off len i.size) (h1:σ[j]?=some (b,cs)) (h2:off+len*i.size≤cs.length) (j2 b2 n9 n:Nat) (lr:List AV) (hx:x=.ae b2 n9 n i.size) (h3:σ[j2]?=some (b2,lr)) (h4:n9+n*i.size≤lr.length) (hn:len≤n) (go:K (.int .i64 len) (σ.set j (b,fx cs off ((lr.drop n9).take (len*i.size)))))
def Bv(t:TypeId)(m k x:AV)(σ:Hp)(K:AV→Hp→Prop):Prop:=
 match Cd TT t,k,x with
 |some _,.int .i64 n,.int .i64 v=>Ju σ m fun j b l=>K .any (σ.set j (b,[.pf (si l n v)]))
 |_,_,_=>False
def IK(t:TypeId)(m:AV)(σ:Hp)(K:AV→Hp→Prop):Prop:=
 match Cd TT t with
 |some _=>Ju σ m fun _ b l=>∀r,K (.ou r) ((r,[.tc b l.length []])::σ)
 |none=>False
inductive NP(σ:Hp)(x:AV)(K:AV→Hp→Prop):Prop where
 |mk (j j2 r b:Nat) (l:List (Int×Int)) (seen:List Nat) (hx:x=.ou r) (h1:σ[j]?=some (r,[.tc b l.length seen])) (h2:σ[j2]?=some (b,[.pf l]))
   (stop:(∀i:Nat,i<l.length→i∈seen)→K (.tup [.bool false]) σ)
   (go:∀(i:Nat) (p:Int×Int),l[i]?=some p→i ∉ seen→K (.tup [.bool true,.int .i64 p.1,.int .i64 p.2]) (σ.set j (r,[.tc b l.length (seen++[i])]))):NP σ x K
inductive Nl(σ:Hp)(x:AV)(K:AV→Hp→Prop):Prop where
 |mk (j j2 r b i:Nat) (l:List (Int×Int)) (p:Int×Int) (seen:List Nat) (hx:x=.ou r) (h1:σ[j]?=some (r,[.tc b l.length (seen++[i])])) (h2:σ[j2]?=some (b,[.pf l])) (h3:l[i]?=some p)
   (go:K (.tup [.int .i64 p.1,.int .i64 p.2]) σ):Nl σ x K
def ir(o:Op)(ρ:Operand→AV)(σ:Hp)(K:AV→Hp→Prop):Prop:=
 match o with
 |.box _ x=>match (ρ x).cells? with | some cs=>∀b,K (.ptr b 0) ((b,cs)::σ) | none=>False
 |.alloc e=>match TT e with | some i=>∀b,K (.ptr b 0) ((b,i.zero)::σ) | none=>False
 |.buildSlice t len parts=>match TT t with
  |some ⟨.slice e,_,_,_⟩=>match TT e with
   |some i=>match s8 ((List.range len).map fun j=>(j*i.size,i.size)) (cI i.zero len) (parts.toList.map fun p=>(p.1,ρ p.2)),Nat.ble (len*i.size) 16777216,Nat.ble 1 i.size with
    |some cs,true,true=>∀b,K (.ae b 0 len i.size) ((b,cs)::σ)
    |_,_,_=>False
   |none=>False
  |_=>False
 |.makeSlice t l c=>match TT t,ρ l,ρ c with
  |some ⟨.slice e,_,_,_⟩,.int _ n,.int _ m=>match TT e with
   |some i=>aJ (0≤n∧n≤m∧m≤1048576∧i.bytes≤1024) (∀b,K (.ae b 0 n.toNat i.size) ((b,cI i.zero n.toNat)::σ))
   |none=>False
  |_,_,_=>False
 |.store t a x=>match TT t with
  |some i=>match ρ a with | .ptr b o=>IE i σ b o (ρ x) (fun σ'=>K .any σ') | _=>False
  |none=>False
 |.makeMap t none=>match Cd TT t with | some _=>∀b,K (.ob b) ((b,[.pf []])::σ) | none=>False
 |.mapUpdate t m k x=>Bv TT t (bR (ρ m)) (bR (ρ k)) (bR (ρ x)) σ K
 |.insert t m k x=>Bv TT t (bR (ρ m)) (bR (ρ k)) (bR (ρ x)) σ K
 |.range t x=>IK TT t (bR (ρ x)) σ K
 |.next x s=>match s with | false=>NP σ (bR (ρ x)) K | true=>False
 |.entry x=>Nl σ (bR (ρ x)) K
 |.call ⟨.builtin .append,args,cD⟩=>match args.toList,cD.toList with
  | [s,x],[t,t']=>match TT t,TT t' with
   |some ⟨.slice e,_,_,_⟩,some ⟨.slice _,_,_,_⟩=>match TT e with | some i=>AppendAt i σ (bR (ρ s)) (bR (ρ x)) K | none=>False
   |some ⟨.slice e,_,_,_⟩,some ⟨.int _,_,_,_⟩=>match TT e with | some i=>Et i σ (bR (ρ s)) (bR (ρ x)) K | none=>False
   |_,_=>False
  |_,_=>False
 |.call ⟨.builtin .clear,args,cD⟩=>match args.toList,cD.toList with
  | [s],[t]=>match TT t with
   |some ⟨.slice e,_,_,_⟩=>match TT e with | some i=>Nn i σ (bR (ρ s)) (fun σ'=>K (.tup []) σ') | none=>False
   |_=>False
  |_,_=>False
 |.call ⟨.builtin .copy,args,cD⟩=>match args.toList,cD.toList with
  | [d,x],[t,t']=>match TT t,TT t' with
   |some ⟨.slice e,_,_,_⟩,some ⟨.slice _,_,_,_⟩=>match TT e with | some i=>NS i σ (bR (ρ d)) (bR (ρ x)) K | none=>False
   |_,_=>False
  |_,_=>False
 |.call ⟨.builtin b,args,cD⟩=>fX P TT (.call ⟨.builtin b,args,cD⟩) ρ σ (fun v=>K v σ)
 |.call c=>qO P c ρ (fun f xs=>CallAt P f K xs σ) (fun l xs=>yd P l K xs σ)
 |o=>fX P TT o ρ σ (fun v=>K v σ)
def p7(ops:List Oper)(o:Oper)(t:Tm)(A B:Prop):Prop:=
 match o.guard with
 |none=>A
 |some (j,want)=>match (ops[j]?).bind (·.dst) with
  |some d=>match t d with
   |.bool b=>(match want,b with | true,true=>A | true,false=>B | false,true=>B | false,false=>A)
   |.tup []=>B
   |_=>False
  |none=>False
def XK(ops:List Oper)(l:List Oper):Tm→Hp→(Tm→Hp→Prop)→Prop:=
 List.rec (motive:=fun _=>Tm→Hp→(Tm→Hp→Prop)→Prop) (fun t σ K=>K t σ)
  (fun o _ ih t σ K=>p7 ops o t (ir P TT o.op (ev t) σ fun v σ'=>ih (put t o.dst v) σ' K) (ih (put t o.dst (.tup [])) σ K)) l
def w7(o:Op)(ρ:Operand→AV)(σ:Hp)(K:AV→Prop):Prop:=
 match o with
 |.call ⟨.builtin b,args,cD⟩=>fX P TT (.call ⟨.builtin b,args,cD⟩) ρ σ K
 |.call c=>qO P c ρ (fun f xs=>uF P f xs σ K) (fun _ _=>False)
 |o=>fX P TT o ρ σ K
def Jy(ops:List Oper)(l:List Oper):Tm→Hp→(Tm→Prop)→Prop:=
 List.rec (motive:=fun _=>Tm→Hp→(Tm→Prop)→Prop) (fun t _ K=>K t)
  (fun o _ ih t σ K=>p7 ops o t (w7 P TT o.op (ev t) σ fun v=>ih (put t o.dst v) σ K) (ih (put t o.dst (.tup [])) σ K)) l
def blind:Op→Bool
 |.move _ | .assign _ | .pick .. | .build .. | .nilCheck _ | .binOp .. | .unOp .. | .convert .. | .makeInterface .. | .makeFunc .. | .slice .. | .fieldAddr .. | .field .. | .indexAddr .. | .extract .. | .typeAssert .. => true
 |.call ⟨.builtin .len,_,_⟩ | .call ⟨.builtin .min,_,_⟩ | .call ⟨.builtin .max,_,_⟩=>true
 |_=>false
def jx(ops:List Oper)(az:List Bool):List Nat:=
 (List.range ops.length).filter fun i=> !az.getD i true&&(match ops[i]? with | some o=>o.after.toList.all fun e=> !Region.binds .any e||az.getD e.on false | none=>false)
def Cb(ops:List Oper)(i:Nat)(t:Tm)(σ:Hp)(K:Tm→Hp→Prop):Prop:=
 match ops[i]? with
 |some o=>p7 ops o t (ir P TT o.op (ev t) σ fun v σ'=>K (put t o.dst v) σ') (K (put t o.dst (.tup [])) σ)
 |none=>False
def OZ(f:Nat→Prop)(l:List Nat):Prop:=
 List.rec (motive:=fun _=>Prop) True (fun i r ih=>match r with | []=>f i | _=>f i∧ih) l
def uo:Op→Bool
 |.load _ _=>true
 |_=>false
def pq(o:Op):Bool:= !(blind o||uo o)
def qR(o:Oper)(j:Nat):Bool:=o.after.toList.any fun e=>Region.binds .any e&&Nat.beq e.on j
def ahY(ops:List Oper)(az:List Bool)(i:Nat):Bool:=ops.zipIdx.all fun (o,j)=> !pq o.op||az.getD j false||qR o i
def NB(ops:List Oper)(az:List Bool)(i:Nat):Bool:=
 match ops[i]? with
 |some o=>blind o.op||(uo o.op&&ahY ops az i)
 |none=>false
def wT(ops:List Oper)(n:Nat):List Bool→Tm→Hp→(Tm→Hp→Prop)→Prop:=
 Nat.rec (motive:=fun _=>List Bool→Tm→Hp→(Tm→Hp→Prop)→Prop) (fun _ _ _ _=>False)
  (fun _ ih az t σ K=>match jx ops az with
   | []=>K t σ
   |i::r=>match (i::r).find? (NB ops az) with
    |some j=>Cb P TT ops j t σ fun t' σ'=>ih (az.set j true) t' σ' K
    |none=>OZ (fun j=>Cb P TT ops j t σ fun t' σ'=>ih (az.set j true) t' σ' K) (i::r)) n
theorem Tu{ops:List Oper}{n:Nat}{az:List Bool}{t:Tm}{σ:Hp}{K:Tm→Hp→Prop}:wT P TT ops (n+1) az t σ K=(match jx ops az with
   | []=>K t σ
   |i::r=>match (i::r).find? (NB ops az) with
    |some j=>Cb P TT ops j t σ fun t' σ'=>wT P TT ops n (az.set j true) t' σ' K
    |none=>OZ (fun j=>Cb P TT ops j t σ fun t' σ'=>wT P TT ops n (az.set j true) t' σ' K) (i::r)):=rfl
def zK(ops:List Oper)(o:Oper):List Tmp:=
 (o.op.operands.toList.filterMap fun | .tmp t=>some t | _=>none)++(match o.guard with | some (g,_)=>((ops[g]?).bind (·.dst)).toList | none=>[])
def Ii(ops:List Oper):Bool:=
 let z:=ops.zipIdx
 z.all fun (o,i)=>
  (o.after.toList.all fun e=> !Region.binds .any e||Nat.blt e.on i) &&
  (z.all fun (p,j)=>match p.dst with
   |none=>true
   |some d=>(Nat.beq i j||match o.dst with | some d'=> !Nat.beq d d' | none=>true) &&
    (!(zK ops o).any (Nat.beq d)||Nat.beq i j||(Nat.blt j i&&qR o j)||(Nat.blt i j&&qR p i)))
def sV(ops:List Oper):Bool:=
 let z:=ops.zipIdx
 z.all fun (o,i)=>(match o.op with | .select .. => false | _=>true)&&z.all fun (p,j)=>Nat.beq i j||qR o j||qR p i||o.apart ops.toArray p
def dF(g:Tm):List (Nat×AV)→Tm
 | []=>g
 |(i,v)::r=>fun j=>match Nat.beq j i with | true=>v | false=>dF g r j
def agree(t:Tm):List (Nat×AV)→Prop
 | []=>True
 |(i,v)::r=>t i=v∧agree t r
theorem Bk{t:Tm}{l:List (Nat×AV)}(h:agree t l):t=dF t l:=by
 induction l with
 |nil=>rfl
 |cons p r ih=>
  obtain⟨i,v⟩:=p;obtain⟨h1,h2⟩:=h
  funext j
  show t j=(match Nat.beq j i with | true=>v | false=>dF t r j);cases hb:Nat.beq j i with
  |true=>rw[j5 hb];exact h1
  |false=>exact congrFun (ih h2) j
inductive dh{S:Type}(L:S→List (Nat×AV))(H:S→Hp)(t':Tm)(σ':Hp):Prop where
 |mk (s:S) (h3:agree t' (L s)) (h4:jI σ' (H s)):dh L H t' σ'
def kd(ops:List Oper)(q:Bool)(i:Nat)(t:Tm)(σ:Hp)(K:Tm→Hp→Prop):Prop:=
 match ops[i]? with
 |some o=>match q with
  |true=>p7 ops o t (w7 P TT o.op (ev t) σ fun v=>K (put t o.dst v) σ) (K (put t o.dst (.tup [])) σ)
  |false=>p7 ops o t (ir P TT o.op (ev t) σ fun v σ'=>K (put t o.dst v) σ') (K (put t o.dst (.tup [])) σ)
 |none=>False
def fw(j:Nat)(l:List Nat):Bool:=l.any (Nat.beq j)
def rj(ops:List Oper)(Q:List Nat)(n:Nat):List Bool→Tm→Hp→(Tm→Hp→Prop)→Prop:=
 Nat.rec (motive:=fun _=>List Bool→Tm→Hp→(Tm→Hp→Prop)→Prop) (fun _ _ _ _=>False)
  (fun _ ih az t σ K=>(jx ops az=[]→K t σ)∧∀i∈jx ops az,kd P TT ops (fw i Q) i t σ fun t' σ'=>ih (az.set i true) t' σ' K) n
def Ou(o:Oper)(acc:List (List Nat)):List Nat:=o.after.toList.flatMap fun e=>match Region.binds .any e with | true=>e.on::(acc[e.on]?).getD [] | false=>[]
def NT:List Oper→List (List Nat)→List (List Nat)
 | [],acc=>acc
 |o::os,acc=>NT os (acc++[(Ou o acc).eraseDups])
def wQ(ops:List Oper)(Q:List Nat)(k:Nat):Bool:=match ops[k]? with | some o=>pq o.op&&!fw k Q | none=>false
def Jb:Op→Bool
 |.alloc _ | .box _ _=>true
 |_=>false
def Fb(ops:List Oper)(k:Nat):Bool:=match ops[k]? with | some o=>Jb o.op | none=>false
def BI(ops:List Oper)(rows:List (List Nat))(Q:List Nat)(az:List Bool)(j:Nat):Bool:=
 match ops[j]? with
 |some o=>(blind o.op&&!fw j Q)||((uo o.op||fw j Q)&&(List.range ops.length).all fun k=>az.getD k false||!wQ ops Q k||fw j ((rows[k]?).getD [])||(uo o.op&&!fw j Q&&Fb ops k))
 |none=>false
inductive oP where
 |stop
 |one (j:Nat) (q:Bool) (s:oP)
 |alt (j:Nat) (s r:oP)
 |Yb (j:Nat) (s r:oP)
def ru (l : List Nat) (r : oP) : oP := l.foldr (fun i s => .one i false s) r
def cJ (l : List Nat) : oP := ru l .stop
def l5(ops:List Oper)(rows:List (List Nat))(Q:List Nat):oP→Nat→List Nat→List Bool→Bool
 |.stop,n,n0,az=>match n,n0,jx ops az with | _+1,[],[]=>true | _,_,_=>false
 |.one j q s,n,n0,az=>match n,n0 with
  |n+1,[]=>(fw j Q == q)&&fw j (jx ops az)&&(BI ops rows Q az j||(match jx ops az with | [i]=>Nat.beq i j | _=>false))&&l5 ops rows Q s n [] (az.set j true)
  |n,[i]=>(fw j Q == q)&&Nat.beq i j&&l5 ops rows Q s n [] (az.set j true)
  |_,_=>false
 |.alt j s r,n,n0,az=>match n,n0 with
  |n+1,[]=>(match jx ops az with
   |i::i2::l=>Nat.beq i j&&!fw j Q&&l5 ops rows Q s n [] (az.set j true)&&l5 ops rows Q r n (i2::l) az
   |_=>false)
  |n,i::i2::l=>Nat.beq i j&&!fw j Q&&l5 ops rows Q s n [] (az.set j true)&&l5 ops rows Q r n (i2::l) az
  |_,_=>false
 |.Yb j s r,n,n0,az=>match n,n0 with
  |n+1,[]=>(match jx ops az with
   |i::i2::l=>Nat.beq i j&&fw j Q&&l5 ops rows Q s n [] (az.set j true)&&l5 ops rows Q r n (i2::l) az
   |_=>false)
  |n,i::i2::l=>Nat.beq i j&&fw j Q&&l5 ops rows Q s n [] (az.set j true)&&l5 ops rows Q r n (i2::l) az
  |_,_=>false
def wL(ops:List Oper)(s:oP):Tm→Hp→(Tm→Hp→Prop)→Prop:=
 oP.rec (motive:=fun _=>Tm→Hp→(Tm→Hp→Prop)→Prop) (fun t σ K=>K t σ)
  (fun j q _ ih t σ K=>kd P TT ops q j t σ fun t' σ'=>ih t' σ' K)
  (fun j _ _ ih kh t σ K=>kd P TT ops false j t σ (fun t' σ'=>ih t' σ' K)∧kh t σ K)
  (fun j _ _ ih kh t σ K=>kd P TT ops true j t σ (fun t' σ'=>ih t' σ' K)∧kh t σ K) s
def aix:Op→Bool
 |.call ⟨.builtin _,_,_⟩=>false
 |.call _=>true
 |_=>false
def IL(ops:List Oper)(Q:List Nat)(s:oP):Bool:=
 sV ops&&Q.all (fun j=>match ops[j]? with | some o=>aix o.op | none=>false)&&l5 ops (NT ops []) Q s (ops.length+1) [] (List.replicate ops.length false)
inductive gZ(ops:List Oper)(K:Tm→Hp→Prop):Tm→Hp→Prop where
 |quiet {t:Tm} {σ:Hp} (h0:Ii ops=true) (h:Jy P TT ops ops t σ fun t'=>K t' σ):gZ ops K t σ
 |each {t:Tm} {σ:Hp} (h0:sV ops=true) (h:wT P TT ops (ops.length+1) (List.replicate ops.length false) t σ K):gZ ops K t σ
 |sched {t:Tm} {σ:Hp} (Q:List Nat) (s:oP) (h0:IL ops Q s=true) (h:wL P TT ops s t σ K):gZ ops K t σ
 |meet {t:Tm} {σ:Hp} {S:Type} (L:S→List (Nat×AV)) (H:S→Hp) (h0:sV ops=true) (h:wT P TT ops (ops.length+1) (List.replicate ops.length false) t σ (dh L H)) (go:∀s g,K (dF g (L s)) (H s)):gZ ops K t σ
 |NX {t:Tm} {σ:Hp} {S:Type} (Q:List Nat) (s:oP) (L:S→List (Nat×AV)) (H:S→Hp) (h0:IL ops Q s=true) (h:wL P TT ops s t σ (dh L H)) (go:∀s g,K (dF g (L s)) (H s)):gZ ops K t σ
 |cN {t t':Tm} {σ:Hp} (j b off len es:Nat) (cs:List AV) (e:Sh) (l:List e.T) (h1:σ[j]?=some (b,cs)) (h2:(cs.drop off).take (len*es)=l.flatMap e.cells) (h3:l.length=len∧e.size=es∧0<es) (h4:∀i,fm b off len es e l (t i) (t' i)) (h:gZ ops K t' (σ.eraseIdx j)):gZ ops K t σ
 |eb {t:Tm} {σ σ2:Hp} (h1:jI σ σ2) (h:gZ ops K t σ2):gZ ops K t σ
inductive Ex where
 |normal | exit (id:Nat) | goto (l:Nat) | ret
def Head{S:Type}(L:S→List (Nat×AV))(H:S→Hp)(p:S→Prop)(μ:S→Nat)(m:Nat)(t:Tm)(σ:Hp):Prop:=∃s g,m=μ s∧p s∧t=dF g (L s)∧σ=H s
inductive qf{S:Type}(L:S→List (Nat×AV))(H:S→Hp)(p:S→Prop)(μ:S→Nat)(s:S):Tm→Hp→Prop where
 |mk {t':Tm} {σ':Hp} (s':S) (h1:μ s'<μ s) (h2:p s') (h3:agree t' (L s')) (h4:jI σ' (H s')):qf L H p μ s t' σ'
 |cN {t' t2:Tm} {σ':Hp} (j b off len es:Nat) (cs:List AV) (e:Sh) (l:List e.T) (h1:σ'[j]?=some (b,cs)) (h2:(cs.drop off).take (len*es)=l.flatMap e.cells) (h3:l.length=len∧e.size=es∧0<es) (h4:∀i,fm b off len es e l (t' i) (t2 i)) (h:qf L H p μ s t2 (σ'.eraseIdx j)):qf L H p μ s t' σ'
 |kV {t':Tm} {σ':Hp} (j b off len es:Nat) (cs:List AV) (e:Sh) (l:List e.T) (h1:σ'[j]?=some (b,cs)) (h2:(cs.drop off).take (len*es)=l.flatMap e.cells) (h3:l.length=len∧e.size=es∧0<es) (i k b':Nat) (cs':List AV) (hi:(σ'.eraseIdx j)[i]?=some (b',cs')) (hk:cs'[k]?=some (.ae b off len es)) (h:qf L H p μ s t' ((σ'.eraseIdx j).set i (b',cs'.set k (.ah e l)))):qf L H p μ s t' σ'
 |eb {t':Tm} {σ' σ2:Hp} (h1:jI σ' σ2) (h:qf L H p μ s t' σ2):qf L H p μ s t' σ'
 |nil {t' t2:Tm} {σ':Hp} (h4:∀i,fm 0 0 0 0 .bool [] (t' i) (t2 i)) (h:qf L H p μ s t2 σ'):qf L H p μ s t' σ'
inductive nr(body:Tm→Hp→(Ex→Tm→Hp→Prop)→Prop)(Q:Ex→Tm→Hp→Prop):Tm→Hp→Prop where
 |mk {t:Tm} {σ:Hp} {S:Type} (L:S→List (Nat×AV)) (H:S→Hp) (p:S→Prop) (μ:S→Nat) (s0:S) (h0:p s0∧agree t (L s0)∧σ=H s0)
   (round:∀s g,p s→body (dF g (L s)) (H s) (fun e t' σ'=>match e with | .normal=>qf L H p μ s t' σ' | e=>Q e t' σ')):nr body Q t σ
 |cN {t t':Tm} {σ:Hp} (j b off len es:Nat) (cs:List AV) (e:Sh) (l:List e.T) (h1:σ[j]?=some (b,cs)) (h2:(cs.drop off).take (len*es)=l.flatMap e.cells) (h3:l.length=len∧e.size=es∧0<es) (h4:∀i,fm b off len es e l (t i) (t' i)) (h:nr body Q t' (σ.eraseIdx j)):nr body Q t σ
 |eb {t:Tm} {σ σ2:Hp} (h1:jI σ σ2) (h:nr body Q t σ2):nr body Q t σ
 |wrap {t:Tm} {σ:Hp} (k:Nat) (v:AV) (h1:t k=v) (h2:v.leaf=true) (h:nr body Q (dF t [(k,.via v)]) σ):nr body Q t σ
 |nil {t t':Tm} {σ:Hp} (h4:∀i,fm 0 0 0 0 .bool [] (t i) (t' i)) (h:nr body Q t' σ):nr body Q t σ
def Xs(R:Nat→Tm→Hp→(Ex→Tm→Hp→Prop)→Prop)(k:Nat):Nat→Tm→Hp→(Ex→Tm→Hp→Prop)→Prop:=
 Nat.rec (motive:=fun _=>Nat→Tm→Hp→(Ex→Tm→Hp→Prop)→Prop) (fun _ _ _ _=>False)
  (fun _ ih l t σ Q=>R l t σ fun e t' σ'=>match e with | .goto l'=>ih l' t' σ' Q | e=>Q e t' σ') k
inductive sf{S:Type}(gu:S→Nat)(L:S→List (Nat×AV))(H:S→Hp)(p:S→Prop)(μ:S→Nat)(s:S)(l:Nat):Tm→Hp→Prop where
 |mk {t':Tm} {σ':Hp} (s':S) (h0:l=gu s') (h1:μ s'<μ s) (h2:p s') (h3:agree t' (L s')) (h4:jI σ' (H s')):sf gu L H p μ s l t' σ'
 |cN {t' t2:Tm} {σ':Hp} (j b off len es:Nat) (cs:List AV) (e:Sh) (d:List e.T) (h1:σ'[j]?=some (b,cs)) (h2:(cs.drop off).take (len*es)=d.flatMap e.cells) (h3:d.length=len∧e.size=es∧0<es) (h4:∀i,fm b off len es e d (t' i) (t2 i)) (h:sf gu L H p μ s l t2 (σ'.eraseIdx j)):sf gu L H p μ s l t' σ'
 |kV {t':Tm} {σ':Hp} (j b off len es:Nat) (cs:List AV) (e:Sh) (d:List e.T) (h1:σ'[j]?=some (b,cs)) (h2:(cs.drop off).take (len*es)=d.flatMap e.cells) (h3:d.length=len∧e.size=es∧0<es) (i k b':Nat) (cs':List AV) (hi:(σ'.eraseIdx j)[i]?=some (b',cs')) (hk:cs'[k]?=some (.ae b off len es)) (h:sf gu L H p μ s l t' ((σ'.eraseIdx j).set i (b',cs'.set k (.ah e d)))):sf gu L H p μ s l t' σ'
 |eb {t':Tm} {σ' σ2:Hp} (h1:jI σ' σ2) (h:sf gu L H p μ s l t' σ2):sf gu L H p μ s l t' σ'
 |nil {t' t2:Tm} {σ':Hp} (h4:∀i,fm 0 0 0 0 .bool [] (t' i) (t2 i)) (h:sf gu L H p μ s l t2 σ'):sf gu L H p μ s l t' σ'
inductive sg(R:Nat→Tm→Hp→(Ex→Tm→Hp→Prop)→Prop)(l:Nat)(Q:Ex→Tm→Hp→Prop):Tm→Hp→Prop where
 |fwd {t:Tm} {σ:Hp} (k:Nat) (h:Xs R k l t σ Q):sg R l Q t σ
 |loop {t:Tm} {σ:Hp} {S:Type} (gu:S→Nat) (L:S→List (Nat×AV)) (H:S→Hp) (p:S→Prop) (μ:S→Nat) (s0:S) (h0:l=gu s0∧p s0∧agree t (L s0)∧jI σ (H s0))
   (round:∀s g,p s→R (gu s) (dF g (L s)) (H s) (fun e t' σ'=>match e with | .goto l'=>sf gu L H p μ s l' t' σ' | e=>Q e t' σ')):sg R l Q t σ
 |cN {t t':Tm} {σ:Hp} (j b off len es:Nat) (cs:List AV) (e:Sh) (d:List e.T) (h1:σ[j]?=some (b,cs)) (h2:(cs.drop off).take (len*es)=d.flatMap e.cells) (h3:d.length=len∧e.size=es∧0<es) (h4:∀i,fm b off len es e d (t i) (t' i)) (h:sg R l Q t' (σ.eraseIdx j)):sg R l Q t σ
 |eb {t:Tm} {σ σ2:Hp} (h1:jI σ σ2) (h:sg R l Q t σ2):sg R l Q t σ
 |wrap {t:Tm} {σ:Hp} (k:Nat) (v:AV) (h1:t k=v) (h2:v.leaf=true) (h:sg R l Q (dF t [(k,.via v)]) σ):sg R l Q t σ
def Ol(l:Nat)(rd:AV)(dn:Ex→AV)(R1:Ex→Hp→Prop)(r:AV)(σ':Hp):Prop:=
 (r=.bool true∧∃σ2,σ'=(l,[rd])::σ2∧R1 .normal σ2)∨(r=.bool false∧∃e σ2,e≠.normal∧σ'=(l,[dn e])::σ2∧R1 e σ2)
def ahX(l:Nat)(rd:AV)(dn:Ex→AV)(K:Ex→Hp→Prop)(_:AV)(σ':Hp):Prop:=
 (∃σ2,σ'=(l,[rd])::σ2∧K .normal σ2)∨(∃e σ2,e≠.normal∧σ'=(l,[dn e])::σ2∧K e σ2)
inductive BL(P:Program)(gf:FuncId)(cap:List AV)(m:Nat)(B:List AV→Hp→(Ex→Hp→Prop)→Prop)(K:Ex→Hp→Prop):Hp→Prop where
 |mk {σ:Hp} (go:∀(l:Nat) (rd:AV) (dn:Ex→AV),(∀(xs:List AV) (kE:Hp) (R1:Ex→Hp→Prop),xs.length=m→B xs kE R1→I5 P l xs ((l,[rd])::kE) (Ol l rd dn R1))→
   ACalls P gf (.fn (.yield l) [] []::cap) ((l,[rd])::σ) (ahX l rd dn K)):BL P gf cap m B K σ
 |eb {σ σ2:Hp} (h1:jI σ σ2) (h:BL P gf cap m B K σ2):BL P gf cap m B K σ
def Ct:List Tmp→List AV→Tm→Tm
 |p::ps,x::xs,t=>Ct ps xs (put t (some p) x)
 |_,_,t=>t
def codeF(rec:Code→Tm→Hp→(Ex→Tm→Hp→Prop)→Prop)(c:Code)(t:Tm)(σ:Hp)(Q:Ex→Tm→Hp→Prop):Prop:=
 match c with
 |.skip=>Q .normal t σ
 |.label _=>Q .normal t σ
 |.exit id=>Q (.exit id) t σ
 |.goto l=>Q (.goto l) t σ
 |.ret=>Q .ret t σ
 |.region _ ops draw=>match draw with
  |false=>XK P TT ops.toList ops.toList t σ (Q .normal)
  |true=>gZ P TT ops.toList (Q .normal) t σ
 |.seq a b=>rec a t σ fun e t' σ'=>match e with | .normal=>rec b t' σ' Q | e=>Q e t' σ'
 |.cond c a b=>match ev t c with | .bool x=>(match x with | true=>rec a t σ Q | false=>rec b t σ Q) | _=>False
 |.block id c=>rec c t σ fun e t' σ'=>match e with
  |.exit i=>(match Nat.beq i id with | true=>Q .normal t' σ' | false=>Q (.exit i) t' σ')
  |e=>Q e t' σ'
 |.loop c=>nr (fun t σ Q=>rec c t σ Q) Q t σ
 |.scope c=>rec c t σ fun e t' σ'=>match e with
  |.goto l=>sg (fun l t σ Q=>match findLabel c l with | some r=>rec r t σ Q | none=>False) l Q t' σ'
  |e=>Q e t' σ'
 |.rangeFunc g ps assign body=>match ev t g with
  |.fn (.func gf) [] cap=>BL P gf cap ps.size (fun xs kE R1=>rec assign (Ct ps.toList xs t) kE fun e t' σ'=>match e with | .normal=>rec body t' σ' (fun e _ kT=>R1 e kT) | _=>False) (fun e σ'=>Q e t σ') σ
  |_=>False
 |_=>False
def nq(n:Nat):Code→Tm→Hp→(Ex→Tm→Hp→Prop)→Prop:=
 Nat.rec (motive:=fun _=>Code→Tm→Hp→(Ex→Tm→Hp→Prop)→Prop) (fun _ _ _ _=>False) (fun _ ih=>codeF P TT ih) n
end
def uJ:List (Int×Int)→Int→Nat
 | [],_=>0
 |p::l,n=>if p.1=n then 0 else uJ l n+1
theorem Mv:∀(l:List (Int×Int)) (m i:Nat),(gB m l)[i]?=(l[i]?).map fun p=> { key:=.int .i64 p.1,val:=.int .i64 p.2,born:=m+i }
 | [],_,_=>by simp[gB]
 |p::l,m,0=>by simp[gB]
 |p::l,m,i+1=>by
  simp only[gB,List.getElem?_cons_succ];rw[Mv l (m+1) i];simp[Nat.add_assoc,Nat.add_comm 1 i]
theorem Ls(n:Int):∀(l:List (Int×Int)) (m i:Nat),Instr.findNow (.int .i64) (.int .i64 n) (gB m l) i=some ((getM l n).map fun v=>(i+uJ l n,.int .i64 v))
 | [],_,_=>rfl
 |p::l,m,i=>by
  have ih:=Ls n l (m+1) (i+1);unfold gB Instr.findNow;simp only[Instr.sameNow,if_true]
  by_cases h:p.1=n
  ·rw[show (n == p.1)=true by simp[h]];simp[getM,uJ,h]
  ·rw[show (n == p.1)=false by simp;exact fun e=>h e.symm];simp only[ih,getM,uJ,ag h]
   congr 1
   cases getM l n with
   |none=>rfl
   |some v=>simp[Nat.add_assoc,Nat.add_comm 1]
theorem pos_at:∀(l:List (Int×Int)) (n v:Int),getM l n=some v→l[uJ l n]?=some (n,v)∧∀x,si l n x=l.set (uJ l n) (n,x)
 | [],_,_,h=>by cases h
 |p::l,n,v,h=>by
  by_cases hp:p.1=n
  ·simp only[getM,af hp,Option.some.injEq]at h;simp only[uJ,af hp,si];refine⟨?_,fun x=>rfl⟩;rw[← hp,← h];rfl
  ·simp only[getM,ag hp]at h;obtain⟨h1,h2⟩:=pos_at l n v h;simp only[uJ,ag hp,si];exact⟨h1,fun x=>by rw[h2];rfl⟩
theorem Vm:∀(l:List (Int×Int)) (n x:Int),getM l n=none→si l n x=l++[(n,x)]
 | [],_,_,_=>rfl
 |p::l,n,x,h=>by
  by_cases hp:p.1=n
  ·simp only[getM,af hp]at h;cases h
  ·simp only[getM,ag hp]at h;simp only[si,ag hp,Vm l n x h];rfl
theorem SS:∀(l:List (Int×Int)) (m:Nat) (p:Int×Int),gB m (l++[p])=gB m l++[{ key:=.int .i64 p.1,val:=.int .i64 p.2,born:=m+l.length }]
 | [],_,_=>rfl
 |q::l,m,p=>by
  simp only[CW,gB,SS l (m+1) p,gj];rw[show m+1+l.length=m+(l.length+1) by omega]
theorem Ur:∀(l:List (Int×Int)) (m i:Nat) (p:Int×Int),gB m (l.set i p)=(gB m l).modify i fun e=> { e with key:=.int .i64 p.1,val:=.int .i64 p.2 }
 | [],_,_,_=>by simp[gB]
 |q::l,m,0,p=>by simp[gB]
 |q::l,m,i+1,p=>by simp[gB,Ur l (m+1) i p]
section
variable {P:Program} {w:World} {t k e:TypeId} {b:Nat} {l:List (Int×Int)}
theorem Y2(ht:P.underlying t=some (.map k e))(hk:P.underlying k=some (.int .i64)){z:Int}(hz:(zeroValue e).run P w=.ok (.int .i64 z) w)(hb:w.heap[b]?=some (.map (gB 0 l).toArray l.length))(n:Int)(c:Bool):
  (Instr.lookup t (.map (some b)) (.int .i64 n) c).run P w=.ok (if c then .tuple #[.int .i64 ((getM l n).getD z),.bool (getM l n).isSome] else .int .i64 ((getM l n).getD z)) w:=by
 have hf:=Ls n l 0 0;have Ch:MapKept.IsKey (.int .i64) (.int .i64 n):=by simp[MapKept.IsKey]
 cases h:getM l n with
 |none=>
  rw[h]at hf;simp[Instr.lookup,run_underlying ht,MapKept.run_getObj_map hb,MapKept.run_checkKey hk Ch,MapKept.run_findKey hk hf,hz,Result.andThen]
 |some v=>
  rw[h]at hf;simp[Instr.lookup,run_underlying ht,MapKept.run_getObj_map hb,MapKept.run_checkKey hk Ch,MapKept.run_findKey hk hf,Result.andThen]
theorem Y1(ht:P.underlying t=some (.map k e))(hk:P.underlying k=some (.int .i64))(hb:w.heap[b]?=some (.map (gB 0 l).toArray l.length))(n x:Int):
  (Instr.mapUpdate t (.map (some b)) (.int .i64 n) (.int .i64 x)).run P w=.ok () { w with heap:=w.heap.setIfInBounds b (.map (gB 0 (si l n x)).toArray (si l n x).length) }:=by
 have hf:=Ls n l 0 0;have Ch:MapKept.IsKey (.int .i64) (.int .i64 n):=by simp[MapKept.IsKey]
 cases h:getM l n with
 |none=>
  rw[h]at hf;rw[Vm l n x h,SS];simp[Instr.mapUpdate,run_underlying ht,MapKept.run_getObj_map hb,MapKept.run_checkKey hk Ch,MapKept.run_findKey hk hf,MapKept.run_setObj_map _ hb,Result.andThen]
 |some v=>
  rw[h]at hf;obtain⟨h1,h2⟩:=pos_at l n v h;rw[h2,Ur];have hg:(gB 0 l)[uJ l n]?=some { key:=.int .i64 n,val:=.int .i64 v,born:=0+uJ l n }:=by rw[Mv,h1];rfl
  simp[Instr.mapUpdate,run_underlying ht,MapKept.run_getObj_map hb,MapKept.run_checkKey hk Ch,MapKept.run_findKey hk hf,hg,MapKept.run_keyThatStays Ch,MapKept.run_setObj_map _ hb,Result.andThen]
end
end Go.Proofs.YtnikdflhefijbaaGreat
