import Derived.WalkMore
import Derived.Test.YtnikdflhefijbaaGreatBn4
import Derived.Test.YtnikdflhefijbaaGreatBn1
import Derived.Test.YtnikdflhefijbaaGreatRows
namespace Go.Proofs.YtnikdflhefijbaaGreat
open Go.RowKit
section
variable {P:Program} {TT:TypeId→Option TI}
def Em(n:Nat)(o:Oper):Bool:=(match o.dst with | some d=>Nat.blt d n | none=>true)&&(match o.op with | .defer _=>false | _=>true)
def codeOk(n:Nat):Bool→Code→Bool
 |_,.region _ ops _=>ops.toList.all (Em n)
 |rd,.seq a b=>codeOk n rd a&&codeOk n rd b
 |rd,.cond _ a b=>codeOk n rd a&&codeOk n rd b
 |rd,.block _ c=>codeOk n rd c
 |rd,.loop c=>codeOk n rd c
 |rd,.scope c=> !rd&&codeOk n false c
 |rd,.rangeFunc _ ps a b=> !rd&&ps.toList.all (fun p=>Nat.blt p n)&&codeOk n true a&&codeOk n true b
 |_,_=>true
theorem ace{n:Nat}{rd:Bool}:∀(c:Code) (l:Nat) (r:Code),findLabel c l=some r→codeOk n rd c=true→codeOk n rd r=true:=by
 intro c
 induction c with
 |seq a b iha Ow=>
  intro l r h hc
  simp only[codeOk,bO]at hc
  simp only[findLabel]at h
  split at h
  ·rename_i rest hr
   cases h
   simp only[codeOk,bO]
   exact⟨iha l _ hr hc.1,hc.2⟩
  ·exact Ow l r h hc.2
 |label l'=>
  intro l r h _
  simp only[findLabel]at h
  split at h
  ·cases h;rfl
  ·cases h
 |_=>intro l r h;simp[findLabel]at h
theorem agh{n:Nat}{ops:List Oper}(h:ops.all (Em n)=true):∀o∈ops,∀d,o.dst=some d→d<n:=fun o ho d hd=>by
 have:=fK.1 h o ho
 unfold Em at this
 rw[hd,bO]at this
 exact cI this.1
theorem ah3{n:Nat}{ops:List Oper}(h:ops.all (Em n)=true):∀o∈ops,∀c,o.op≠.defer c:=fun o ho c hc=>by
 have:=fK.1 h o ho
 unfold Em at this
 rw[hc,bO]at this
 cases this.2
theorem XJ{F:Fence}{n:Nat}{c:Code}{Q:Exit→Act→World→Prop}{a:Act}{w:World}(J:Nat→Act→World→Prop)(m:Nat)(ahW:J m a w)
  (round:∀m a w,J m a w→c.wpIn F n P (Exit.then (fun a' w'=>∃m',m'<m∧J m' a' w') Q) a w):(Code.loop c).wpIn F n P Q a w:=by
 intro b k cs mY hb hr
 have key:∀n a w,J n a w→∃e a' w',Q e a' w'∧ArrivesIn (Machine.fenced P F) P (lone (b.atR a (.code c::.inLoop c::k)) cs w) b k cs e a' w':=by
  intro n
  induction n using Nat.strongRecOn with
  |_ n ih=>
   intro a w hI
   obtain⟨e,sO,sI,hq,qJ⟩:=round n a w hI b (.inLoop c::k) cs mY hb hr
   cases e with
   |normal=>
    obtain⟨m',ab,ahj⟩:=hq
    obtain⟨aiI,BP,BD,xN,A5⟩:=ih m' ab sO sI ahj
    exact⟨aiI,BP,BD,xN,.of_steps (StepsIn.trans qJ (.one (fenced_calm hb hr rfl) stepR_inLoop)) A5⟩
   |exit id=>exact⟨_,sO,sI,hq,.pass (x:=.inLoop c) rfl (fun _ _=>.inl (by simp)) qJ⟩
   |goto l=>exact⟨_,sO,sI,hq,.pass (x:=.inLoop c) rfl (fun _ _=>.inl (by simp)) qJ⟩
   |ret=>exact⟨_,sO,sI,hq,.pass (x:=.inLoop c) rfl (fun _ _=>.inl (by simp)) qJ⟩
   |panic ch=>exact⟨_,sO,sI,hq,.pass (x:=.inLoop c) rfl (fun _ _=>.inl (by simp)) qJ⟩
   |outgrown=>exact⟨_,sO,sI,hq,.pass (x:=.inLoop c) rfl (fun _ _=>.inl (by simp)) qJ⟩
 obtain⟨e,a',w',hq,qJ⟩:=key m a w ahW
 exact⟨e,a',w',hq,.of_steps (.one (fenced_calm hb hr rfl) stepR_loop) qJ⟩
def Ex.up:Ex→Exit
 |.normal=>.normal
 |.exit id=>.exit id
 |.goto l=>.goto l
 |.ret=>.ret
inductive BC(P:Program)(c:Code)(Q:Exit→Act→World→Prop):Exit→Act→World→Prop where
 |normal {a:Act} {w:World} (h:Q .normal a w):BC P c Q .normal a w
 |exit {id:Nat} {a:Act} {w:World} (h:Q (.exit id) a w):BC P c Q (.exit id) a w
 |ret {a:Act} {w:World} (h:Q .ret a w):BC P c Q .ret a w
 |goto {l:Nat} {a:Act} {w:World} (n:Nat) (J:Nat→Nat→Act→World→Prop) (h:J n l a w) (hr:∀n l a w,J n l a w→∃r,findLabel c l=some r∧r.wp P (fun e a' w'=>match e with | .goto l'=>∃n',n'<n∧J n' l' a' w' | .panic _=>False | .outgrown=>False | e=>Q e a' w') a w):BC P c Q (.goto l) a w
theorem XT{c:Code}{Q:Exit→Act→World→Prop}{a:Act}{w:World}(h:c.wp P (BC P c Q) a w):(Code.scope c).wp P Q a w:=by
 intro b k cs
 obtain⟨e,sO,sI,hq,qJ⟩:=h b (.inScope c::k) cs
 have top:Steps P (lone (b.at a (.code (.scope c)::k)) cs w) (lone (b.at a (.code c::.inScope c::k)) cs w):=.one step_scope
 cases hq with
 |normal h=>exact⟨.normal,sO,sI,h,.of_steps top (Steps.trans qJ (.one step_inScope))⟩
 |exit h=>exact⟨.exit _,sO,sI,h,.of_steps top (fun k' hk=>qJ k' (by simp[exitTo,hk]))⟩
 |ret h=>exact⟨_,sO,sI,h,.of_steps top qJ⟩
 | @goto l _ _ n J hJ hr=>
  have key:∀(n l:Nat) (a:Act) (w:World),J n l a w→∃rest,findLabel c l=some rest∧∃e a' w',Q e a' w'∧Arrives P (lone (b.at a (.code rest::.inScope c::k)) cs w) b k cs e a' w':=by
   intro n
   induction n using Nat.strongRecOn with
   |_ n ih=>
    intro l a w hI
    obtain⟨r,hl,hwp⟩:=hr n l a w hI
    refine⟨r,hl,?_⟩
    obtain⟨e,BP,BD,xN,A5⟩:=hwp b (.inScope c::k) cs
    cases e with
    |normal=>exact⟨.normal,BP,BD,xN,Steps.trans A5 (.one step_inScope)⟩
    |exit id=>exact⟨.exit id,BP,BD,xN,fun k' hk=>A5 k' (by simp[exitTo,hk])⟩
    |goto l'=>
     obtain⟨n',ab,hJ'⟩:=xN
     obtain⟨rest,hf,N9,Of,NI,Np,MF⟩:=ih n' ab l' BP BD hJ'
     have hg:gotoIn l' (.inScope c::k)=some (.code rest::.inScope c::k):=by simp[gotoIn,hf]
     exact⟨N9,Of,NI,Np,.of_steps (A5 _ hg) MF⟩
    |ret=>exact⟨_,BP,BD,xN,A5⟩
    |panic ch=>exact xN.elim
    |outgrown=>exact xN.elim
  obtain⟨rest,hf,N9,Of,NI,Np,MF⟩:=key n l sO sI hJ
  have hg:gotoIn l (.inScope c::k)=some (.code rest::.inScope c::k):=by simp[gotoIn,hf]
  exact⟨N9,Of,NI,Np,.of_steps top (.of_steps (qJ _ hg) MF)⟩
theorem dx.cJ{B n:Nat}{F:Nat→Prop}{w:World}{t t':Tm}{σ:Hp}{a:Act}(hs:dx B n F w t σ a){j b off len es:Nat}{cs:List AV}{e:Sh}{l:List e.T}(h1:σ[j]?=some (b,cs))(h2:(cs.drop off).take (len*es)=l.flatMap e.cells)(h3:l.length=len∧e.size=es∧0<es)(h4:∀i,eO b off len es e l (t i) (t' i)):
  ∃F',bH F w F' w∧dx B n F' w t' (σ.eraseIdx j) a:=by
 obtain⟨an,oQ,hh⟩:=vv hs.hp h1 h2 h3
 exact⟨_,an,fun i=>yG an hh (h4 i) _ (hs.tm i),oQ,hs.size,hs.defers.mono an⟩
theorem dx.wrap{B n:Nat}{F:Nat→Prop}{w:World}{t:Tm}{σ:Hp}{a:Act}(hs:dx B n F w t σ a){k:Nat}{v:AV}(h1:t k=v)(h2:v.leaf=true):dx B n F w (eT t [(k,.via v)]) σ a:=
 ⟨fun i=>by
  show aA F w (match Nat.beq i k with | true=>.via v | false=>t i) _
  cases hb:Nat.beq i k with
  |true=>rw[jN hb];exact .via _ _ h2 (h1▸hs.tm k)
  |false=>exact hs.tm i,hs.hp,hs.size,hs.defers⟩
theorem Zs(ok:dI P TT)(hm:P.follows .mixedOrders=true){r:Option Nat}{B n:Nat}{ops:Array Oper}{K:Tm→Hp→Prop}{Q:Exit→Act→World→Prop}{t:Tm}{σ:Hp}(hd:∀o∈ops.toList,∀d,o.dst=some d→d<n)(cf:∀o∈ops.toList,∀c,o.op≠.defer c)(h:gq P TT ops.toList K t σ):∀{F:Nat→Prop} {w:World} {a:Act} {id:Nat},dx B n F w t σ a→
  (∀t' σ' F' w' a',bH F w F' w'→dx B n F' w' t' σ' a'→K t' σ'→Q .normal a' w')→(Code.region id ops true).wpIn (FW r) 0 P Q a w:=by
 induction h with
 |quiet h0 h=>exact fun hs hq=>Yl ok hm h0 h hd cf hs (fun t' F' w' a' h1 h2 h3=>hq t' _ F' w' a' h1 h2 h3)
 |each h0 h=>exact fun hs hq=>Rg ok hm h0 h hd cf hs (fun t' σ' F' w' a' h1 h2 h3=>hq t' σ' F' w' a' h1 h2 h3)
 |sched Q0 s h0 h=>exact fun hs hq=>Qt ok hm h0 h hd cf hs (fun t' σ' F' w' a' h1 h2 h3=>hq t' σ' F' w' a' h1 h2 h3)
 |meet L H h0 h go=>
  intro F w a id hs hq
  refine Rg ok hm h0 h hd cf hs (fun t' σ' F' w' a' h1 h2 h3=>?_)
  obtain⟨s,k1,k2⟩:=h3
  refine hq t' (H s) F' w' a' h1 (h2.dO k2) ?_
  rw[AT k1]
  exact go s t'
 |IC Q0 s0 L H h0 h go=>
  intro F w a id hs hq
  refine Qt ok hm h0 h hd cf hs (fun t' σ' F' w' a' h1 h2 h3=>?_)
  obtain⟨s,k1,k2⟩:=h3
  refine hq t' (H s) F' w' a' h1 (h2.dO k2) ?_
  rw[AT k1]
  exact go s t'
 |cJ j b off len es cs e l h1 h2 h3 h4 h ih=>
  intro F w a id hs hq
  obtain⟨F1,k1,k2⟩:=hs.cJ h1 h2 h3 h4
  exact ih k2 (fun t' σ' F' w' a' q1 q2 q3=>hq t' σ' F' w' a' (k1.trans q1) q2 q3)
 |dO h1 h ih=>
  intro F w a id hs hq
  exact ih (hs.dO h1) hq
theorem dx.kl{B n:Nat}{F:Nat→Prop}{w:World}{t:Tm}{σ:Hp}{a:Act}(hs:dx B n F w t σ a){j b off len es:Nat}{cs:List AV}{e:Sh}{l:List e.T}(h1:σ[j]?=some (b,cs))(h2:(cs.drop off).take (len*es)=l.flatMap e.cells)(h3:l.length=len∧e.size=es∧0<es){i k b':Nat}{cs':List AV}(hi:(σ.eraseIdx j)[i]?=some (b',cs'))(hk:cs'[k]?=some (.af b off len es)):
  ∃F',bH F w F' w∧dx B n F' w t ((σ.eraseIdx j).set i (b',cs'.set k (.ae e l))) a:=by
 obtain⟨an,oQ,hh⟩:=vv hs.hp h1 h2 h3
 exact⟨_,an,fun i=>(hs.tm i).mono an,Dr oQ hh hi hk,hs.size,hs.defers.mono an⟩
theorem dx.nil{B n:Nat}{F:Nat→Prop}{w:World}{t t':Tm}{σ:Hp}{a:Act}(hs:dx B n F w t σ a)(h4:∀i,eO 0 0 0 0 .bool [] (t i) (t' i)):dx B n F w t' σ a:=
 ⟨fun i=>yG (.refl _ _) (fun v hv=>by
  obtain⟨a,cap,rfl,c,T,fz,m1,m2,m3,m4⟩:=hv.lr
  exact .ae _ _ _ ⟨some a,cap,rfl,m2,m3,(fun e=>by cases e),fun aX=>absurd rfl aX⟩) (h4 i) _ (hs.tm i),hs.hp,hs.size,hs.defers⟩
theorem aad{B n:Nat}{S:Type}{L:S→List (Nat×AV)}{H:S→Hp}{p:S→Prop}{μ:S→Nat}{s:S}{t':Tm}{σ':Hp}(h:pN L H p μ s t' σ'):∀{F:Nat→Prop} {w:World} {a:Act},dx B n F w t' σ' a→
  ∃F' t2 s',bH F w F' w∧dx B n F' w t2 (H s') a∧μ s'<μ s∧p s'∧agree t2 (L s'):=by
 induction h with
 |mk s' h1 h2 h3 h4=>exact fun hs=>⟨_,_,s',.refl _ _,hs.dO h4,h1,h2,h3⟩
 |cJ j b off len es cs e l h1 h2 h3 h4 h ih=>
  intro F w a hs
  obtain⟨F1,k1,k2⟩:=hs.cJ h1 h2 h3 h4
  obtain⟨F2,t2,s',q1,q2,q3⟩:=ih k2
  exact⟨F2,t2,s',k1.trans q1,q2,q3⟩
 |kl j b off len es cs e l h1 h2 h3 i k b' cs' hi hk h ih=>
  intro F w a hs
  obtain⟨F1,k1,k2⟩:=hs.kl h1 h2 h3 hi hk
  obtain⟨F2,t2,s',q1,q2,q3⟩:=ih k2
  exact⟨F2,t2,s',k1.trans q1,q2,q3⟩
 |dO h1 h ih=>exact fun hs=>ih (hs.dO h1)
 |nil h4 h ih=>exact fun hs=>ih (hs.nil h4)
theorem aae{B n:Nat}{S:Type}{gk:S→Nat}{L:S→List (Nat×AV)}{H:S→Hp}{p:S→Prop}{μ:S→Nat}{s:S}{l:Nat}{t':Tm}{σ':Hp}(h:rS gk L H p μ s l t' σ'):∀{F:Nat→Prop} {w:World} {a:Act},dx B n F w t' σ' a→
  ∃F' t2 s',bH F w F' w∧dx B n F' w t2 (H s') a∧l=gk s'∧μ s'<μ s∧p s'∧agree t2 (L s'):=by
 induction h with
 |mk s' h0 h1 h2 h3 h4=>exact fun hs=>⟨_,_,s',.refl _ _,hs.dO h4,h0,h1,h2,h3⟩
 |cJ j b off len es cs e l h1 h2 h3 h4 h ih=>
  intro F w a hs
  obtain⟨F1,k1,k2⟩:=hs.cJ h1 h2 h3 h4
  obtain⟨F2,t2,s',q1,q2,q3⟩:=ih k2
  exact⟨F2,t2,s',k1.trans q1,q2,q3⟩
 |kl j b off len es cs e l h1 h2 h3 i k b' cs' hi hk h ih=>
  intro F w a hs
  obtain⟨F1,k1,k2⟩:=hs.kl h1 h2 h3 hi hk
  obtain⟨F2,t2,s',q1,q2,q3⟩:=ih k2
  exact⟨F2,t2,s',k1.trans q1,q2,q3⟩
 |dO h1 h ih=>exact fun hs=>ih (hs.dO h1)
 |nil h4 h ih=>exact fun hs=>ih (hs.nil h4)
theorem Zd{r:Option Nat}{B n:Nat}{c:Code}{body:Tm→Hp→(Ex→Tm→Hp→Prop)→Prop}(hb:∀(t:Tm) (σ:Hp) (K:Ex→Tm→Hp→Prop) (F:Nat→Prop) (w:World) (a:Act) (Q:Exit→Act→World→Prop),body t σ K→dx B n F w t σ a→
   (∀e t' σ' F' w' a',bH F w F' w'→dx B n F' w' t' σ' a'→K e t' σ'→Q e.up a' w')→c.wpIn (FW r) 0 P Q a w) {K:Ex→Tm→Hp→Prop} {t:Tm} {σ:Hp} (h:mR body K t σ):∀{F:Nat→Prop} {w:World} {a:Act} {Q:Exit→Act→World→Prop},dx B n F w t σ a→
  (∀e t' σ' F' w' a',bH F w F' w'→dx B n F' w' t' σ' a'→K e t' σ'→Q e.up a' w')→(Code.loop c).wpIn (FW r) 0 P Q a w:=by
 induction h with
 | @mk t σ S L H p μ s0 h0 hr=>
  intro F w a Q hs hq
  refine XJ (fun m a' w'=>∃t' σ' F',bH F w F' w'∧dx B n F' w' t' σ' a'∧Head L H p μ m t' σ') (μ s0) ⟨t,σ,F,.refl _ _,hs,s0,t,rfl,h0.1,AT h0.2.1,h0.2.2⟩ ?_
  rintro m a1 w1 ⟨_,_,F1,s1,r1,ss,g,rfl,hp,rfl,rfl⟩
  refine hb _ _ _ F1 w1 a1 _ (hr ss g hp) r1 ?_
  intro e t' σ' F' w' a' h1 h2 h3
  cases e with
  |normal=>
   obtain⟨F2,t2,s',q1,q2,k1,k2,k3⟩:=aad h3 h2
   exact⟨_,k1,t2,_,F2,s1.trans (h1.trans q1),q2,s',t2,rfl,k2,AT k3,rfl⟩
  |exit id=>exact hq (.exit id) t' σ' F' w' a' (s1.trans h1) h2 h3
  |goto l=>exact hq (.goto l) t' σ' F' w' a' (s1.trans h1) h2 h3
  |ret=>exact hq .ret t' σ' F' w' a' (s1.trans h1) h2 h3
 |cJ j b off len es cs e l h1 h2 h3 h4 h ih=>
  intro F w a Q hs hq
  obtain⟨F1,k1,k2⟩:=hs.cJ h1 h2 h3 h4
  exact ih k2 (fun e t' σ' F' w' a' q1 q2 q3=>hq e t' σ' F' w' a' (k1.trans q1) q2 q3)
 |dO h1 h ih=>
  intro F w a Q hs hq
  exact ih (hs.dO h1) hq
 |wrap k v h1 h2 h ih=>
  intro F w a Q hs hq
  exact ih (hs.wrap h1 h2) hq
 |nil h4 h ih=>
  intro F w a Q hs hq
  exact ih (hs.nil h4) hq
theorem Zk{B n:Nat}{c:Code}{R:Nat→Tm→Hp→(Ex→Tm→Hp→Prop)→Prop}(hR:∀(l:Nat) (t:Tm) (σ:Hp) (K:Ex→Tm→Hp→Prop) (F:Nat→Prop) (w:World) (a:Act) (Q:Exit→Act→World→Prop),R l t σ K→dx B n F w t σ a→
   (∀e t' σ' F' w' a',bH F w F' w'→dx B n F' w' t' σ' a'→K e t' σ'→Q e.up a' w')→∃r,findLabel c l=some r∧r.wp P Q a w) {l:Nat} {K:Ex→Tm→Hp→Prop} {t:Tm} {σ:Hp} (h:rT R l K t σ):∀{F:Nat→Prop} {w:World} {a:Act} {Q:Exit→Act→World→Prop},dx B n F w t σ a→
  (∀e t' σ' F' w' a',bH F w F' w'→dx B n F' w' t' σ' a'→K e t' σ'→(∀l,e≠.goto l)→Q e.up a' w')→BC P c Q (.goto l) a w:=by
 induction h with
 | @fwd t σ k h=>
  intro F w a Q hs hq
  refine .goto k (fun k l a' w'=>∃t' σ' F',bH F w F' w'∧dx B n F' w' t' σ' a'∧Wv R k l t' σ' K) ⟨t,σ,F,.refl _ _,hs,h⟩ ?_
  rintro k l a1 w1 ⟨t1,ko,F1,s1,r1,h⟩
  cases k with
  |zero=>exact h.elim
  |succ k=>
   refine hR l t1 ko _ F1 w1 a1 _ h r1 ?_
   intro e t' σ' F' w' a' h1 h2 h3
   cases e with
   |normal=>exact hq .normal t' σ' F' w' a' (s1.trans h1) h2 h3 (by simp)
   |exit id=>exact hq (.exit id) t' σ' F' w' a' (s1.trans h1) h2 h3 (by simp)
   |goto l=>exact⟨k,PD _,t',σ',F',s1.trans h1,h2,h3⟩
   |ret=>exact hq .ret t' σ' F' w' a' (s1.trans h1) h2 h3 (by simp)
 | @loop t σ S gk L H p μ s0 h0 hr=>
  intro F w a Q hs hq
  refine .goto (μ s0) (fun m l a' w'=>∃s g F',bH F w F' w'∧dx B n F' w' (eT g (L s)) (H s) a'∧m=μ s∧l=gk s∧p s) ⟨s0,t,F,.refl _ _,?_,rfl,h0.1,h0.2.1⟩ ?_
  ·rw[← AT h0.2.2.1];exact hs.dO h0.2.2.2
  rintro m l a1 w1 ⟨s,g,F1,s1,r1,rfl,rfl,hp⟩
  refine hR (gk s) _ _ _ F1 w1 a1 _ (hr s g hp) r1 ?_
  intro e t' σ' F' w' a' h1 h2 h3
  cases e with
  |normal=>exact hq .normal t' σ' F' w' a' (s1.trans h1) h2 h3 (by simp)
  |exit id=>exact hq (.exit id) t' σ' F' w' a' (s1.trans h1) h2 h3 (by simp)
  |goto l=>
   obtain⟨F2,t2,s',q1,q2,k0,k1,k2,k3⟩:=aae h3 h2
   refine⟨_,k1,s',t2,F2,s1.trans (h1.trans q1),?_,rfl,k0,k2⟩
   rw[← AT k3]
   exact q2
  |ret=>exact hq .ret t' σ' F' w' a' (s1.trans h1) h2 h3 (by simp)
 |cJ j b off len es cs e l h1 h2 h3 h4 h ih=>
  intro F w a Q hs hq
  obtain⟨F1,k1,k2⟩:=hs.cJ h1 h2 h3 h4
  exact ih k2 (fun e t' σ' F' w' a' q1 q2 q3 q4=>hq e t' σ' F' w' a' (k1.trans q1) q2 q3 q4)
 |dO h1 h ih=>
  intro F w a Q hs hq
  exact ih (hs.dO h1) hq
 |wrap k v h1 h2 h ih=>
  intro F w a Q hs hq
  exact ih (hs.wrap h1 h2) hq
structure NC(F:Nat→Prop)(w:World)(F':Nat→Prop)(w':World):Prop where
 sub:∀b,FC F w b→F' b
 cells:∀b,oz w b→w'.heap[b]?=w.heap[b]?
theorem NC.at_{F F':Nat→Prop}{w w':World}(h:NC F w F' w'){b:Nat}(hc:oz w b):oz w' b:=by
 obtain⟨c,T,fz,e⟩:=hc
 exact⟨c,T,fz,(h.cells b ⟨c,T,fz,e⟩).trans e⟩
theorem NC.fc{F F':Nat→Prop}{w w':World}(h:NC F w F' w'){b:Nat}(hf:FC F w b):FC F' w' b:=⟨h.sub b hf,h.at_ hf.2⟩
theorem lh.nc{F F':Nat→Prop}{w w':World}(hn:NC F w F' w'):∀(s:Sh) (cs:List Value) (d:s.T),lh F w s cs d→lh F' w' s cs d:=by
 intro s
 induction s with
 |int k=>exact fun _ _ h=>h
 |bool=>exact fun _ _ h=>h
 |str=>exact fun _ _ h=>h
 |nil=>exact fun _ _ h=>h
 |slice e ih=>
  rintro cs l ⟨a,c,h1,h2,h3,h0,h4⟩
  refine⟨a,c,h1,h2,h3,h0,fun aX=>?_⟩
  obtain⟨b,o,rfl,hF,hi⟩:=h4 aX
  refine⟨b,o,rfl,hn.fc hF,fun i h=>?_⟩
  obtain⟨cs',q1,q2,q3⟩:=hi i h
  exact⟨cs',q1,q2.fix (hn.cells b hF.2),ih _ _ q3⟩
 |field f r qS jZ=>
  rintro cs d ⟨c1,c2,h1,h2,h3,h4⟩
  exact⟨c1,c2,h1,h2,qS _ _ h3,jZ _ _ h4⟩
theorem aA.nc{F F':Nat→Prop}{w w':World}(hn:NC F w F' w'){x:AV}{v:Value}(h:aA F w x v):aA F' w' x v:=by
 induction h with
 |int k n=>exact .int k n
 |bool b=>exact .bool b
 |str s=>exact .str s
 |ae e l v h=>exact .ae e l v (lh.nc hn _ _ _ h)
 |kI a=>exact .kI a
 |gQ a c h=>exact .gQ a c h
 |ai=>exact .ai
 |af b off len e a cap h=>
  obtain⟨c,T,fz,h1,h2⟩:=h
  exact .af b off len e a cap ⟨c,T,fz,(hn.cells b ⟨c,T,fz,h1⟩).trans h1,h2⟩
 |cY=>exact .cY
 |ptr b off h=>exact .ptr b off (hn.at_ h)
 |nJ b=>exact .nJ b
 |nT b=>exact .nT b
 |gi cs b o f hF h1 hl h ih=>exact .gi cs b o f (hn.fc hF) (fun i x hx=>(L9 (hn.cells b hF.2) _).trans (h1 i x hx)) hl ih
 |agg cs vs hs hl h ih=>exact .agg cs vs hs hl ih
 |tup cs vs hs h ih=>exact .tup cs vs hs ih
 |iface t a v h ih=>exact .iface t a v ih
 |nilif=>exact .nilif
 |fn f c1 c2 v1 v2 fy gO h1 h2 Fe Fc=>exact .fn f c1 c2 v1 v2 fy gO Fe Fc
 |iT=>exact .iT
 |pR=>exact .pR
 |gA n b h=>exact .gA n b h
 |gb n m a b h1 h2=>exact .gb n m a b h1 h2
 |any v=>exact .any v
 |via x v hl h ih=>exact .via x v hl ih
theorem Holds.nc{F F':Nat→Prop}{w w':World}(hn:NC F w F' w'){b:Nat}{cs:List AV}(h:Holds F w b cs)(hb:w'.heap[b]?=w.heap[b]?)(hF:¬F' b):Holds F' w' b cs:=by
 obtain⟨_,⟨c,T,h1,h2,h3⟩ | ⟨x,o,h1,h2,h3⟩ | ⟨L,t,h1,h2,h3⟩⟩:=h
 ·exact⟨hF,.inl ⟨c,T,hb.trans h1,h2,fun i x hx=>⟨(h3 i x hx).1,(h3 i x hx).2.nc hn⟩⟩⟩
 ·exact⟨hF,.inr (.inl ⟨x,o,h1,hb.trans h2,h3⟩)⟩
 ·exact⟨hF,.inr (.inr ⟨L,t,h1,hb.trans h2,fun i=>(h3 i).nc hn⟩)⟩
theorem bu.nc{F F':Nat→Prop}{w w':World}{σ:Hp}(h:bu F w σ)(hn:NC F w F' w')(hk:∀p∈σ,w'.heap[p.1]?=w.heap[p.1]?∧¬F' p.1)(fv:∀b,F' b→b<w'.heap.size):bu F' w' σ:=
 ⟨h.nodup,fun p hp=>(h.holds p hp).nc hn (hk p hp).1 (hk p hp).2,fv⟩
theorem bu.out{F:Nat→Prop}{w:World}{σ:Hp}(h:bu F w σ){b:Nat}(hb:F b):∀p∈σ,p.1≠b:=fun p hp e=>(h.holds p hp).1 (e▸hb)
theorem MU{F F':Nat→Prop}{w:World}{l:Nat}{L L':Loop}(hl:w.heap[l]?=some (.loop L))(hs:∀b,b≠l→F b→F' b):NC F w F' (w.putObj l (.loop L')) where
 sub:=fun b ⟨hF,c,T,fz,hc⟩=>hs b (fun e=>by subst e;rw[hl]at hc;cases hc) hF
 cells:=fun b ⟨c,T,fz,hc⟩=>World.putObj_heap_other (fun e=>by subst e;rw[hl]at hc;cases hc)
theorem LP{w:World}{l:Nat}{L L':Loop}(hl:w.heap[l]?=some (.loop L))(b:Nat)(c:Array Value)(T:TypeId)(fz:Nat×Nat)(h:w.heap[b]?=some (.cells c T fz)):(w.putObj l (.loop L')).heap[b]?=some (.cells c T fz):=
 (World.putObj_heap_other (fun e=>by subst e;rw[hl]at h;cases h)).trans h
def Bs:Ex→Code
 |.normal=>.skip
 |.exit i=>.exit i
 |.goto l=>.goto l
 |.ret=>.ret
def kh(fn:FuncId)(tm:Array Value)(ps:Array Tmp)(gC body:Code)(D:Nat)(st:LoopState)(pe:Option Code):Loop:= { state:=st,pending:=pe,fn,tmps:=tm,params:=ps,assign:=gC,body,defers:=D }
theorem Vm{n:Nat}{F:Nat→Prop}{w:World}:∀(ps:List Tmp) (xs:List AV) (us:List Value) (t:Tm) (tm:Array Value),xs.length=us.length→ps.all (fun p=>Nat.blt p n)=true→n≤tm.size→(∀i,aA F w (t i) (tm.getD i undef))→(∀(i:Nat) (x:AV),xs[i]?=some x→aA F w x (us.getD i undef))→
  n≤((ps.zip us).foldl (fun t p=>t.setIfInBounds p.1 p.2) tm).size∧∀i,aA F w (BY ps xs t i) (((ps.zip us).foldl (fun t p=>t.setIfInBounds p.1 p.2) tm).getD i undef)
 | [],xs,us,t,tm,_,_,hs,ht,_=>by cases xs <;> exact⟨hs,ht⟩
 |p::ps,[],us,t,tm,hl,_,hs,ht,_=>by cases us with
  |nil=>exact⟨hs,ht⟩
  |cons u us=>cases hl
 |p::ps,x::xs,[],t,tm,hl,_,_,_,_=>by cases hl
 |p::ps,x::xs,u::us,t,tm,hl,hp,hs,ht,hx=>by
  simp only[List.all_cons,bO]at hp
  have s6:p<n:=cI hp.1
  refine Vm ps xs us (put t (some p) x) (tm.setIfInBounds p u) (by simpa using hl) hp.2 (by simpa using hs) (fun i=>?_) (fun i y hy=>by simpa using hx (i+1) y (by simpa using hy))
  show aA F w (match Nat.beq i p with | true=>x | false=>t i) _
  cases hb:Nat.beq i p with
  |true=>
   obtain rfl:=jN hb
   have hi:i<tm.size:=sl s6 hs
   simpa [Array.getD,hi]using hx 0 x rfl
  |false=>
   have aX:p≠i:=fun e=>by subst e;rw[yu]at hb;cases hb
   have:=ht i
   rw[im]at this ⊢
   rw[KK aX]
   exact this
def Iw(P:Program)(B n l:Nat)(c:Code)(R:Tm→Hp→(Ex→Tm→Hp→Prop)→Prop):Prop:=
 ∀(t:Tm) (σ:Hp) (K:Ex→Tm→Hp→Prop) (F:Nat→Prop) (w:World) (a:Act) (Q:Exit→Act→World→Prop),R t σ K→dx B n F w t σ a→
  (∀e t' σ' F' w' a',bH F w F' w'→dx B n F' w' t' σ' a'→K e t' σ'→Q e.up a' w')→c.wpIn (FW (some l)) 0 P Q a w
theorem Yf{B n l D:Nat}{fn:FuncId}{tm:Array Value}{ps:Array Tmp}{gC body:Code}{t:Tm}{rA rB:Tm→Hp→(Ex→Tm→Hp→Prop)→Prop}(hB:B≤l)(hn:n≤tm.size)(yf:ps.toList.all (fun p=>Nat.blt p n)=true)
  (hA:Iw P B n l gC rA) (hb:Iw P B n l body rB) {xs:List AV} {ko:Hp} {R1:Ex→Hp→Prop} (OB:xs.length=ps.size)
  (h:rA (BY ps.toList xs t) ko fun e t' σ'=>match e with | .normal=>rB t' σ' (fun e _ kG=>R1 e kG) | _=>False) :
  Iv P l xs ((l,[.mP (kh fn tm ps gC body D .ready none) t])::ko) (NH l (.mP (kh fn tm ps gC body D .ready none) t) (fun e=>.mP (kh fn tm ps gC body D .done (some (Bs e))) t) R1):=by
 intro F w vs bR aF
 obtain⟨J8,hl,o8⟩:=(aF.holds _ (cj ..)).Wj
 have cf:=aF.nodup
 simp only[pq,mE]at cf
 have hll:l<w.heap.size:=tW hl
 have eF:vs.size=ps.size:=bR.1.symm.trans OB
 refine⟨fn,_,gC,body,run_yield hl eF,roundIn_of_wpIn trivial ?_⟩
 have Om:bH F w (fun b=>F b∨b=l) w:=⟨rfl,rfl,rfl,a8 _,fun _ h=>.inl h,fun _ _=>rfl,fun _ c _ fz h=>⟨c,fz,h,rfl⟩,a8 _⟩
 have aX:∀p∈ko,p.1≠l:=fun p hp e=>cf.1 (dT.2 ⟨p,hp,e⟩)
 have NQ:bu (fun b=>F b∨b=l) w ko:=⟨cf.2,fun p hp=>(aF.holds p (dp _ hp)).mono Om rfl (fun h=>h.elim (aF.holds p (dp _ hp)).1 (aX p hp)),fun b h=>h.elim (aF.low b) (fun e=>e▸hll)⟩
 have hz:(ps.zip vs).foldl (fun tmps (t,a)=>tmps.setIfInBounds t a) tm=(ps.toList.zip vs.toList).foldl (fun t p=>t.setIfInBounds p.1 p.2) tm:=by
  rw[← Array.foldl_toList,Array.toList_zip]
 obtain⟨k1,k2⟩:=Vm (n:=n) (F:=fun b=>F b∨b=l) (w:=w) ps.toList xs vs.toList t tm (by rw[PM];exact bR.1) yf hn (fun i=>(o8 i).mono Om) (fun i x hx=>by
  have:=(bR.2 i x hx).mono Om
  rw[im]at this
  rw[aZ,Cz]
  exact this)
 refine hA _ _ _ _ w { tmps:=(ps.zip vs).foldl (fun tmps (t,a)=>tmps.setIfInBounds t a) tm,defers:=[] } _ h ⟨fun i=>by rw[hz];exact k2 i,NQ,by rw[hz];exact k1,⟨by omega,.nil,fun d hd=>by cases hd⟩⟩ ?_
 intro e t1 σ2 F1 w1 a1 st1 s1 h1
 cases e with
 |exit i=>exact h1.elim
 |goto i=>exact h1.elim
 |ret=>exact h1.elim
 |normal=>
  have yi:w1.heap[l]?=some (.loop (kh fn tm ps gC body D .ready none)):=(st1.fix l (.inr rfl)).trans hl
  have Pq:F1 l:=st1.sub l (.inr rfl)
  have ail:l<w1.heap.size:=tW yi
  refine⟨_,run_beginRound yi rfl,?_⟩
  have mC:({ kh fn tm ps gC body D .ready none with state:=LoopState.busy }:Loop)=kh fn tm ps gC body D .busy none:=rfl
  rw[mC]
  have nc1:NC F1 w1 F1 (w1.putObj l (.loop (kh fn tm ps gC body D .busy none))):=MU yi fun _ _ h=>h
  have N4:(w1.putObj l (.loop (kh fn tm ps gC body D .busy none))).heap[l]?=some (.loop (kh fn tm ps gC body D .busy none)):=World.putObj_heap_same ail
  refine hb t1 σ2 _ F1 _ a1 _ h1 ⟨fun i=>(s1.tm i).nc nc1,s1.hp.nc nc1 (fun p hp=>⟨World.putObj_heap_other (s1.hp.out Pq p hp),(s1.hp.holds p hp).1⟩) (fun b hb=>by rw[World.putObj_size];exact s1.hp.low b hb),s1.size,⟨by rw[World.putObj_size];exact s1.defers.low,s1.defers.nodup,fun d hd=>by
   obtain⟨D',q1,q2,q3,q4⟩:=s1.defers.is d hd
   refine⟨D',q1,q2,q3,(World.putObj_heap_other (fun e=>?_)).trans q4⟩
   subst e;rw[yi]at q4;cases q4⟩⟩ ?_
  intro e t3 ew F3 w3 a3 pX s3 h3
  have hF3:F3 l:=pX.sub l Pq
  have sc:w3.heap[l]?=some (.loop (kh fn tm ps gC body D .busy none)):=(pX.fix l Pq).trans N4
  have aik:l<w3.heap.size:=tW sc
  have fin:∀L':Loop,bH F w (fun b=>F3 b∧b≠l) (w3.putObj l (.loop L'))∧((∀i,L'.tmps.getD i undef=tm.getD i undef)→bu (fun b=>F3 b∧b≠l) (w3.putObj l (.loop L')) ((l,[.mP L' t])::ew)):=by
   intro L'
   have nc3:NC F3 w3 (fun b=>F3 b∧b≠l) (w3.putObj l (.loop L')):=MU sc fun b hb h=>⟨h,hb⟩
   have stw:bH F w (fun b=>F3 b∧b≠l) (w3.putObj l (.loop L')):= {
    os:=pX.os.trans st1.os
    tape:=pX.tape.trans st1.tape
    output:=pX.output.trans st1.output
    size:=by
     have q1:=st1.size
     have q3:=pX.size
     rw[World.putObj_size]at q3 ⊢
     omega
    sub:=fun b hF=>⟨pX.sub b (st1.sub b (.inl hF)),fun e=>J8 (e▸hF)⟩
    fix:=fun b hF=>by
     have nh:b≠l:=fun e=>J8 (e▸hF)
     rw[World.putObj_heap_other nh,pX.fix b (st1.sub b (.inl hF)),World.putObj_heap_other nh,st1.fix b (.inl hF)]
    rows:=fun b c T fz hc=>by
     obtain⟨c1,fz1,q1,q2⟩:=st1.rows b c T fz hc
     obtain⟨c3,KP,q3,q4⟩:=pX.rows b c1 T fz1 (LP yi b c1 T fz1 q1)
     exact⟨c3,KP,LP sc b c3 T KP q3,q4.trans q2⟩
    drawn:=eH st1.drawn pX.drawn }
   refine⟨stw,fun ai2=>⟨?_,fun p hp=>?_,fun b hb=>?_⟩⟩
   ·simp only[pq,mE]
    exact⟨fun hm=>by obtain⟨p,hp,e⟩:=dT.1 hm;exact s3.hp.out hF3 p hp e,s3.hp.nodup⟩
   ·rcases eB.1 hp with rfl | hp
    ·exact⟨fun h=>h.2 rfl,.inr (.inr ⟨L',t,rfl,World.putObj_heap_same aik,fun i=>by rw[ai2];exact (o8 i).mono stw⟩)⟩
    ·exact (s3.hp.holds p hp).nc nc3 (World.putObj_heap_other (s3.hp.out hF3 p hp)) (fun h=>(s3.hp.holds p hp).1 h.1)
   ·rw[World.putObj_size];exact s3.hp.low b hb.1
  have Nk:∀e:Ex,e≠.normal→R1 e ew→∃v w',(Instr.endRound l (some (Bs e))).run P w3=.ok v w'∧∃r v' σ' F',Ending.returned v=.returned v'∧bH F w F' w'∧bu F' w' σ'∧aA F' w' r v'∧NH l (.mP (kh fn tm ps gC body D .ready none) t) (fun e=>.mP (kh fn tm ps gC body D .done (some (Bs e))) t) R1 r σ':=fun e he hr=>by
   obtain⟨q1,q2⟩:=fin (kh fn tm ps gC body D .done (some (Bs e)))
   exact⟨_,_,run_endRound _ sc,.bool false,_,_,_,rfl,q1,q2 (fun _=>rfl),.bool _,.inr ⟨rfl,e,ew,he,rfl,hr⟩⟩
  cases e with
  |normal=>
   obtain⟨q1,q2⟩:=fin (kh fn tm ps gC body D .ready none)
   exact⟨_,_,run_endRound none sc,.bool true,_,_,_,rfl,q1,q2 (fun _=>rfl),.bool _,.inl ⟨rfl,ew,rfl,h3⟩⟩
  |exit i=>exact Nk (.exit i) (by simp) h3
  |goto i=>exact Nk (.goto i) (by simp) h3
  |ret=>exact Nk .ret (by simp) h3
theorem Yk{B n:Nat}{g:Operand}{ps:Array Tmp}{gC body:Code}{t:Tm}{gf:FuncId}{cap:List AV}{rA rB:Tm→Hp→(Ex→Tm→Hp→Prop)→Prop}(hg:ev t g=.fn (.func gf) [] cap)(yf:ps.toList.all (fun p=>Nat.blt p n)=true)
  (hA:∀l,Iw P B n l gC rA) (hb:∀l,Iw P B n l body rB) {K:Ex→Hp→Prop} {σ:Hp}
  (h:Bl P gf cap ps.size (fun xs ko R1=>rA (BY ps.toList xs t) ko fun e t' σ'=>match e with | .normal=>rB t' σ' (fun e _ kG=>R1 e kG) | _=>False) K σ):∀{F:Nat→Prop} {w:World} {a:Act} {Q:Exit→Act→World→Prop},dx B n F w t σ a→
  (∀e σ' F' w' a',bH F w F' w'→dx B n F' w' t σ' a'→K e σ'→Q e.up a' w')→(Code.rangeFunc g ps gC body).wpIn (FW none) 0 P Q a w:=by
 induction h with
 |dO h1 h ih=>exact fun hs hq=>ih (hs.dO h1) hq
 | @mk σ go=>
  intro F w a Q hs hq
  have yj:=hs.tm.eval g
  rw[hg]at yj
  cases hv:a.eval g with
  |func f' v1 lb=>
   rw[hv]at yj
   obtain⟨rfl,rfl,Ja⟩:f'=.func gf∧v1 = #[]∧ji F w cap lb:=by cases yj with | fn _ _ _ _ _ fy gO h1 h2=>exact⟨rfl,Gd.1 fy.symm,gO,h2⟩
   refine wpIn_rangeFunc ?_
   intro fn _
   have e1:=run_enterLoop_outer (P:=P) (w:=w) fn a.tmps ps gC body
   obtain⟨l,hle⟩:∃l,l=w.heap.size+1:=⟨_,rfl⟩
   obtain⟨D,hD⟩:∃D,D=w.heap.size:=⟨_,rfl⟩
   obtain⟨W1,wM⟩:∃W1,W1=(w.alloc (.deferred (some []))).alloc (.loop (kh fn a.tmps ps gC body D .ready none)):=⟨_,rfl⟩
   have hlW:W1.heap[l]?=some (.loop (kh fn a.tmps ps gC body D .ready none)):=by
    rw[wM,hle];have:=World.alloc_heap_new (w.alloc (.deferred (some []))) (.loop (kh fn a.tmps ps gC body D .ready none));rwa [World.size_alloc]at this
   have hDW:W1.heap[D]?=some (.deferred (some [])):=by
    rw[wM,hD];exact (Below.heap_alloc _ _ _ (by simp)).trans (World.alloc_heap_new w _)
   have hold:∀b,b<w.heap.size→W1.heap[b]?=w.heap[b]?:=fun b hb=>by
    rw[wM];exact (Below.heap_alloc _ _ b (by simp;omega)).trans (Below.heap_alloc _ _ b hb)
   have eF:W1.heap.size=w.heap.size+2:=by rw[wM];simp
   have st1:bH F w (fun b=>F b∨b=D) W1:=⟨by rw[wM];rfl,by rw[wM];rfl,by rw[wM];rfl,by omega,fun _ h=>.inl h,fun b hb=>hold b (hs.hp.low b hb),fun b c _ fz hc=>⟨c,fz,(hold b (tW hc)).trans hc,rfl⟩,by rw[wM];exact a8 _⟩
   obtain⟨oS,hG⟩:=go l (.mP (kh fn a.tmps ps gC body D .ready none) t) (fun e=>.mP (kh fn a.tmps ps gC body D .done (some (Bs e))) t) (fun xs ko R1 OB Ah=>Yf (by have:=hs.defers.low;omega) hs.size yf (hA l) (hb l) OB Ah)
   have NQ:bu (fun b=>F b∨b=D) W1 ((l,[.mP (kh fn a.tmps ps gC body D .ready none) t])::σ):=by
    refine⟨?_,fun p hp=>?_,fun b hb=>?_⟩
    ·simp only[pq,mE]
     refine⟨fun hm=>?_,hs.hp.nodup⟩
     obtain⟨p,hp,e⟩:=dT.1 hm
     have:=(hs.hp.holds p hp).lt
     omega
    ·rcases eB.1 hp with rfl | hp
     ·exact⟨fun h=>h.elim (fun h=>by have:l<w.heap.size:=hs.hp.low l h;omega) (fun h=>by have:l=D:=h;omega),.inr (.inr ⟨_,t,rfl,hlW,fun i=>(hs.tm i).mono st1⟩)⟩
     ·have ab:=(hs.hp.holds p hp).lt
      exact (hs.hp.holds p hp).mono st1 (hold _ ab) (fun h=>h.elim (hs.hp.holds p hp).1 (fun e=>by omega))
    ·rcases hb with hb | hb
     ·have:=hs.hp.low b hb;omega
     ·omega
   have bR:ji (fun b=>F b∨b=D) W1 (.fn (.yield l) [] []::cap) (#[.func (.yield l) #[] #[]]++lb):=
    show ji _ _ ([.fn (.yield l) [] []]++cap) _ from Gs (Rz (.fn _ _ _ _ _ rfl rfl (fun i x h=>by simp at h) (fun i x h=>by simp at h))) (Ja.mono st1)
   have ku:∀d∈a.defers,d≠{ target:=.collected D,args:= #[] }:=fun d hd e=>by
    obtain⟨D',q1,_,_,q4⟩:=hs.defers.is d hd
    rw[q1]at e
    cases e
    have:=tW q4
    omega
   refine⟨l,[{ target:=.collected D,args:= #[] }],W1,{ target:=.fn (.func gf) lb,args:= #[.func (.yield l) #[] #[]] },W1,gf,#[.func (.yield l) #[] #[]]++lb,W1,?_,?_,fun _ _=>trivial,?_,fun hd=>(by cases hd),?_⟩
   ·rw[wM,hle,hD];exact e1
   ·simp only[resolve,hv]
    simp[go_sem]
   ·have:=oS (#[.func (.yield l) #[] #[]]++lb) W1
    simpa [invoke]using this
   ·refine callsIn_wide.2 ((hG _ W1 _ bR NQ).mono ?_)
    rintro e w3 ⟨rv,v,σ',F',rfl,pX,EK,_,hR⟩
    have NL:=st1.trans pX
    have fin:∀(L':Loop) (σ2:Hp),σ'=(l,[.mP L' t])::σ2→L'.state≠.busy→∃w4,(Instr.endLoop l).run P w3=.ok L'.pending w4∧bH F w F' w4∧dx B n F' w4 t σ2 { a with defers:=[{ target:=.collected D,args:= #[] }]++a.defers }:=by
     intro L' σ2 e an
     subst e
     obtain⟨J8,sc,_⟩:=(EK.holds _ (cj ..)).Wj
     have cf:=EK.nodup
     simp only[pq,mE]at cf
     have aX:∀p∈σ2,p.1≠l:=fun p hp e=>cf.1 (dT.2 ⟨p,hp,e⟩)
     have nc:NC F' w3 F' (w3.putObj l (.loop { L' with state:=.exhausted })):=MU sc fun _ _ h=>h
     have hDF:F' D:=pX.sub D (.inr rfl)
     have Ol:bH F' w3 F' (w3.putObj l (.loop { L' with state:=.exhausted })):=⟨rfl,rfl,rfl,by rw[World.putObj_size];exact a8 _,fun _ h=>h,fun b hb=>World.putObj_heap_other (fun e=>J8 (e▸hb)),fun b c T fz hc=>⟨c,fz,LP sc b c T fz hc,rfl⟩,a8 _⟩
     refine⟨_,run_endLoop sc an,NL.trans Ol,fun i=>((hs.tm i).mono NL).nc nc,?_,hs.size,?_⟩
     ·exact⟨cf.2,fun p hp=>(EK.holds p (dp _ hp)).nc nc (World.putObj_heap_other (aX p hp)) (EK.holds p (dp _ hp)).1,fun b hb=>by rw[World.putObj_size];exact EK.low b hb⟩
     ·have hm:=hs.defers.mono (NL.trans Ol)
      refine⟨hm.low,?_,fun d hd=>?_⟩
      ·simp only[F4,uH,mE]
       exact⟨fun h=>ku _ h rfl,hm.nodup⟩
      ·rcases eB.1 hd with rfl | hd
       ·exact⟨D,rfl,by have:=hs.defers.low;omega,hDF,(Ol.fix D hDF).trans ((pX.fix D (.inr rfl)).trans hDW)⟩
       ·exact hm.is d hd
    rcases hR with ⟨σ2,e,hk⟩ | ⟨ex,σ2,aX,e,hk⟩
    ·obtain⟨w4,k1,k2,k3⟩:=fin _ σ2 e (by simp[kh])
     exact⟨none,w4,k1,hq .normal σ2 F' w4 _ k2 k3 hk⟩
    ·obtain⟨w4,k1,k2,k3⟩:=fin _ σ2 e (by simp[kh])
     refine⟨some (Bs ex),w4,k1,?_⟩
     have OJ:=hq ex σ2 F' w4 _ k2 k3 hk
     cases ex with
     |normal=>exact absurd rfl aX
     |exit i=>exact wpIn_exit OJ
     |goto i=>exact wpIn_goto OJ
     |ret=>exact wpIn_ret OJ
  |_=>rw[hv]at yj;cases yj
theorem YD(ok:dI P TT)(hm:P.follows .mixedOrders=true){B n:Nat}:∀(fuel:Nat) (c:Code) (t:Tm) (σ:Hp) (K:Ex→Tm→Hp→Prop) (F:Nat→Prop) (w:World) (a:Act) (Q:Exit→Act→World→Prop) (r:Option Nat),codeOk n r.isSome c=true→mQ P TT fuel c t σ K→dx B n F w t σ a→
  (∀e t' σ' F' w' a',bH F w F' w'→dx B n F' w' t' σ' a'→K e t' σ'→Q e.up a' w')→c.wpIn (FW r) 0 P Q a w:=by
 intro fuel
 induction fuel with
 |zero=>intro c t σ K F w a Q r _ h;exact h.elim
 |succ fuel ih=>
  intro c t σ K F w a Q r hc h hs hq
  cases c with
  |skip=>exact wpIn_skip (hq .normal t σ F w a (.refl _ _) hs h)
  |label l=>exact wpIn_label (hq .normal t σ F w a (.refl _ _) hs h)
  |exit id=>exact wpIn_exit (hq (.exit id) t σ F w a (.refl _ _) hs h)
  |goto l=>exact wpIn_goto (hq (.goto l) t σ F w a (.refl _ _) hs h)
  |ret=>exact wpIn_ret (hq .ret t σ F w a (.refl _ _) hs h)
  |region id ops draw=>
   have hd:=agh (n:=n) (ops:=ops.toList) hc
   have cf:=ah3 (n:=n) (ops:=ops.toList) hc
   cases draw with
   |false=>exact Yg cf (Lg ok ops.toList t σ _ F w a hd h hs (fun t' σ' F' w' a' h1 h2 h3=>hq .normal t' σ' F' w' a' h1 h2 h3))
   |true=>
    have h:gq P TT ops.toList (K .normal) t σ:=h
    exact Zs ok hm hd cf h hs (fun t' σ' F' w' a' h1 h2 h3=>hq .normal t' σ' F' w' a' h1 h2 h3)
  |seq x y=>
   simp only[codeOk,bO]at hc
   refine wpIn_seq (ih x t σ _ F w a _ r hc.1 h hs ?_)
   intro e t' σ' F' w' a' h1 h2 h3
   cases e with
   |normal=>exact ih y t' σ' K F' w' a' Q r hc.2 h3 h2 (fun e zY kG oq mu P6 k1 k2 k3=>hq e zY kG oq mu P6 (h1.trans k1) k2 k3)
   |exit id=>exact hq (.exit id) t' σ' F' w' a' h1 h2 h3
   |goto l=>exact hq (.goto l) t' σ' F' w' a' h1 h2 h3
   |ret=>exact hq .ret t' σ' F' w' a' h1 h2 h3
  |cond x y z=>
   simp only[codeOk,bO]at hc
   have h:(match ev t x with | .bool b=>(match b with | true=>mQ P TT fuel y t σ K | false=>mQ P TT fuel z t σ K) | _=>False):=h
   have hx:=hs.tm.eval x
   split at h
   ·rename_i b hb
    rw[hb]at hx
    refine wpIn_cond (t:=b) hx.rQ ?_
    cases b with
    |true=>exact ih y t σ K F w a Q r hc.1 h hs hq
    |false=>exact ih z t σ K F w a Q r hc.2 h hs hq
   ·exact h.elim
  |block id c=>
   refine wpIn_block (ih c t σ _ F w a _ r hc h hs ?_)
   intro e t' σ' F' w' a' h1 h2 h3
   cases e with
   |normal=>exact hq .normal t' σ' F' w' a' h1 h2 h3
   |exit i=>
    show (if i=id then Q .normal a' w' else Q (.exit i) a' w')
    have h3:(match Nat.beq i id with | true=>K .normal t' σ' | false=>K (.exit i) t' σ'):=h3
    cases hb:Nat.beq i id with
    |true=>rw[hb]at h3;rw[ah (jN hb)];exact hq .normal t' σ' F' w' a' h1 h2 h3
    |false=>
     rw[hb]at h3
     rw[ag (fun e=>by subst e;rw[yu]at hb;cases hb)]
     exact hq (.exit i) t' σ' F' w' a' h1 h2 h3
   |goto l=>exact hq (.goto l) t' σ' F' w' a' h1 h2 h3
   |ret=>exact hq .ret t' σ' F' w' a' h1 h2 h3
  |loop c=>
   have h:mR (fun t σ Q=>mQ P TT fuel c t σ Q) K t σ:=h
   exact Zd (fun t σ K F w a Q h hs hq=>ih c t σ K F w a Q r hc h hs hq) h hs hq
  |scope c=>
   simp only[codeOk,bO,lH]at hc
   obtain⟨hr,hc⟩:=hc
   obtain rfl:r=none:=by cases r with | none=>rfl | some l=>cases hr
   refine wpIn_wide.2 (XT (wpIn_wide.1 (ih c t σ _ F w a _ none hc h hs ?_)))
   intro e t' σ' F' w' a' h1 h2 h3
   cases e with
   |normal=>exact .normal (hq .normal t' σ' F' w' a' h1 h2 h3)
   |exit i=>exact .exit (hq (.exit i) t' σ' F' w' a' h1 h2 h3)
   |ret=>exact .ret (hq .ret t' σ' F' w' a' h1 h2 h3)
   |goto l=>
    have h3:rT (fun l t σ Q=>match findLabel c l with | some r=>mQ P TT fuel r t σ Q | none=>False) l K t' σ':=h3
    exact Zk (fun l t σ K F w a Q h hs hq=>by
     have h:(match findLabel c l with | some r=>mQ P TT fuel r t σ K | none=>False):=h
     split at h
     ·rename_i r hr
      exact⟨r,hr,wpIn_wide.1 (ih r t σ K F w a Q none (ace c l r hr hc) h hs hq)⟩
     ·exact h.elim) h3 h2 (fun e zY kG oq mu P6 k1 k2 k3 k4=>hq e zY kG oq mu P6 (h1.trans k1) k2 k3)
  |rangeFunc g ps gC body=>
   simp only[codeOk,bO,lH]at hc
   obtain⟨⟨⟨hr,yf⟩,mB⟩,oa⟩:=hc
   obtain rfl:r=none:=by cases r with | none=>rfl | some l=>cases hr
   have h:(match ev t g with | .fn (.func gf) [] cap=>Bl P gf cap ps.size (fun xs ko R1=>mQ P TT fuel gC (BY ps.toList xs t) ko fun e t' σ'=>match e with | .normal=>mQ P TT fuel body t' σ' (fun e _ kG=>R1 e kG) | _=>False) (fun e σ'=>K e t σ') σ | _=>False):=h
   split at h
   ·rename_i gf cap hg
    exact Yk hg yf (fun l t σ K F w a Q h hs hq=>ih gC t σ K F w a Q (some l) mB h hs hq) (fun l t σ K F w a Q h hs hq=>ih body t σ K F w a Q (some l) oa h hs hq) h hs (fun e σ' F' w' a' k1 k2 k3=>hq e t σ' F' w' a' k1 k2 k3)
   ·exact h.elim
  |refuse=>exact h.elim
inductive Fin(R:AV→Hp→Prop):AV→Hp→Prop where
 |done {r:AV} {σ:Hp} (h:R r σ):Fin R r σ
 |pull {r:AV} {σ:Hp} (js:List Nat) (h:Fin R r (oF js σ)):Fin R r σ
 |drop {r:AV} {σ:Hp} (k n:Nat) (h:Fin R r (σ.take k++σ.drop (k+n))):Fin R r σ
 |perm {r:AV} {σ σ2:Hp} (hp:σ2.Perm σ) (h:Fin R r σ2):Fin R r σ
 |cJ {r r':AV} {σ:Hp} (j b off len es:Nat) (cs:List AV) (e:Sh) (l:List e.T) (h1:σ[j]?=some (b,cs)) (h2:(cs.drop off).take (len*es)=l.flatMap e.cells) (h3:l.length=len∧e.size=es∧0<es) (h4:eO b off len es e l r r') (h:Fin R r' (σ.eraseIdx j)):Fin R r σ
 |nil {r r':AV} {σ:Hp} (h4:eO 0 0 0 0 .bool [] r r') (h:Fin R r' σ):Fin R r σ
 |dO {r:AV} {σ σ2:Hp} (h1:jv σ σ2) (h:Fin R r σ2):Fin R r σ
 |kl {r:AV} {σ:Hp} (j b off len es:Nat) (cs:List AV) (e:Sh) (l:List e.T) (h1:σ[j]?=some (b,cs)) (h2:(cs.drop off).take (len*es)=l.flatMap e.cells) (h3:l.length=len∧e.size=es∧0<es) (i k b':Nat) (cs':List AV) (hi:(σ.eraseIdx j)[i]?=some (b',cs')) (hk:cs'[k]?=some (.af b off len es)) (h:Fin R r ((σ.eraseIdx j).set i (b',cs'.set k (.ae e l)))):Fin R r σ
theorem Sf{R:AV→Hp→Prop}{r:AV}{σ:Hp}(h:Fin R r σ):∀(F:Nat→Prop) (w:World) (v:Value),bu F w σ→aA F w r v→∃r' σ' F',bH F w F' w∧bu F' w σ'∧aA F' w r' v∧R r' σ':=by
 induction h with
 |done h=>exact fun F w v aF hv=>⟨_,_,F,.refl _ _,aF,hv,h⟩
 |pull js h ih=>exact fun F w v aF hv=>ih F w v (aF.perm (yN js _)) hv
 |perm hp h ih=>exact fun F w v aF hv=>ih F w v (aF.perm hp) hv
 | @drop r σ k n h ih=>
  intro F w v aF hv
  refine ih F w v (aF.sub ?_) hv
  have h1:(σ.drop (k+n)).Sublist (σ.drop k):=by
   rw[← FU]
   exact List.drop_sublist _ _
  have h2:=(List.Sublist.refl (σ.take k)).append h1
  rwa [CB]at h2
 | @cJ r r' σ j b off len es cs e l h1 h2 h3 h4 h ih=>
  intro F w v aF hv
  obtain⟨an,oQ,hh⟩:=vv aF h1 h2 h3
  obtain⟨On,kG,oq,k1,k2,k3,k4⟩:=ih _ w v oQ (yG an hh h4 v hv)
  exact⟨On,kG,oq,an.trans k1,k2,k3,k4⟩
 |dO h1 h ih=>exact fun F w v aF hv=>ih F w v (aF.dO h1) hv
 |kl j b off len es cs e l h1 h2 h3 i k b' cs' hi hk h ih=>
  intro F w v aF hv
  obtain⟨an,oQ,hh⟩:=vv aF h1 h2 h3
  obtain⟨On,kG,oq,k1,k2,k3,k4⟩:=ih _ w v (Dr oQ hh hi hk) (hv.mono an)
  exact⟨On,kG,oq,an.trans k1,k2,k3,k4⟩
 |nil h4 h ih=>
  intro F w v aF hv
  refine ih F w v aF (yG (.refl _ _) (fun v hv=>?_) h4 v hv)
  obtain⟨a,cap,rfl,c,T,fz,m1,m2,m3,m4⟩:=hv.lr
  exact .ae _ _ _ ⟨some a,cap,rfl,m2,m3,(fun e=>by cases e),fun aX=>absurd rfl aX⟩
def t0(xs:List AV):Tm:=fun i=>match xs[i]? with | some x=>x | none=>.any
def IZ:List AV→AV
 | [v]=>v
 |vs=>.tup vs
def Ey(TT:TypeId→Option TI)(l:List ResultVar):Tm→Hp→(List AV→Prop)→Prop:=
 List.rec (motive:=fun _=>Tm→Hp→(List AV→Prop)→Prop) (fun _ _ K=>K [])
  (fun x _ ih t σ K=>match x with
   |.tmp d=>strict (t d) fun v=>ih t σ fun vs=>K (bU v::vs)
   |.cell d ty=>match TT ty with | some i=>qC i (t d) σ fun v=>ih t σ fun vs=>K (v::vs) | none=>False) l
def vH(TT:TypeId→Option TI)(rs:List ResultVar)(R:AV→Hp→Prop)(e:Ex)(t:Tm)(σ:Hp):Prop:=
 match e with
 |.normal | .ret=>Ey TT rs t σ fun vs=>Fin R (IZ vs) σ
 |_=>False
def vJ(P:Program)(TT:TypeId→Option TI)(fn:Func)(xs:List AV)(σ:Hp)(R:AV→Hp→Prop):Prop:=
 match fn.body with
 |some c=>mQ P TT 1000 c (t0 xs) σ (vH TT fn.results.toList R)
 |none=>False
def funcOk (fn : Func) : Bool := (match fn.body with | some c => codeOk fn.ntmps false c | none => false) && !(fn.name == "runtime.NumGoroutine")
theorem enters_of{f:FuncId}{fn:Func}(hf:P.funcs[f]?=some fn)(h:funcOk fn=true):Enters P f:=by
 unfold funcOk at h
 simp only[bO,lH]at h
 obtain⟨h1,h2⟩:=h
 have hb:fn.body.isNone=false:=by
  cases hb:fn.body with
  |none=>rw[hb]at h1;cases h1
  |some c=>rfl
 intro args w
 unfold callFunc
 simp only[Sem.run_bind,run_program,Result.andThen_ok,hf,h2,hb]
 rfl
theorem Yo(ok:dI P TT){ty:TypeId}{i:TI}(hi:TT ty=some i){x:AV}{σ:Hp}{K:AV→Prop}(h:qC i x σ K):∃v,K v∧∀(F:Nat→Prop) (w:World) (u:Value),aA F w x u→bu F w σ→∃v',(do loadVar ty (← asAddr u):Sem Value).run P w=.ok v' w∧aA F w v v':=by
 unfold qC at h
 split at h
 ·split at h
  ·rename_i v hv
   refine⟨v,h,fun F w u hu aF =>?_⟩
   obtain⟨b,o',rfl,hF,eb⟩:=hu.y9
   obtain⟨v',h1,h2⟩:=GG ok hi eb hv
   rw[wO]at h1
   exact⟨v',by simp[asAddr,h1],h2⟩
  ·exact h.elim
 ·obtain⟨j,cs,v,h1,h2,go⟩:=h
  refine⟨v,go,fun F w u hu aF =>?_⟩
  have O2:=hu.AN
  obtain rfl:=hu.zG
  obtain⟨v',h3,h4⟩:=GG ok hi (aF.at_ h1 O2) h2
  rw[dR]at h3
  exact⟨v',by simp[asAddr,h3],h4⟩
 ·exact h.elim
def H6(tmps:Array Value):ResultVar→Sem Value
 |.tmp t=>pure (tmps.getD t undef)
 |.cell d t=>do loadVar t (← asAddr (tmps.getD d undef))
theorem adQ{F:Nat→Prop}{w:World}:∀(vs:List AV) (us:List Value),vs.length=us.length→(∀(i:Nat) (x:AV),vs[i]?=some x→aA F w x (us.getD i undef))→aA F w (IZ vs) (if h:us.toArray.size=1 then us.toArray[0] else .tuple us.toArray)
 | [v],[u],_,h=>by simpa [IZ]using h 0 v rfl
 | [],[],_,_=>.tup _ _ rfl (fun i x h=>by simp at h)
 |v::v2::vs,u::u2::us,hl,h=>by
  rw[dif_neg (by simp)]
  refine .tup _ _ (by simpa using hl) (fun i x hx=>?_)
  have:=h i x hx
  rw[aZ]at this
  rw[im,Ap]
  exact this
 | [],_::_,hl,_=>by simp at hl
 |_::_,[],hl,_=>by simp at hl
 | [_],_::_::_,hl,_=>by simp at hl
 |_::_::_,[_],hl,_=>by simp at hl
theorem Ld(ok:dI P TT):∀(rs:List ResultVar) (t:Tm) (σ:Hp) (K:List AV→Prop),Ey TT rs t σ K→∀(F:Nat→Prop) (w:World) (a:Act),uj F w t a→bu F w σ→
  ∃vs us,K vs∧(rs.mapM (H6 a.tmps)).run P w=.ok us w∧vs.length=us.length∧∀(i:Nat) (x:AV),vs[i]?=some x→aA F w x (us.getD i undef)
 | [],t,σ,K,h,F,w,a,_,_=>⟨[],[],h,rfl,rfl,fun i x h=>by simp at h⟩
 |.tmp d::rs,t,σ,K,h,F,w,a,ht,aF=>by
  have h:strict (t d) fun v=>Ey TT rs t σ fun vs=>K (bU v::vs):=h
  rw[yS]at h
  obtain⟨vs,us,h1,h2,h3,h4⟩:=Ld ok rs t σ _ h F w a ht aF
  refine⟨_,a.tmps.getD d undef::us,h1,?_,by simp[h3],fun i x hi=>?_⟩
  ·rw[List.mapM_cons]
   simp only[H6,Sem.run_bind,Sem.run_pure,Result.andThen_ok,h2]
  ·cases i with
   |zero=>simp at hi;subst hi;exact (ht d).bU
   |succ i=>simpa using h4 i x (by simpa using hi)
 |.cell d ty::rs,t,σ,K,h,F,w,a,ht,aF=>by
  have h:(match TT ty with | some i=>qC i (t d) σ fun v=>Ey TT rs t σ fun vs=>K (v::vs) | none=>False):=h
  split at h
  ·rename_i i hi
   obtain⟨v,h,hv⟩:=Yo ok hi h
   obtain⟨v',k1,k2⟩:=hv F w _ (ht d) aF
   obtain⟨vs,us,h1,h2,h3,h4⟩:=Ld ok rs t σ _ h F w a ht aF
   refine⟨_,v'::us,h1,?_,by simp[h3],fun i x hi=>?_⟩
   ·have k1':(H6 a.tmps (.cell d ty)).run P w=.ok v' w:=k1
    rw[List.mapM_cons]
    simp only[Sem.run_bind,k1',Sem.run_pure,Result.andThen_ok,h2]
   ·cases i with
    |zero=>simp at hi;subst hi;exact k2
    |succ i=>simpa using h4 i x (by simpa using hi)
  ·exact h.elim
def shut(w:World)(ds:List Deferred):World:=ds.foldl (fun w d=>match d.target with | .collected D=>w.putObj D (.deferred none) | _=>w) w
def Be(D:Nat)(ds:List Deferred):Prop:=({ target:=.collected D,args:= #[] }:Deferred)∈ds
theorem Y0{ds:List Deferred}:∀{w:World},(∀d∈ds,∃D,d = { target:=.collected D,args:= #[] })→∀b,¬Be b ds→(shut w ds).heap[b]?=w.heap[b]?:=by
 induction ds with
 |nil=>exact fun _ _ _=>rfl
 |cons d ds ih=>
  intro w hd b hb
  obtain⟨D,rfl⟩:=hd d (cj ..)
  have hbD:b≠D:=fun e=>hb (by subst e;exact cj ..)
  exact (ih (w:=w.putObj D (.deferred none)) (fun d h=>hd d (dp _ h)) b (fun h=>hb (dp _ h))).trans (World.putObj_heap_other hbD)
theorem ZX{ds:List Deferred}:∀{w:World},(shut w ds).os=w.os∧(shut w ds).tape=w.tape∧(shut w ds).output=w.output∧(shut w ds).heap.size=w.heap.size∧(shut w ds).drawn=w.drawn:=by
 induction ds with
 |nil=>exact fun {w}=>⟨rfl,rfl,rfl,rfl,rfl⟩
 |cons d ds ih=>
  intro w
  obtain⟨t,gC⟩:=d
  cases t with
  |collected D=>
   obtain⟨h1,h2,h3,h4,h5⟩:=ih (w:=w.putObj D (.deferred none))
   exact⟨h1,h2,h3,h4.trans World.putObj_size,h5⟩
  |_=>exact ih
theorem Qm{fn:Func}{tm:Array Value}{R:Ending→World→Prop}:∀(ds:List Deferred) (w:World),ds.Nodup→(∀d∈ds,∃D,d = { target:=.collected D,args:= #[] }∧w.heap[D]?=some (.deferred (some [])))→
  (∃v,(results fn tm).run P (shut w ds)=.ok v (shut w ds)∧R (.returned v) (shut w ds))→LeavesInM Fence.wide 0 P fn tm R ds .returning w
 | [],_,_,_,h=>h
 |d::ds,w,cf,hd,h=>by
  obtain⟨D,rfl,hw⟩:=hd d (cj ..)
  obtain⟨sb,o9⟩:=mE.1 cf
  refine⟨by simp,.inl ⟨D,_,rfl,run_takeDeferred hw,Qm ds _ o9 (fun d hm=>?_) h⟩⟩
  obtain⟨D',rfl,hw'⟩:=hd d (dp _ hm)
  exact⟨D',rfl,(World.putObj_heap_other (fun e=>sb (by subst e;exact hm))).trans hw'⟩
theorem aaV(ok:dI P TT)(hm:P.follows .mixedOrders=true){f:FuncId}{fn:Func}{xs:List AV}{σ:Hp}{R:AV→Hp→Prop}(hf:P.funcs[f]?=some fn)(cb:funcOk fn=true)(h:vJ P TT fn xs σ R):ACalls P f xs σ R:=by
 refine⟨enters_of hf cb,fun F w vs bR aF =>?_⟩
 unfold funcOk at cb
 simp only[bO]at cb
 unfold vJ at h
 cases hb:fn.body with
 |none=>rw[hb]at h;exact h.elim
 |some c=>
  rw[hb]at h
  have hc:codeOk fn.ntmps false c=true:=by have:=cb.1;rw[hb]at this;exact this
  refine callsIn_wide.1 (callsIn_of_wp_marks (n:=0) hf hb trivial (YD (B:=w.heap.size) ok hm 1000 c (t0 xs) σ _ F w _ _ none hc h ⟨fun i=>?_,aF,by simp;omega,⟨Nat.le_refl _,.nil,fun d hd=>by cases hd⟩⟩ ?_))
  ·show aA F w (match xs[i]? with | some x=>x | none=>.any) ((vs++Array.replicate (fn.ntmps-vs.size) undef).getD i undef)
   cases hi:xs[i]? with
   |none=>exact .any _
   |some x=>
    have ab:i<vs.size:=by rw[← bR.1];exact (ck.1 hi).1
    have:=bR.2 i x hi
    rw[im]at this ⊢
    rw[KN ab]
    exact this
  ·intro e t' σ' F' w' a' h1 h2 h3
   have fin:Ey TT fn.results.toList t' σ' (fun vs=>Fin R (IZ vs) σ')→LeavesInM Fence.wide 0 P fn a'.tmps (fun e w'=>∃r v σ' F',e=.returned v∧bH F w F' w'∧bu F' w' σ'∧aA F' w' r v∧R r σ') a'.defers .returning w':=by
    intro h3
    have hmk:∀d∈a'.defers,∃D,d = { target:=.collected D,args:= #[] }:=fun d hd=>(h2.defers.is d hd).imp fun _ h=>h.1
    refine Qm a'.defers w' h2.defers.nodup (fun d hd=>(h2.defers.is d hd).imp fun _ h=>⟨h.1,h.2.2.2⟩) ?_
    have hD:∀b,Be b a'.defers→w.heap.size≤b∧F' b∧w'.heap[b]?=some (.deferred (some [])):=fun b hb=>by
     obtain⟨D,q1,q2,q3,q4⟩:=h2.defers.is _ hb
     cases q1
     exact⟨q2,q3,q4⟩
    have EM:=Y0 (w:=w') hmk
    obtain⟨z1,z2,z3,z4,z5⟩:=ZX (w:=w') (ds:=a'.defers)
    obtain⟨w2,wC⟩:∃w2,w2=shut w' a'.defers:=⟨_,rfl⟩
    rw[← wC]at EM z1 z2 z3 z4 z5 ⊢
    have lQ:∀b,oz w' b→¬Be b a'.defers:=fun b ⟨c,T,fz,hc⟩ hb=>by
     rw[(hD b hb).2.2]at hc;cases hc
    have nc:NC F' w' (fun b=>F' b∧¬Be b a'.defers) w2:=⟨fun b hb=>⟨hb.1,lQ b hb.2⟩,fun b hb=>EM b (lQ b hb)⟩
    have st2:bH F w (fun b=>F' b∧¬Be b a'.defers) w2:= {
     os:=z1.trans h1.os
     tape:=z2.trans h1.tape
     output:=z3.trans h1.output
     size:=by rw[z4];exact h1.size
     sub:=fun b hF=>⟨h1.sub b hF,fun hb=>by have:=(hD b hb).1;have:=aF.low b hF;omega⟩
     fix:=fun b hF=>by
      rw[EM b (fun hb=>by have:=(hD b hb).1;have:=aF.low b hF;omega)]
      exact h1.fix b hF
     rows:=fun b c T fz hc=>by
      obtain⟨c',sm,q1,q2⟩:=h1.rows b c T fz hc
      exact⟨c',sm,(EM b (lQ b ⟨c',T,sm,q1⟩)).trans q1,q2⟩
     drawn:=by rw[z5];exact h1.drawn }
    have WY:bu (fun b=>F' b∧¬Be b a'.defers) w2 σ':=h2.hp.nc nc (fun p hp=>⟨EM p.1 (fun hb=>(h2.hp.holds p hp).1 (hD p.1 hb).2.1),fun h=>(h2.hp.holds p hp).1 h.1⟩) (fun b hb=>by rw[z4];exact h2.hp.low b hb.1)
    obtain⟨eL,us,k1,k2,k3,k4⟩:=Ld ok _ _ _ _ h3 _ w2 a' (fun i=>(h2.tm i).nc nc) WY
    have ai7:(results fn a'.tmps).run P w2=.ok (if h:us.toArray.size=1 then us.toArray[0] else .tuple us.toArray) w2:=by
     rw[show results fn a'.tmps=(do let vs ← fn.results.mapM (H6 a'.tmps);pure (if h:vs.size=1 then vs[0] else .tuple vs)) from rfl]
     rw[Sem.run_bind,Array.mapM_eq_mapM_toList]
     simp only[Sem.run_map,k2,Result.andThen_ok]
     rfl
    have ai9:=adQ eL us k3 k4
    obtain⟨r',kG,oq,q1,q2,q3,q4⟩:=Sf k1 _ w2 _ WY ai9
    exact⟨_,ai7,r',_,kG,oq,rfl,st2.trans q1,q2,q3,q4⟩
   cases e with
   |normal=>exact fin h3
   |ret=>exact fin h3
   |exit i=>exact h3.elim
   |goto l=>exact h3.elim
theorem ACalls.mono{f:FuncId}{xs:List AV}{σ:Hp}{R R':AV→Hp→Prop}(h:ACalls P f xs σ R)(hr:∀r σ',R r σ'→R' r σ'):ACalls P f xs σ R':=
 ⟨h.1,fun F w vs hv aF=>(h.2 F w vs hv aF).mono fun _ _ ⟨r,v,σ',F',h1,h2,h3,h4,h5⟩=>⟨r,v,σ',F',h1,h2,h3,h4,hr _ _ h5⟩⟩
theorem ACalls.fin{f:FuncId}{xs:List AV}{σ:Hp}{R R':AV→Hp→Prop}(h:ACalls P f xs σ R)(hr:∀r σ',R r σ'→Fin R' r σ'):ACalls P f xs σ R':=
 ⟨h.1,fun F w vs hv aF=>(h.2 F w vs hv aF).mono fun _ _ ⟨r,v,σ',F',h1,h2,h3,h4,h5⟩=>by
  obtain⟨r',kG,oq,q1,q2,q3,q4⟩:=Sf (hr _ _ h5) F' _ v h3 h4
  exact⟨r',v,kG,oq,h1,h2.trans q1,q2,q3,q4⟩⟩
def Sh.pos:Sh→Bool
 |.slice e=>decide (0<e.size)&&e.pos
 |.field f r=>f.pos&&r.pos
 |_=>true
theorem Sb{w:World}:∀(s:Sh) (cs:List Value) (d:s.T),s.pos=true→Reads w s cs d→lh (fun b=>b<w.heap.size) w s cs d:=by
 intro s
 induction s with
 |int k=>exact fun _ _ _ h=>h.1
 |bool=>exact fun _ _ _ h=>h
 |str=>exact fun _ _ _ h=>h.1
 |nil=>exact fun _ _ _ h=>h
 |slice e ih=>
  rintro cs l hp ⟨a,c,h1,h2,h3,h0,h4⟩
  simp only[Sh.pos,bO,decide_eq_true_eq]at hp
  refine⟨a,c,h1,h2,h3,h0,fun aX=>?_⟩
  obtain⟨b,o,rfl,hi⟩:=h4 aX
  have uf:0<l.length:=mG.2 aX
  refine⟨b,o,rfl,?_,fun i h=>?_⟩
  ·obtain⟨cs',q1,q2,q3⟩:=hi 0 uf
   cases cs' with
   |nil=>simp at q1;omega
   |cons u cs'=>
    have lQ:=q2 0 u rfl
    unfold World.cell? at lQ
    cases ho:w.heap[b]? with
    |none=>simp[ho]at lQ
    |some x=>
     cases x with
     |cells c T fz=>exact⟨tW ho,c,T,fz,ho⟩
     |_=>simp[ho]at lQ
  ·obtain⟨cs',q1,q2,q3⟩:=hi i h
   exact⟨cs',q1,q2,ih _ _ hp.2 q3⟩
 |field f r qS jZ=>
  rintro cs d hp ⟨c1,c2,h1,h2,h3,h4⟩
  simp only[Sh.pos,bO]at hp
  exact⟨c1,c2,h1,h2,qS _ _ hp.1 h3,jZ _ _ hp.2 h4⟩
theorem ag4{f:FuncId}{xs:List AV}(h:ACalls P f xs [] (fun r _=>r=.bool true)){w:World}{vs:Array Value}(hv:ji (fun b=>b<w.heap.size) w xs vs):
  Calls P f vs w fun e w'=>e=.returned (.bool true)∧Below w.heap.size w w':=by
 refine (h.2 _ w vs hv ⟨by simp,(fun p hp=>by cases hp),fun _ h=>h⟩).mono ?_
 rintro e w' ⟨r,v,σ',F',rfl,h1,h2,h3,rfl⟩
 rw[h3.rQ]
 exact⟨rfl,h1.os,h1.tape,h1.output,h1.size,fun k hk=>h1.fix k hk⟩
end
end Go.Proofs.YtnikdflhefijbaaGreat
namespace Go.Proofs.YtnikdflhefijbaaGreat
abbrev az:AV:=.int .i64 0
abbrev aD:Option TI:=some ⟨.func,1,8,[.iT]⟩
abbrev iU(n:Nat):Option TI:=some ⟨.ptr n,1,8,[.cY]⟩
abbrev oM(n:Nat):Option TI:=some ⟨.slice n,1,24,[.ai]⟩
abbrev IX:Option TI:=some ⟨.int .i64,1,8,[.int .i64 0]⟩
def tbl:List (List (Option TI)):=[
 [none,aD,IX,IX,some ⟨.bool,1,1,[.bool false]⟩,some ⟨.int .u8,1,1,[.int .u8 0]⟩,some ⟨.int .u8,1,1,[.int .u8 0]⟩,some ⟨.bj [(0,2),(1,3),(2,4),(3,6)],4,24,[az,az,.bool false,.int .u8 0]⟩,some ⟨.bj [(0,2),(1,3),(2,4),(3,6)],4,24,[az,az,.bool false,.int .u8 0]⟩,some ⟨.str,1,16,[.str ByteArray.empty]⟩,some ⟨.str,1,16,[.str ByteArray.empty]⟩,some ⟨.str,1,16,[.str ByteArray.empty]⟩,some ⟨.int .u64,1,8,[.int .u64 0]⟩,some ⟨.bj [(0,9),(1,12)],2,24,[.str ByteArray.empty,.int .u64 0]⟩,some ⟨.bj [(0,9),(1,12)],2,24,[.str ByteArray.empty,.int .u64 0]⟩,iU 386],[iU 389,iU 397,some ⟨.bj [(0,17)],1,8,[.cY]⟩,some ⟨.bj [(0,17)],1,8,[.cY]⟩,some ⟨.iface,1,16,[.nilif]⟩,some ⟨.int .i32,1,4,[.int .i32 0]⟩,oM 227,oM 3,oM 56,oM 93,some ⟨.bj [(0,3),(1,3),(2,3),(3,22),(4,23),(5,24),(6,25)],7,120,[az,az,az,.ai,.ai,.ai,.ai]⟩,some ⟨.bj [(0,3),(1,3),(2,3),(3,22),(4,23),(5,24),(6,25)],7,120,[az,az,az,.ai,.ai,.ai,.ai]⟩,oM 121,aD,aD,oM 24],[some ⟨.bj [(0,31),(1,3),(2,3),(3,3)],4,48,[.ai,az,az,az]⟩,some ⟨.bj [(0,31),(1,3),(2,3),(3,3)],4,48,[.ai,az,az,az]⟩,IX,none,aD,oM 4,some ⟨.bj [(0,31),(1,37),(2,3),(3,3),(4,3),(5,3),(6,23),(7,23),(8,37)],9,152,[.ai,.ai,az,az,az,az,.ai,.ai,.ai]⟩,some ⟨.bj [(0,31),(1,37),(2,3),(3,3),(4,3),(5,3),(6,23),(7,23),(8,37)],9,152,[.ai,.ai,az,az,az,az,.ai,.ai,.ai]⟩,none,aD,some ⟨.bj [(0,3),(1,3),(2,3),(3,3)],4,32,[az,az,az,az]⟩,some ⟨.bj [(0,3),(1,3),(2,3),(3,3)],4,32,[az,az,az,az]⟩,none,aD,iU 58,oM 123],[none,aD,none,aD,none,aD,aD,aD,some ⟨.int .u64,1,8,[.int .u64 0]⟩,some ⟨.bj [(0,24)],1,24,[.ai]⟩,some ⟨.bj [(0,24)],1,24,[.ai]⟩,aD,aD,aD,some ⟨.int .u16,1,2,[.int .u16 0]⟩,aD],[aD,aD,aD,aD,aD,aD,aD,none,aD,aD,aD,none,aD,oM 84,none,aD],[none,aD,aD,some ⟨.bj [(0,3),(1,3),(2,56),(3,56),(4,56),(5,4)],6,48,[az,az,.int .u64 0,.int .u64 0,.int .u64 0,.bool false]⟩,some ⟨.bj [(0,3),(1,3),(2,56),(3,56),(4,56),(5,4)],6,48,[az,az,.int .u64 0,.int .u64 0,.int .u64 0,.bool false]⟩,some ⟨.bj [(0,3),(1,3),(2,3),(3,3)],4,32,[az,az,az,az]⟩,none,aD,aD,aD,aD,oM 233,some ⟨.bj [(0,24),(1,24),(2,91)],3,72,[.ai,.ai,.ai]⟩,some ⟨.bj [(0,24),(1,24),(2,91)],3,72,[.ai,.ai,.ai]⟩,iU 217,oM 168],[some ⟨.bj [(0,23),(1,37),(2,3)],3,56,[.ai,.ai,az]⟩,some ⟨.bj [(0,23),(1,37),(2,3)],3,56,[.ai,.ai,az]⟩,some ⟨.bj [(0,94),(1,85),(5,95),(6,97)],9,120,[.cY,az,az,az,az,.ai,.ai,.ai,az]⟩,some ⟨.bj [(0,94),(1,85),(5,95),(6,97)],9,120,[.cY,az,az,az,az,.ai,.ai,.ai,az]⟩,none,aD,aD,aD,aD,some ⟨.bj [(0,3),(1,3)],2,16,[az,az]⟩,some ⟨.bj [(0,3),(1,3)],2,16,[az,az]⟩,aD,aD,aD,aD,aD],[aD,some ⟨.bj [(0,3),(1,3)],2,16,[az,az]⟩,some ⟨.bj [(0,3),(1,3)],2,16,[az,az]⟩,aD,aD,aD,aD,aD,some ⟨.bj [(0,3),(1,3)],2,16,[az,az]⟩,some ⟨.bj [(0,3),(1,3)],2,16,[az,az]⟩,aD,iU 129,aD,iU 238,iU 245,iU 242],[some ⟨.bj [(0,27),(7,43),(11,3),(12,3),(13,3),(14,4),(15,23),(16,24),(17,125),(18,126),(19,127),(20,24),(21,3),(22,3),(23,4)],24,304,[az,az,az,.ai,.ai,.ai,.ai,az,az,az,az,az,az,az,.bool false,.ai,.ai,.cY,.cY,.cY,.ai,az,az,.bool false]⟩,some ⟨.bj [(0,27),(7,43),(11,3),(12,3),(13,3),(14,4),(15,23),(16,24),(17,125),(18,126),(19,127),(20,24),(21,3),(22,3),(23,4)],24,304,[az,az,az,.ai,.ai,.ai,.ai,az,az,az,az,az,az,az,.bool false,.ai,.ai,.cY,.cY,.cY,.ai,az,az,.bool false]⟩,aD,aD,aD,none,aD,aD,aD,aD,aD,aD,aD,iU 165,some ⟨.bj [(0,141)],1,8,[.cY]⟩,some ⟨.bj [(0,141)],1,8,[.cY]⟩],[none,aD,aD,aD,aD,aD,oM 23,aD,aD,aD,aD,aD,aD,aD,aD,aD],[some ⟨.iface,1,16,[.nilif]⟩,some ⟨.iface,1,16,[.nilif]⟩,some ⟨.bj [(0,161)],1,16,[.nilif]⟩,some ⟨.bj [(0,161)],1,16,[.nilif]⟩,some ⟨.bj [(0,163),(1,77)],2,40,[.nilif,.ai]⟩,some ⟨.bj [(0,163),(1,77)],2,40,[.nilif,.ai]⟩,aD,aD,iU 186,none,aD,aD,aD,oM 176,aD,some ⟨.iface,1,16,[.nilif]⟩],[some ⟨.iface,1,16,[.nilif]⟩,aD,aD,some ⟨.bj [(0,3),(1,3),(2,3)],3,24,[az,az,az]⟩,some ⟨.bj [(0,3),(1,3),(2,3)],3,24,[az,az,az]⟩,aD,aD,aD,some ⟨.iface,1,16,[.nilif]⟩,some ⟨.bj [(0,3),(1,3),(2,4),(3,27),(10,85),(14,3),(15,3),(16,184),(17,3),(18,4),(19,23),(20,24),(21,4)],22,280,[az,az,.bool false,az,az,az,.ai,.ai,.ai,.ai,az,az,az,az,az,az,.nilif,az,.bool false,.ai,.ai,.bool false]⟩,some ⟨.bj [(0,3),(1,3),(2,4),(3,27),(10,85),(14,3),(15,3),(16,184),(17,3),(18,4),(19,23),(20,24),(21,4)],22,280,[az,az,.bool false,az,az,az,.ai,.ai,.ai,.ai,az,az,az,az,az,az,.nilif,az,.bool false,.ai,.ai,.bool false]⟩,aD,aD,aD,aD,aD],[aD,none,aD,some ⟨.bj [(0,3),(1,3),(2,56),(3,56)],4,32,[az,az,.int .u64 0,.int .u64 0]⟩,some ⟨.bj [(0,3),(1,3),(2,56),(3,56)],4,32,[az,az,.int .u64 0,.int .u64 0]⟩,aD,aD,aD,aD,aD,aD,aD,none,aD,aD,aD],[aD,aD,aD,aD,aD,some ⟨.bj [(0,3)],1,8,[az]⟩,some ⟨.bj [(0,3)],1,8,[az]⟩,aD,some ⟨.bj [(0,214),(1,24)],2,32,[az,.ai]⟩,some ⟨.bj [(0,214),(1,24)],2,32,[az,.ai]⟩,aD,none,aD,aD,none,aD],[aD,aD,some ⟨.bj [(0,3),(1,3)],2,16,[az,az]⟩,some ⟨.bj [(0,3),(1,3)],2,16,[az,az]⟩,some ⟨.bj [(0,3),(1,3)],2,16,[az,az]⟩,some ⟨.bj [(0,3),(1,3)],2,16,[az,az]⟩,some ⟨.bj [(0,3),(1,229)],3,24,[az,az,az]⟩,some ⟨.bj [(0,3),(1,229)],3,24,[az,az,az]⟩,some ⟨.bj [(0,3),(1,3),(2,231),(5,231)],8,64,[az,az,az,az,az,az,az,az]⟩,some ⟨.bj [(0,3),(1,3),(2,231),(5,231)],8,64,[az,az,az,az,az,az,az,az]⟩,aD,aD,aD,some ⟨.bj [(0,3),(1,3),(2,3),(3,56),(4,4),(5,4),(6,3),(7,56),(8,56),(9,56)],10,72,[az,az,az,.int .u64 0,.bool false,.bool false,az,.int .u64 0,.int .u64 0,.int .u64 0]⟩,some ⟨.bj [(0,3),(1,3),(2,3),(3,56),(4,4),(5,4),(6,3),(7,56),(8,56),(9,56)],10,72,[az,az,az,.int .u64 0,.bool false,.bool false,az,.int .u64 0,.int .u64 0,.int .u64 0]⟩,aD],[aD,some ⟨.bj [(0,3),(1,3),(2,3),(3,24),(4,3),(5,4),(6,56),(7,4),(8,4),(9,3)],10,88,[az,az,az,.ai,az,.bool false,.int .u64 0,.bool false,.bool false,az]⟩,some ⟨.bj [(0,3),(1,3),(2,3),(3,24),(4,3),(5,4),(6,56),(7,4),(8,4),(9,3)],10,88,[az,az,az,.ai,az,.bool false,.int .u64 0,.bool false,.bool false,az]⟩,aD,some ⟨.bj [(0,3),(1,3),(2,3),(3,3),(4,3),(5,4),(6,4),(7,4),(8,3)],9,56,[az,az,az,az,az,.bool false,.bool false,.bool false,az]⟩,some ⟨.bj [(0,3),(1,3),(2,3),(3,3),(4,3),(5,4),(6,4),(7,4),(8,3)],9,56,[az,az,az,az,az,.bool false,.bool false,.bool false,az]⟩,aD,none,aD,aD,aD,aD,aD,some ⟨.int .u64,1,8,[.int .u64 0]⟩,none,aD],[aD,aD,aD,aD,aD,aD,aD,aD,aD,aD,aD,aD,aD,none,aD,aD],[aD,aD,aD,aD,aD,aD,aD,aD,aD,aD,aD,aD,some ⟨.int .u32,1,4,[.int .u32 0]⟩,none,aD,none],[aD,none,aD,aD,aD,aD,aD,aD,aD,aD,aD,aD,aD,aD,aD,aD],[aD,aD,aD,IX,none,aD,aD,aD,none,aD,aD,aD,aD,aD,aD,aD],[aD,aD,aD,aD,aD,some ⟨.bj [(0,150),(1,23),(2,23),(3,37),(4,23),(5,3),(6,150)],7,152,[.ai,.ai,.ai,.ai,.ai,az,.ai]⟩,some ⟨.bj [(0,150),(1,23),(2,23),(3,37),(4,23),(5,3),(6,150)],7,152,[.ai,.ai,.ai,.ai,.ai,az,.ai]⟩,aD,aD,aD,aD,some ⟨.int .u64,1,8,[.int .u64 0]⟩,aD,aD,aD,iU 3],[aD,aD,aD,aD,aD,aD,iU 326,some ⟨.bj [(0,3),(1,3)],2,16,[az,az]⟩,some ⟨.bj [(0,3),(1,3)],2,16,[az,az]⟩,aD,oM 344,iU 344,aD,aD,aD,aD],[aD,iU 331,aD,aD,aD,aD,oM 360,some ⟨.bj [(0,3),(1,3)],2,16,[az,az]⟩,some ⟨.bj [(0,3),(1,3)],2,16,[az,az]⟩,iU 360,aD,aD,aD,aD,none,aD],[aD,aD,aD,aD,aD,aD,aD,aD,aD,aD,aD,aD,some ⟨.gb,1,16,[.gb 0 0]⟩,aD,some ⟨.gA,1,8,[.gA 0]⟩,aD],[aD,some ⟨.bj [(0,17),(1,17),(2,17),(3,9)],4,40,[.cY,.cY,.cY,.str ByteArray.empty]⟩,some ⟨.bj [(0,17),(1,17),(2,17),(3,9)],4,40,[.cY,.cY,.cY,.str ByteArray.empty]⟩,some ⟨.arr 0 16,0,0,[]⟩,some ⟨.bj [(0,387)],0,0,[]⟩,some ⟨.bj [(0,387)],0,0,[]⟩,some ⟨.int .u8,1,1,[.int .u8 0]⟩,some ⟨.int .u8,1,1,[.int .u8 0]⟩,aD,iU 5,some ⟨.int .i32,1,4,[.int .i32 0]⟩,some ⟨.int .i32,1,4,[.int .i32 0]⟩,some ⟨.bj [(0,12),(1,12),(2,284),(3,390),(4,5),(5,5),(6,391),(7,392),(8,393),(9,394),(10,395)],11,48,[.int .u64 0,.int .u64 0,.int .u32 0,.int .u8 0,.int .u8 0,.int .u8 0,.int .u8 0,.iT,.cY,.int .i32 0,.int .i32 0]⟩,some ⟨.bj [(0,12),(1,12),(2,284),(3,390),(4,5),(5,5),(6,391),(7,392),(8,393),(9,394),(10,395)],11,48,[.int .u64 0,.int .u64 0,.int .u32 0,.int .u8 0,.int .u8 0,.int .u8 0,.int .u8 0,.iT,.cY,.int .i32 0,.int .i32 0]⟩,aD,iU 403],[some ⟨.bj [(0,3),(1,56),(2,56),(3,56)],4,32,[az,.int .u64 0,.int .u64 0,.int .u64 0]⟩,some ⟨.bj [(0,3),(1,56),(2,56),(3,56)],4,32,[az,.int .u64 0,.int .u64 0,.int .u64 0]⟩,some ⟨.bj [(0,114),(2,56),(3,4),(4,4),(5,401)],9,64,[az,az,.int .u64 0,.bool false,.bool false,az,.int .u64 0,.int .u64 0,.int .u64 0]⟩,some ⟨.bj [(0,114),(2,56),(3,4),(4,4),(5,401)],9,64,[az,az,.int .u64 0,.bool false,.bool false,az,.int .u64 0,.int .u64 0,.int .u64 0]⟩,iU 405,some ⟨.bj [(0,114),(2,56),(3,4),(4,4),(5,401)],9,64,[az,az,.int .u64 0,.bool false,.bool false,az,.int .u64 0,.int .u64 0,.int .u64 0]⟩,iU 408,some ⟨.bj [(0,106),(2,4),(3,4)],4,24,[az,az,.bool false,.bool false]⟩,some ⟨.bj [(0,106),(2,4),(3,4)],4,24,[az,az,.bool false,.bool false]⟩,iU 411,some ⟨.bj [(0,106),(2,3),(3,4)],4,32,[az,az,az,.bool false]⟩,some ⟨.bj [(0,106),(2,3),(3,4)],4,32,[az,az,az,.bool false]⟩,iU 416,some ⟨.bj [(0,3),(1,4),(2,56)],3,24,[az,.bool false,.int .u64 0]⟩,some ⟨.bj [(0,3),(1,4),(2,56)],3,24,[az,.bool false,.int .u64 0]⟩,some ⟨.bj [(0,180),(3,24),(4,4),(5,414)],8,80,[az,az,az,.ai,.bool false,az,.bool false,.int .u64 0]⟩],[some ⟨.bj [(0,180),(3,24),(4,4),(5,414)],8,80,[az,az,az,.ai,.bool false,az,.bool false,.int .u64 0]⟩,iU 419,some ⟨.bj [(0,180),(3,24),(4,4),(5,4),(6,3),(7,414)],10,88,[az,az,az,.ai,.bool false,.bool false,az,az,.bool false,.int .u64 0]⟩,some ⟨.bj [(0,180),(3,24),(4,4),(5,4),(6,3),(7,414)],10,88,[az,az,az,.ai,.bool false,.bool false,az,az,.bool false,.int .u64 0]⟩,iU 424,some ⟨.bj [(0,4)],1,1,[.bool false]⟩,some ⟨.bj [(0,4)],1,1,[.bool false]⟩,some ⟨.bj [(0,106),(2,3),(3,4),(4,4),(5,422)],6,32,[az,az,az,.bool false,.bool false,.bool false]⟩,some ⟨.bj [(0,106),(2,3),(3,4),(4,4),(5,422)],6,32,[az,az,az,.bool false,.bool false,.bool false]⟩,iU 426,some ⟨.bj [(0,114),(2,56),(3,4),(4,4),(5,401)],9,64,[az,az,.int .u64 0,.bool false,.bool false,az,.int .u64 0,.int .u64 0,.int .u64 0]⟩,iU 429,some ⟨.bj [(0,106),(2,3),(3,4)],4,32,[az,az,az,.bool false]⟩,some ⟨.bj [(0,106),(2,3),(3,4)],4,32,[az,az,az,.bool false]⟩,aD,none]]
def tt(t:TypeId):Option TI:=match tbl[t / 16]? with | some r=>(match r[t % 16]? with | some x=>x | none=>none) | none=>none
theorem afB:Wc Tryz.prog tt 432=true:=by kernel_rfl
theorem adF(t:TypeId)(h:432≤t):tt t=none:=by
 unfold tt
 rw[uN (show tbl.length≤t / 16 from (Nat.le_div_iff_mul_le (by decide)).2 h)]
theorem agY:dI Tryz.prog tt:=adE afB adF
end Go.Proofs.YtnikdflhefijbaaGreat
namespace Go.Proofs.YtnikdflhefijbaaGreat
theorem okF{f:FuncId}{fn:Func}{xs:List AV}{σ:Hp}{R:AV→Hp→Prop}(hf:Tryz.prog.funcs[f]?=some fn)(cb:funcOk fn=true)(h:vJ Tryz.prog tt fn xs σ R):ACalls Tryz.prog f xs σ R:=
 aaV agY (by kernel_rfl) hf cb h
theorem ar{f:FuncId}{fn:Func}{xs:List AV}{σ:Hp}{R:AV→Hp→Prop}(hf:Tryz.prog.funcs[f]?=some fn)(h:vJ Tryz.prog tt fn xs σ R)(cb:funcOk fn=true:=by kernel_rfl):ACalls Tryz.prog f xs σ R:=okF hf cb h
theorem bQ{S:Type}(L:S→List (Nat×AV))(H:S→Hp)(p:S→Prop)(μ:S→Nat)(s0:S){body:Tm→Hp→(Ex→Tm→Hp→Prop)→Prop}{t:Tm}{σ:Hp}{Q:Ex→Tm→Hp→Prop}(h0:p s0∧agree t (L s0)∧σ=H s0)
  (round:∀s g,p s→body (eT g (L s)) (H s) (fun e t' σ'=>match e with | .normal=>pN L H p μ s t' σ' | e=>Q e t' σ')):mR body Q t σ:=.mk L H p μ s0 h0 round
theorem aY{S:Type}{L:S→List (Nat×AV)}{H:S→Hp}{p:S→Prop}{μ:S→Nat}{s:S}{t':Tm}{σ':Hp}(s':S)(h1:μ s'<μ s)(h2:p s')(h3:agree t' (L s'))(h4:jv σ' (H s')):pN L H p μ s t' σ':=.mk s' h1 h2 h3 h4
theorem next{S:Type}{L:S→List (Nat×AV)}{H:S→Hp}{p:S→Prop}{μ:S→Nat}{s:S}{t':Tm}{σ':Hp}(s':S)(h1:μ s'<μ s)(h2:p s')(h3:agree t' (L s'))(h4:σ'=H s'):pN L H p μ s t' σ':=.mk s' h1 h2 h3 (h4▸.refl _)
def upto(Q:List Nat)(n:Nat):Nat→rh:=Nat.rec (motive:=fun _=>Nat→rh) (fun _=>.stop) (fun _ ih i=>.one i (fh i Q) (ih (i+1))) n
theorem aL{σ σ2:Hp}(h:σ=σ2):jv σ σ2:=h▸.refl _
theorem CV{P:Program}{f:FuncId}{e:Sh}{l:List e.T}{σ:Hp}{R:AV→Hp→Prop}(h0:l=[]→ACalls P f [.ai] σ R∧ACalls P f [.gQ] σ R)(h1:l≠[]→ACalls P f [.ae e l] σ R):ACalls P f [.ae e l] σ R:=by
 by_cases hl:l=[]
 ·obtain⟨k0,k1⟩:=h0 hl
  refine⟨k0.1,fun F w vs bR aF =>?_⟩
  have hv:=bR.2 0 _ rfl
  have mU:∀y,aA F w y (vs.getD 0 undef)→ji F w [y] vs:=fun y hy=>⟨bR.1,fun i x hx=>by cases i <;> simp at hx;subst hx;exact hy⟩
  subst hl
  generalize hu:vs.getD 0 undef=u at hv mU
  cases hv with
  |ae _ _ _ hr=>
   obtain⟨a,c,e1,_,e3,e0,_⟩:=hr
   obtain rfl:=Kx.1 e1
   cases a with
   |none=>
    obtain rfl:=e0 rfl
    exact k0.2 F w vs (mU _ .ai) aF
   |some a=>exact k1.2 F w vs (mU _ (.gQ a c e3)) aF
 ·exact h1 hl
theorem aS{k:Nat}(h:k<1000000000):AV.int .i64 (IntKind.i64.wrap ((k:Int)+1))=AV.int .i64 ((k+1:Nat):Int):=by
 rw[show IntKind.i64.wrap ((k:Int)+1)=((k+1:Nat):Int) by rw[IntKind.wrap_i64];omega]
theorem get_some{α:Type}{l:List α}{k:Nat}(h:k<l.length):l[((k:Int)).toNat]?=some l[k]:=bh h
def ay(x:AV)(σ:Hp):AV→Hp→Prop:=fun r σ'=>r=x∧σ'=σ
theorem aw{P:Program}{f:FuncId}{xs:List AV}{σ:Hp}{K:AV→Hp→Prop}(js:List Nat){x:AV}{σ2:Hp}(h:ACalls P f xs (oF js σ) (ay x σ2))(k:K x σ2):CallAt P f K xs σ:=
 CallAt.mk js _ h fun _ _ ⟨h1,h2⟩=>h1▸h2▸k
theorem aI{P:Program}{f:FuncId}{xs:List AV}{σ:Hp}{K:AV→Prop}(js:List Nat){x:AV}(h:ACalls P f xs (oF js σ) (ay x (oF js σ)))(k:K x):tX P f xs σ K:=tX.mk js x h k
theorem dC{P:Program}{f:FuncId}{xs:List AV}{σ:Hp}{K:AV→Hp→Prop}(js:List Nat){x:Bool}{σ2:Hp}(h:ACalls P f xs (oF js σ) (ay (.bool x) σ2))(k1:x=true→K (.bool true) σ2)(k2:x=false→K (.bool false) σ2):CallAt P f K xs σ:=
 aw js h (by cases x;exact k2 rfl;exact k1 rfl)
theorem Il{P:Program}{f:FuncId}{xs:List AV}{σ:Hp}{K:AV→Prop}(js:List Nat){x:Bool}(h:ACalls P f xs (oF js σ) (ay (.bool x) (oF js σ)))(k1:x=true→K (.bool true))(k2:x=false→K (.bool false)):tX P f xs σ K:=
 aI js h (by cases x;exact k2 rfl;exact k1 rfl)
theorem eY.kL{i:TI}{σ:Hp}{b o:Nat}{K:AV→Prop}(j:Nat)(cs:List AV)(x:Bool)(h1:σ[j]?=some (b,cs))(h2:ep i cs o=some (.bool x))(k1:x=true→K (.bool true))(k2:x=false→K (.bool false)):eY i σ b o K:=
 .mk j cs _ h1 h2 (by cases x;exact k2 rfl;exact k1 rfl)
theorem xC{b off len es:Nat}{e:Sh}{l:List e.T}:eO b off len es e l (.tup []) (.tup []):=.refl _
theorem cd{b off len es:Nat}{e:Sh}{l:List e.T}{x y:AV}{xs ys:List AV}(h:eO b off len es e l x y)(t:eO b off len es e l (.tup xs) (.tup ys)):eO b off len es e l (.tup (x::xs)) (.tup (y::ys)):=by
 have hl:xs.length=ys.length∧∀(i:Nat) (x y:AV),xs[i]?=some x→ys[i]?=some y→eO b off len es e l x y:=by
  cases t with
  |refl=>exact⟨rfl,fun i x y hx hy=>by rw[hx]at hy;cases hy;exact .refl _⟩
  |tup _ _ h hi=>exact⟨h,hi⟩
 refine .tup _ _ (by simp[hl.1]) fun i x' y' hx hy=>?_
 cases i with
 |zero=>simp at hx hy;subst hx;subst hy;exact h
 |succ i=>exact hl.2 i x' y' (by simpa using hx) (by simpa using hy)
theorem cy{a b:Bool}(h:a=b):AV.bool a=AV.bool b:=by rw[h]
theorem aQ{k:IntKind}{a b:Int}(h:a=b):AV.int k a=AV.int k b:=by rw[h]
theorem eX(fr b σ:Hp):(b++(fr++σ)).Perm (fr++(b++σ)):=by
 rw[← dU,← dU]
 exact List.Perm.append_right _ PC
theorem kf.mem{σ:Hp}{b off len es:Nat}{cs:List AV}(h:(b,cs)∈σ)(h2:off+len*es≤cs.length):kf σ es (.af b off len es) len ((cs.drop off).take (len*es)):=by
 obtain⟨j,hj⟩:=re.1 h
 exact .af j b off len cs hj h2
theorem kf.perm{σ σ2:Hp}{es n:Nat}{x:AV}{new:List AV}(h:kf σ es x n new)(hp:σ2.Perm σ):kf σ2 es x n new:=by
 cases h with
 |ai=>exact .ai
 |kI=>exact .kI
 |gQ=>exact .gQ
 |ae s l h=>exact .ae s l h
 |af j b off len cs h1 h2=>
  obtain⟨j',hj⟩:=re.1 (hp.mem_iff.2 (cx h1))
  exact .af j' b off _ cs hj h2
inductive Acc(e:Nat):Nat→AV→Hp→List AV→Prop where
 |nil:Acc e 0 .ai [] []
 |af (b k:Nat) (cs:List AV) (h:cs.length=k*e):Acc e k (.af b 0 k e) [(b,cs)] cs
theorem Acc.length{e k:Nat}{v:AV}{acc:Hp}{cs:List AV}(h:Acc e k v acc cs):cs.length=k*e:=by
 cases h with
 |nil=>simp
 |af b k cs h=>exact h
theorem AY(fr acc σ:Hp):(acc++(fr++σ)).Perm (fr++(acc++σ)):=eX fr acc σ
theorem jP{i:TI}{K:AV→Hp→Prop}(fr:Hp){acc σ:Hp}{k n:Nat}{v x:AV}{cs new:List AV}(h:Acc i.size k v acc cs)(hx:kf (fr++(acc++σ)) i.size x n new)(iz:new.length=n*i.size)(hn:k+n≤1048576)(hb:i.bytes≤1024)(h0:0<i.size)
  (go:∀v' bD,Acc i.size (k+n) v' bD (cs++new)→K (.via v') (fr++(bD++σ))):AppendAt i (fr++(acc++σ)) v x K:=by
 have hl:=h.length
 cases h with
 |nil=>
  refine .perm _ (eX fr [] σ) (.fresh n new (.inl rfl) (hx.perm (eX fr [] σ)) (by omega) hb h0 (K:=fun v ew=>(n=0∧v=.ai∧ew=[]++(fr++σ))∨(n≠0∧∃b,v=.af b 0 n i.size∧ew=(b,new)::([]++(fr++σ)))) (fun aX b=>.inr ⟨aX,b,rfl,rfl⟩) (fun h0=>.inl ⟨h0,rfl,rfl⟩)) ?_
  rintro v ew (⟨hz,rfl,rfl⟩ | ⟨hz,b,rfl,rfl⟩)
  ·subst hz
   obtain rfl:new=[]:=List.length_eq_zero_iff.1 (by simpa using iz)
   exact⟨_,(eX fr [] σ).symm,.inr ⟨rfl,go _ _ .nil⟩⟩
  ·refine⟨_,(eX fr [(b,new)] σ).symm,.inr ⟨rfl,go _ _ ?_⟩⟩
   have:=Acc.af (e:=i.size) b (0+n) new (by rw[iz,dR])
   rw[dR]at this ⊢
   exact this
 |af b k cs h=>
  refine .perm _ (eX fr [(b,cs)] σ) (.more 0 b k n cs new rfl rfl (by rw[h];exact a8 _) (hx.perm (eX fr [(b,cs)] σ)) hn hb h0 (K:=fun v ew=>∃b',v=.af b' 0 (k+n) i.size∧ew=(b',cs.take (k*i.size)++new)::(fr++σ)) (fun b'=>⟨b',rfl,rfl⟩)) ?_
  rintro v ew ⟨b',rfl,rfl⟩
  rw[ek (by omega)]
  exact⟨_,(eX fr [(b',cs++new)] σ).symm,.inr ⟨rfl,go _ _ (.af _ _ _ (by rw[bZ,h,iz,qc]))⟩⟩
theorem qs{R:AV→Hp→Prop}(fr:Hp){acc σ:Hp}{s:Sh}{k:Nat}{v:AV}{cs:List AV}{l:List s.T}(h:Acc s.size k v acc cs)(hl:k=l.length)(hc:cs=l.flatMap s.cells)(hp:0<s.size)(go:Fin R (.ae s l) (fr++σ)):Fin R v (fr++(acc++σ)):=by
 subst hl
 have hlen:=h.length
 refine .perm (eX fr acc σ) ?_
 generalize hk:l.length=k at h
 cases h with
 |nil=>
  obtain rfl:=iE.1 hk
  exact .nil (.nil _) go
 |af b k cs h=>
  subst hk
  exact .cJ 0 b 0 l.length s.size cs s l rfl (by rw[gz,ek (by omega)];exact hc) ⟨rfl,rfl,hp⟩ .here go
def ao(l:List Int):List AV:=l.map (.int .i64)
theorem uY:∀l:List Int,ao l=l.flatMap (Sh.cells (.int .i64))
 | []=>rfl
 |x::l=>congrArg (AV.int .i64 x :: ·) (uY l)
theorem ot{f:FuncId}{xs:List AV}{σ σ':Hp}{x y:AV}(h:ACalls Tryz.prog f xs σ (ay x σ'))(e:x=y):ACalls Tryz.prog f xs σ (ay y σ'):=e▸h
theorem rF{α:Type}{l:List α}{k:Nat}(h:k<l.length)(p:α→Bool):(l.take (k+1)).any p=((l.take k).any p||p l[k]):=by
 rw[List.take_succ_eq_append_getElem h,List.any_append];simp
set_option maxRecDepth 100000
theorem AE{i:TI}{K:AV→Hp→Prop}(fr:Hp){acc σ:Hp}{k n:Nat}{v x:AV}{cs new:List AV}(h:Acc i.size k v acc cs)(hx:kf (fr++(acc++σ)) i.size x n new)(iz:new.length=n*i.size)(hn:k+n≤1048576)(hb:i.bytes≤1024)(h0:0<i.size)
  (go:∀v' bD,Acc i.size (k+n) v' bD (cs++new)→K v' (fr++(bD++σ))):AppendAt i (fr++(acc++σ)) v x K:=by
 have hl:=h.length
 cases h with
 |nil=>
  refine .perm _ (eX fr [] σ) (.fresh n new (.inl rfl) (hx.perm (eX fr [] σ)) (by omega) hb h0 (K:=fun v ew=>(n=0∧v=.ai∧ew=[]++(fr++σ))∨(n≠0∧∃b,v=.af b 0 n i.size∧ew=(b,new)::([]++(fr++σ)))) (fun aX b=>.inr ⟨aX,b,rfl,rfl⟩) (fun h0=>.inl ⟨h0,rfl,rfl⟩)) ?_
  rintro v ew (⟨hz,rfl,rfl⟩ | ⟨hz,b,rfl,rfl⟩)
  ·subst hz
   obtain rfl:new=[]:=List.length_eq_zero_iff.1 (by simpa using iz)
   exact⟨_,(eX fr [] σ).symm,.inl (go _ _ .nil)⟩
  ·refine⟨_,(eX fr [(b,new)] σ).symm,.inl (go _ _ ?_)⟩
   have:=Acc.af (e:=i.size) b (0+n) new (by rw[iz,dR])
   rw[dR]at this ⊢
   exact this
 |af b k cs h=>
  refine .perm _ (eX fr [(b,cs)] σ) (.more 0 b k n cs new rfl rfl (by rw[h];exact a8 _) (hx.perm (eX fr [(b,cs)] σ)) hn hb h0 (K:=fun v ew=>∃b',v=.af b' 0 (k+n) i.size∧ew=(b',cs.take (k*i.size)++new)::(fr++σ)) (fun b'=>⟨b',rfl,rfl⟩)) ?_
  rintro v ew ⟨b',rfl,rfl⟩
  rw[ek (by omega)]
  exact⟨_,(eX fr [(b',cs++new)] σ).symm,.inl (go _ _ (.af _ _ _ (by rw[bZ,h,iz,qc])))⟩
theorem ov(f:List Hp)(σ:Hp){a b:List Nat}(h:a.Perm b):(a.foldr (fun i t=>f.getD i []++t) σ).Perm (b.foldr (fun i t=>f.getD i []++t) σ):=by
 induction h with
 |nil=>exact .refl _
 |cons x _ ih=>exact ih.append_left _
 |swap x y l=>exact eX _ _ _
 |trans _ _ Fe Fc=>exact Fe.trans Fc
def aP(ws:List Int):List AV:=ws.map (.int .u64)
theorem xv(n:Nat):cD [.int .u64 0] n=aP (List.replicate n 0):=by
 unfold aP
 induction n with
 |zero=>rfl
 |succ n ih=>simp[cD,ih,List.replicate_succ]
theorem kC:∀(ws:List Int),aP ws=ws.flatMap (Sh.cells (.int .u64))
 | []=>rfl
 |z::ws=>congrArg (AV.int .u64 z :: ·) (kC ws)
theorem V0(n:Int)(σ:Hp):ACalls Tryz.prog 335 [.int .i64 n] σ (fun r σ'=>∃m,r=.int .i64 m∧σ'=σ):=by
 refine ar Tryz.func335 ?_
 refine eD ?_
 refine ak (fun h1=>?_) (fun h1=>?_)
 ·have h1:32767<n.tmod 65536:=h1
  exact .done ⟨_,rfl,rfl⟩
 ·have h1:¬(32767<n.tmod 65536):=h1
  refine ak (fun h2=>?_) (fun h2=>?_)
  ·have h2:n.tmod 65536 < -32768:=h2
   exact .done ⟨_,rfl,rfl⟩
  ·have h2:¬(n.tmod 65536 < -32768):=h2
   exact .done ⟨_,rfl,rfl⟩
theorem aiU(a b:Int)(σ:Hp):ACalls Tryz.prog 309 [.int .i64 a,.int .i64 b] σ (fun r σ'=>∃x y,r=.agg [.int .i64 x,.int .i64 y]∧σ'=σ):=by
 refine ar Tryz.func309 ?_
 intro b1
 (refine .mk [] _ (V0 _ _) ?_;rintro _ _ ⟨x,rfl,rfl⟩)
 (refine .mk [] _ (V0 _ _) ?_;rintro _ _ ⟨x,rfl,rfl⟩)
 refine aj 0 ?_
 refine aa 0 ?_
 exact .drop 0 1 (.done ⟨_,_,rfl,rfl⟩)
theorem Dz{w:Int}{k m:Nat}(hk:min (Int.toNat (k:Int)) IntKind.u64.bits=m):w.fdiv (2 ^ min (Int.toNat (k:Int)) IntKind.u64.bits)=w / 2 ^ m:=by
 rw[hk];exact Int.fdiv_eq_ediv_of_nonneg _ (Int.le_of_lt (Int.pow_pos (by decide)))
theorem IL(w:Int):bits .and .u64 w 3=w % 4:=by
 show IntKind.u64.wrap ((BitVec.ofInt 64 w &&& BitVec.ofInt 64 3).toNat:Int)=_
 have h3:(BitVec.ofInt 64 3:BitVec 64).toNat=2 ^ 2-1:=by decide
 rw[BitVec.toNat_and,h3,PK,BitVec.toNat_ofInt,IntKind.wrap_u64]
 omega
def eJ(w:Int):Bool:=decide (w % 4=2)&&decide (0≤w∧w<17179869184)
theorem af3(w:Int)(σ:Hp):ACalls Tryz.prog 285 [.int .u64 w] σ (fun r σ'=>∃x y,r=.tup [.agg [.int .i64 x,.int .i64 y],.bool (decide (0≤w∧w<4294967296))]∧σ'=σ):=by
 have e:=Dz (k:=32) (m:=32) (w:=w) (by decide)
 refine ar Tryz.func285 ?_
 intro b1
 refine eD ?_
 refine cX (fun h2=>?_) (fun h2=>?_)
 ·have h2:¬(w.fdiv (2 ^ min (Int.toNat 32) IntKind.u64.bits)=0):=by simpa using h2
  have hw:¬(0≤w∧w<4294967296):=fun h=>h2 (by rw[show w.fdiv (2 ^ min (Int.toNat 32) IntKind.u64.bits)=w / 2 ^ 32 from e];omega)
  refine aj 0 ?_
  refine aa 0 ?_
  exact .drop 0 1 (.done ⟨_,_,by rw[bS hw];rfl,rfl⟩)
 ·have h2:w.fdiv (2 ^ min (Int.toNat 32) IntKind.u64.bits)=0:=by simpa using h2
  have hw:0≤w∧w<4294967296:=by rw[show w.fdiv (2 ^ min (Int.toNat 32) IntKind.u64.bits)=w / 2 ^ 32 from e]at h2;omega
  refine eD ?_
  (refine .mk [] _ (aiU _ _ _) ?_;rintro _ _ ⟨x,y,rfl,rfl⟩)
  refine aj 0 ?_
  refine aa 0 ?_
  exact .drop 0 1 (.done ⟨_,_,by rw[aT hw];rfl,rfl⟩)
theorem aiQ(w:Int)(σ:Hp):ACalls Tryz.prog 251 [.int .u64 w] σ (fun r σ'=>∃x y,r=.tup [.agg [.int .i64 x,.int .i64 y],.bool (eJ w)]∧σ'=σ):=by
 have e:=Dz (k:=2) (m:=2) (w:=w) (by decide)
 refine ar Tryz.func251 ?_
 intro b1
 refine cX (fun h2=>?_) (fun h2=>?_)
 ·have h2:¬(bits BinOp.and IntKind.u64 w 3=2):=by simpa using h2
  rw[IL]at h2
  refine aj 0 ?_
  refine aa 0 ?_
  exact .drop 0 1 (.done ⟨_,_,by rw[show eJ w=false by simp[eJ,h2]];rfl,rfl⟩)
 ·have h2:bits BinOp.and IntKind.u64 w 3=2:=by simpa using h2
  rw[IL]at h2
  refine eD ?_
  have e':w.fdiv (2 ^ min (Int.toNat 2) IntKind.u64.bits)=w / 4:=e
  refine .mk [] _ (af3 _ _) ?_
  rintro _ _ ⟨x,y,rfl,rfl⟩
  have hk:decide (0≤w.fdiv (2 ^ min (Int.toNat 2) IntKind.u64.bits)∧w.fdiv (2 ^ min (Int.toNat 2) IntKind.u64.bits)<4294967296)=eJ w:=by
   rw[e',show eJ w=decide (0≤w∧w<17179869184) by simp[eJ,h2]];exact decide_eq_decide.2 (by omega)
  refine aj 0 ?_
  refine aa 0 ?_
  exact .drop 0 1 (.done ⟨_,_,by rw[hk];rfl,rfl⟩)
def aJ(w:Int):Int:=if w=0 then 0 else if w=1 then 1 else if eJ w then w else 1
theorem LZ{w:Int}(h:eJ w=true):w≠0∧w≠1:=by
 unfold eJ at h;simp at h;omega
theorem aIs(w:Int)(σ:Hp):ACalls Tryz.prog 202 [.int .u64 w] σ (ay (.bool (eJ w||decide (w=0)||decide (w=1))) σ):=by
 refine ar Tryz.func202 ?_
 refine .mk [] _ (aiQ w _) ?_
 rintro _ _ ⟨x,y,rfl,rfl⟩
 cases hn:eJ w
 ·intro aB
  refine aj 0 ?_
  refine ak (fun c2=>?_) (fun c2=>?_)
  ·have c2:w=0:=c2
   exact .drop 0 1 (.done ⟨cy (by simp[*]),rfl⟩)
  ·have c2:¬(w=0):=c2
   refine ak (fun c3=>?_) (fun c3=>?_)
   ·have c3:w=1:=c3
    exact .drop 0 1 (.done ⟨cy (by simp[*]),rfl⟩)
   ·have c3:¬(w=1):=c3
    exact .drop 0 1 (.done ⟨cy (by simp[*]),rfl⟩)
 ·intro aB
  refine aj 0 ?_
  exact .drop 0 1 (.done ⟨cy (by simp[*]),rfl⟩)
theorem NG(w:Int)(σ:Hp):ACalls Tryz.prog 333 [.int .u64 w] σ (ay (.int .u64 (aJ w)) σ):=by
 refine ar Tryz.func333 ?_
 refine dC [] (aIs w σ) (fun h=>?_) (fun h=>?_)
 ·refine .done ⟨aQ ?_,rfl⟩
  unfold aJ
  simp at h
  rcases h with (h | h) | h
  ·simp[h,LZ h]
  ·simp[h]
  ·simp[h]
 ·exact .done ⟨aQ (by unfold aJ;simp at h;simp[h]),rfl⟩
def kF(a b:Int):Int:=if aJ a=aJ b∨aJ b=0 then aJ a else if aJ a=0 then aJ b else 1
theorem agT(a b:Int)(σ:Hp):ACalls Tryz.prog 304 [.int .u64 a,.int .u64 b] σ (ay (.int .u64 (kF a b)) σ):=by
 refine ar Tryz.func304 ?_
 refine aw [] (NG _ _) ?_
 refine aw [] (NG _ _) ?_
 refine ak (fun c1=>?_) (fun c1=>?_)
 ·have c1:aJ a=aJ b:=c1
  exact .done ⟨aQ (by unfold kF;split <;> (try split) <;> omega),rfl⟩
 ·have c1:¬(aJ a=aJ b):=c1
  refine ak (fun c2=>?_) (fun c2=>?_)
  ·have c2:aJ b=0:=c2
   exact .done ⟨aQ (by unfold kF;split <;> (try split) <;> omega),rfl⟩
  ·have c2:¬(aJ b=0):=c2
   refine ak (fun c3=>?_) (fun c3=>?_)
   ·have c3:aJ a=0:=c3
    exact .done ⟨aQ (by unfold kF;split <;> (try split) <;> omega),rfl⟩
   ·have c3:¬(aJ a=0):=c3
    exact .done ⟨aQ (by unfold kF;split <;> (try split) <;> omega),rfl⟩
def de(what a b:Int):Int:=if what=1 then bits .or .u64 a b else if what=2 then bits .and .u64 a b else if what=3 then kF a b else 0
theorem ND(what a b:Int)(σ:Hp):ACalls Tryz.prog 279 [.int .i64 what,.int .u64 a,.int .u64 b] σ (ay (.int .u64 (de what a b)) σ):=by
 refine ar Tryz.func279 ?_
 refine ak (fun c1=>?_) (fun c1=>?_)
 ·have c1:what=1:=c1
  exact .done ⟨aQ (by simp[de, *]),rfl⟩
 ·have c1:¬(what=1):=c1
  refine ak (fun c2=>?_) (fun c2=>?_)
  ·have c2:what=2:=c2
   exact .done ⟨aQ (by simp[de, *]),rfl⟩
  ·have c2:¬(what=2):=c2
   refine ak (fun c3=>?_) (fun c3=>?_)
   ·have c3:what=3:=c3
    refine aw [] (agT _ _ _) ?_
    exact .done ⟨aQ (by simp[de, *]),rfl⟩
   ·have c3:¬(what=3):=c3
    exact .done ⟨aQ (by simp[de, *]),rfl⟩
theorem U4(n:Int)(σ:Hp):ACalls Tryz.prog 261 [.int .i64 n] σ (fun r σ'=>∃m,r=.int .i64 m∧σ'=σ):=by
 refine ar Tryz.func261 ?_
 refine eD ?_
 refine eD ?_
 exact .done ⟨_,rfl,rfl⟩
theorem ahB(a b:Int)(σ:Hp):ACalls Tryz.prog 223 [.int .i64 a,.int .i64 b] σ (fun r σ'=>∃x y,r=.agg [.int .i64 x,.int .i64 y]∧σ'=σ):=by
 refine ar Tryz.func223 ?_
 intro aB
 (refine .mk [] _ (U4 _ _) ?_;rintro _ _ ⟨x,rfl,rfl⟩)
 (refine .mk [] _ (U4 _ _) ?_;rintro _ _ ⟨x,rfl,rfl⟩)
 refine aj 0 ?_
 refine aa 0 ?_
 exact .drop 0 1 (.done ⟨_,_,rfl,rfl⟩)
theorem ahA(w:Int)(σ:Hp)(h0:0≤w)(h2:w<18446744073709551616):ACalls Tryz.prog 179 [.int .u64 w] σ (fun r σ'=>∃x y,r=.tup [.agg [.int .i64 x,.int .i64 y],.bool (eJ w)]∧σ'=σ):=by
 have e1:w.tmod 4=w % 4:=uO h0
 have e2:IntKind.u64.wrap (w.tdiv 4)=w / 4:=by rw[CD h0,IntKind.wrap_u64];omega
 refine ar Tryz.func179 ?_
 intro aB
 refine eD ?_
 refine cX (fun c2=>?_) (fun c2=>?_)
 ·have c2:¬(w.tmod 4=2):=by simpa using c2
  refine aj 0 ?_
  refine aa 0 ?_
  exact .drop 0 1 (.done ⟨_,_,by rw[show eJ w=false by unfold eJ;simp;omega];rfl,rfl⟩)
 ·have c2:w.tmod 4=2:=by simpa using c2
  refine eD ?_
  refine ak (fun c3=>?_) (fun c3=>?_)
  ·have c3:4294967296≤IntKind.u64.wrap (w.tdiv 4):=c3
   refine aj 0 ?_
   refine aa 0 ?_
   exact .drop 0 1 (.done ⟨_,_,by rw[show eJ w=false by unfold eJ;simp;omega];rfl,rfl⟩)
  ·have c3:¬(4294967296≤IntKind.u64.wrap (w.tdiv 4)):=c3
   refine eD ?_
   refine eD ?_
   refine eD ?_
   (refine .mk [] _ (ahB _ _ _) ?_;rintro _ _ ⟨x,y,rfl,rfl⟩)
   refine aj 0 ?_
   refine aa 0 ?_
   exact .drop 0 1 (.done ⟨_,_,by rw[show eJ w=true by unfold eJ;simp;omega];rfl,rfl⟩)
theorem Ir(w:Int)(σ:Hp)(h0:0≤w)(h2:w<18446744073709551616):ACalls Tryz.prog 129 [.int .u64 w] σ (ay (.int .u64 (aJ w)) σ):=by
 refine ar Tryz.func129 ?_
 refine .mk [] _ (ahA w _ h0 h2) ?_
 rintro _ _ ⟨x,y,rfl,rfl⟩
 cases hn:eJ w
 ·intro aB
  refine aj 0 ?_
  refine cX (fun c2=>?_) (fun c2=>?_)
  ·have c2:¬(w=0):=by simpa using c2
   exact .drop 0 1 (.done ⟨aQ (by simp[aJ, *]),rfl⟩)
  ·have c2:w=0:=by simpa using c2
   exact .drop 0 1 (.done ⟨aQ (by simp[aJ, *]),rfl⟩)
 ·have aX:=LZ hn
  intro aB
  refine aj 0 ?_
  refine cX (fun c2=>?_) (fun c2=>?_)
  ·have c2:¬(w=0):=by simpa using c2
   exact .drop 0 1 (.done ⟨aQ (by simp[aJ, *]),rfl⟩)
  ·have c2:w=0:=by simpa using c2
   exact .drop 0 1 (.done ⟨aQ (by simp[aJ, *]),rfl⟩)
theorem agH(a b:Int)(σ:Hp)(h0:0≤a)(h1:0≤b)(h2:a<18446744073709551616)(h3:b<18446744073709551616):ACalls Tryz.prog 231 [.int .u64 a,.int .u64 b] σ (ay (.int .u64 (kF a b)) σ):=by
 refine ar Tryz.func231 ?_
 refine aw [] (Ir _ _ h0 h2) ?_
 refine aw [] (Ir _ _ h1 h3) ?_
 refine ak (fun c1=>?_) (fun c1=>?_)
 ·have c1:aJ a=0:=c1
  exact .done ⟨aQ (by unfold kF;split <;> (try split) <;> omega),rfl⟩
 ·have c1:¬(aJ a=0):=c1
  refine ak (fun c2=>?_) (fun c2=>?_)
  ·have c2:aJ a=aJ b:=c2
   exact .done ⟨aQ (by unfold kF;split <;> (try split) <;> omega),rfl⟩
  ·have c2:¬(aJ a=aJ b):=c2
   refine ak (fun c3=>?_) (fun c3=>?_)
   ·have c3:aJ b=0:=c3
    exact .done ⟨aQ (by unfold kF;split <;> (try split) <;> omega),rfl⟩
   ·have c3:¬(aJ b=0):=c3
    exact .done ⟨aQ (by unfold kF;split <;> (try split) <;> omega),rfl⟩
theorem agE(what a b:Int)(σ:Hp)(h0:0≤a)(h1:0≤b)(h2:a<18446744073709551616)(h3:b<18446744073709551616):ACalls Tryz.prog 177 [.int .i64 what,.int .u64 a,.int .u64 b] σ (ay (.int .u64 (de what a b)) σ):=by
 refine ar Tryz.func177 ?_
 refine ak (fun c1=>?_) (fun c1=>?_)
 ·have c1:what=1:=c1
  exact .done ⟨aQ (by simp[de, *]),rfl⟩
 ·have c1:¬(what=1):=c1
  refine ak (fun c2=>?_) (fun c2=>?_)
  ·have c2:what=2:=c2
   exact .done ⟨aQ (by simp[de, *]),rfl⟩
  ·have c2:¬(what=2):=c2
   refine ak (fun c3=>?_) (fun c3=>?_)
   ·have c3:what=3:=c3
    refine aw [] (agH _ _ _ h0 h1 h2 h3) ?_
    exact .done ⟨aQ (by simp[de, *]),rfl⟩
   ·have c3:¬(what=3):=c3
    exact .done ⟨aQ (by simp[de, *]),rfl⟩
def wd(a:List Int)(i:Nat):Int:=(a[i]?).getD 0
def bG(z:Int):Prop:=0≤z∧z<18446744073709551616
def aR(l:List Int):Prop:=∀z∈l,bG z
theorem Dv(n:Int):bG (IntKind.u64.wrap n):=by rw[IntKind.wrap_u64];unfold bG;omega
theorem HJ{w:Int}(h:bG w):bG (aJ w):=by
 unfold aJ
 split
 ·exact⟨by decide,by decide⟩
 ·split
  ·exact⟨by decide,by decide⟩
  ·split
   ·exact h
   ·exact⟨by decide,by decide⟩
theorem Uc{what a b:Int}(ha:bG a)(hb:bG b):bG (de what a b):=by
 unfold de
 split
 ·exact Dv _
 ·split
  ·exact Dv _
  ·split
   ·unfold kF
    split
    ·exact HJ ha
    ·split
     ·exact HJ hb
     ·exact⟨by decide,by decide⟩
   ·exact⟨by decide,by decide⟩
theorem lp{l:List Int}(h:aR l)(i:Nat):bG (wd l i):=by
 unfold wd
 cases hq:l[i]? with
 |none=>exact⟨by decide,by decide⟩
 |some x=>exact h x (cx hq)
end Go.Proofs.YtnikdflhefijbaaGreat
